/-
  Expressions and statements, read.
-/
import Derived.Test.YthajiefjebcobaaDoorRead
import Derived.Test.YthajiefjebcobaaDoorTreeData
set_option linter.all false
set_option linter.unusedSimpArgs false
set_option linter.unusedVariables false
namespace Go.Ev
open Go

inductive FK where
  | int (k : IntKind) | str | bool | sl (e : TypeId) | st (t : TypeId) | oth
  deriving DecidableEq
def kindT (P : Program) (t : TypeId) : FK := match P.underlying t with
  | some (.int k) => .int k
  | some .string => .str
  | some .bool => .bool
  | some (.slice e) => .sl e
  | some (.struct _) => .st t
  | _ => .oth
/-- A struct of so many cells, its fields at these places, of these kinds. -/
def structIs (P : Program) (t : TypeId) (n : Nat) (l : List (Nat × FK × Nat)) : Bool := match P.underlying t with
  | some (.struct fs) => fs.toList.map (fun f => (f.offset, kindT P f.type, P.cellsOf f.type)) == l && P.cellsOf t == n
  | _ => false

section
variable {P : Program}
theorem kind_int {t : TypeId} {k : IntKind} (h : kindT P t = .int k) {n : Nat} {vs : List V} (hf : fits P n t vs) : ∃ i, vs = [.int k i] ∧ (Lit.int k i).wf = true := by
  unfold kindT at h
  cases n with
  | zero => exact hf.elim
  | succ n =>
    simp only [fits] at hf
    split at h <;> cases h
    rename_i hu
    rw [hu] at hf
    exact hf
theorem kind_str {t : TypeId} (h : kindT P t = .str) {n : Nat} {vs : List V} (hf : fits P n t vs) : ∃ s, vs = [.str s] ∧ ∀ b ∈ s, b < 256 := by
  unfold kindT at h
  cases n with
  | zero => exact hf.elim
  | succ n =>
    simp only [fits] at hf
    split at h <;> cases h
    rename_i hu
    rw [hu] at hf
    exact hf
theorem kind_bool {t : TypeId} (h : kindT P t = .bool) {n : Nat} {vs : List V} (hf : fits P n t vs) : ∃ b, vs = [.bool b] := by
  unfold kindT at h
  cases n with
  | zero => exact hf.elim
  | succ n =>
    simp only [fits] at hf
    split at h <;> cases h
    rename_i hu
    rw [hu] at hf
    exact hf
theorem kind_sl {t e : TypeId} (h : kindT P t = .sl e) {n : Nat} {vs : List V} (hf : fits P (n + 1) t vs) : ∃ xs, vs = [.sl .any xs] ∧ ∀ x ∈ xs, ∃ cs, fits P n e cs ∧ x = wrapT P e cs ∧ x.cells = cs := by
  unfold kindT at h
  simp only [fits] at hf
  split at h <;> cases h
  rename_i hu
  rw [hu] at hf
  exact hf
theorem struct_at {t : TypeId} {m : Nat} {l : List (Nat × FK × Nat)} (h : structIs P t m l = true) {n : Nat} {vs : List V} (hf : fits P (n + 1) t vs) :
    vs.length = m ∧ (∀ cs, wrapT P t cs = .agg cs) ∧ ∀ (i o c : Nat) (k : FK), l[i]? = some (o, k, c) → ∃ t', kindT P t' = k ∧ fits P n t' ((vs.drop o).take c) := by
  unfold structIs at h
  simp only [fits] at hf
  split at h
  rotate_left
  · cases h
  rename_i fs hu
  rw [hu] at hf
  simp only [Bool.and_eq_true, beq_iff_eq] at h
  obtain ⟨h1, h2⟩ := h
  refine ⟨by rw [hf.1, h2], fun cs => by simp only [wrapT, hu], fun i o c k hi => ?_⟩
  rw [← h1, List.getElem?_map] at hi
  cases hg : fs.toList[i]? with
  | none => rw [hg] at hi; cases hi
  | some f =>
    rw [hg] at hi
    simp only [Option.map_some, Option.some.injEq, Prod.mk.injEq] at hi
    obtain ⟨rfl, rfl, rfl⟩ := hi
    exact ⟨f.type, rfl, hf.2 i f (by simpa using hg)⟩

/-- A list of things, each of them read. -/
theorem list_of {α : Type} {enc : α → V} {size : α → Nat} {n : Nat} {e : TypeId} (hw : ∀ cs, wrapT P e cs = .agg cs) (ih : ∀ vs, fits P n e vs → ∃ x : α, enc x = .agg vs ∧ size x ≤ bulkL vs) :
    ∀ (xs : List V), (∀ x ∈ xs, ∃ cs, fits P n e cs ∧ x = wrapT P e cs ∧ x.cells = cs) → ∃ l : List α, xs = l.map enc ∧ (l.map size).sum ≤ bulkL xs
  | [], _ => ⟨[], rfl, by simp⟩
  | x :: xs, h => by
    obtain ⟨cs, h1, h2, h3⟩ := h x (by simp)
    obtain ⟨y, k1, k2⟩ := ih cs h1
    obtain ⟨l, m1, m2⟩ := list_of hw ih xs (fun x hx => h x (by simp [hx]))
    rw [hw] at h2
    refine ⟨y :: l, by rw [List.map_cons, k1, ← h2, ← m1], ?_⟩
    have : x.bulk = bulkL cs := by rw [h2]; rfl
    simp only [List.map_cons, List.sum_cons, bulkL]
    omega

theorem sizeEs_sum (l : List E) : sizeEs l = (l.map E.size).sum := by induction l <;> simp [sizeEs, *]
theorem sizeSs_sum (l : List S) : sizeSs l = (l.map S.size).sum := by induction l <;> simp [sizeSs, *]

def isE (P : Program) (tE : TypeId) : Bool := structIs P tE 8 [(0, .int .i64, 1), (1, .int .i32, 1), (2, .str, 1), (3, .str, 1), (4, .str, 1), (5, .sl tE, 1), (6, .str, 1), (7, .int .i64, 1)]
def isS (P : Program) (tS tE : TypeId) : Bool := structIs P tS 9 [(0, .int .i64, 1), (1, .int .i32, 1), (2, .str, 1), (3, .str, 1), (4, .sl tE, 1), (5, .sl tS, 1), (6, .sl tS, 1), (7, .sl tS, 1), (8, .int .i64, 1)]

theorem E_of {tE : TypeId} (h : isE P tE = true) : ∀ (n : Nat) (vs : List V), fits P n tE vs → ∃ e : E, e.enc = .agg vs ∧ e.size ≤ bulkL vs
  | 0, vs, hf => hf.elim
  | n + 1, vs, hf => by
    obtain ⟨hl, hw, hfl⟩ := struct_at h hf
    match vs, hl with
    | [v0, v1, v2, v3, v4, v5, v6, v7], _ =>
      obtain ⟨t0, a0, b0⟩ := hfl 0 _ _ _ rfl
      obtain ⟨t1, a1, b1⟩ := hfl 1 _ _ _ rfl
      obtain ⟨t2, a2, b2⟩ := hfl 2 _ _ _ rfl
      obtain ⟨t3, a3, b3⟩ := hfl 3 _ _ _ rfl
      obtain ⟨t4, a4, b4⟩ := hfl 4 _ _ _ rfl
      obtain ⟨t5, a5, b5⟩ := hfl 5 _ _ _ rfl
      obtain ⟨t6, a6, b6⟩ := hfl 6 _ _ _ rfl
      obtain ⟨t7, a7, b7⟩ := hfl 7 _ _ _ rfl
      obtain ⟨i0, e0, -⟩ := kind_int a0 b0
      obtain ⟨i1, e1, -⟩ := kind_int a1 b1
      obtain ⟨s2, e2, -⟩ := kind_str a2 b2
      obtain ⟨s3, e3, -⟩ := kind_str a3 b3
      obtain ⟨s4, e4, -⟩ := kind_str a4 b4
      obtain ⟨s6, e6, -⟩ := kind_str a6 b6
      obtain ⟨i7, e7, -⟩ := kind_int a7 b7
      cases n with
      | zero => exact b5.elim
      | succ n =>
        obtain ⟨xs, e5, hxs⟩ := kind_sl a5 b5
        obtain ⟨l, rfl, hs⟩ := list_of hw (fun vs hv => E_of h n vs hv) xs hxs
        simp only [List.drop_zero, List.drop_succ_cons, List.take_succ_cons, List.take_zero, List.cons.injEq, and_true] at e0 e1 e2 e3 e4 e5 e6 e7
        subst e0 e1 e2 e3 e4 e5 e6 e7
        refine ⟨.mk i0 i1 s2 s3 s4 l s6 i7, by rw [E.enc, encEs_map], ?_⟩
        have : (E.mk i0 i1 s2 s3 s4 l s6 i7).size = 1 + sizeEs l := rfl
        rw [this, sizeEs_sum]
        simp only [bulkL, V.bulk]
        omega

theorem S_of {tS tE : TypeId} (hE : isE P tE = true) (h : isS P tS tE = true) (hwE : ∀ cs, wrapT P tE cs = .agg cs) : ∀ (n : Nat) (vs : List V), fits P n tS vs → ∃ e : S, e.enc = .agg vs ∧ e.size ≤ bulkL vs
  | 0, vs, hf => hf.elim
  | n + 1, vs, hf => by
    obtain ⟨hl, hw, hfl⟩ := struct_at h hf
    match vs, hl with
    | [v0, v1, v2, v3, v4, v5, v6, v7, v8], _ =>
      obtain ⟨t0, a0, b0⟩ := hfl 0 _ _ _ rfl
      obtain ⟨t1, a1, b1⟩ := hfl 1 _ _ _ rfl
      obtain ⟨t2, a2, b2⟩ := hfl 2 _ _ _ rfl
      obtain ⟨t3, a3, b3⟩ := hfl 3 _ _ _ rfl
      obtain ⟨t4, a4, b4⟩ := hfl 4 _ _ _ rfl
      obtain ⟨t5, a5, b5⟩ := hfl 5 _ _ _ rfl
      obtain ⟨t6, a6, b6⟩ := hfl 6 _ _ _ rfl
      obtain ⟨t7, a7, b7⟩ := hfl 7 _ _ _ rfl
      obtain ⟨t8, a8, b8⟩ := hfl 8 _ _ _ rfl
      obtain ⟨i0, e0, -⟩ := kind_int a0 b0
      obtain ⟨i1, e1, -⟩ := kind_int a1 b1
      obtain ⟨s2, e2, -⟩ := kind_str a2 b2
      obtain ⟨s3, e3, -⟩ := kind_str a3 b3
      obtain ⟨i8, e8, -⟩ := kind_int a8 b8
      cases n with
      | zero => exact b5.elim
      | succ n =>
        obtain ⟨x4, e4, h4⟩ := kind_sl a4 b4
        obtain ⟨x5, e5, h5⟩ := kind_sl a5 b5
        obtain ⟨x6, e6, h6⟩ := kind_sl a6 b6
        obtain ⟨x7, e7, h7⟩ := kind_sl a7 b7
        obtain ⟨l4, rfl, r4⟩ := list_of hwE (fun vs hv => E_of hE n vs hv) x4 h4
        obtain ⟨l5, rfl, r5⟩ := list_of hw (fun vs hv => S_of hE h hwE n vs hv) x5 h5
        obtain ⟨l6, rfl, r6⟩ := list_of hw (fun vs hv => S_of hE h hwE n vs hv) x6 h6
        obtain ⟨l7, rfl, r7⟩ := list_of hw (fun vs hv => S_of hE h hwE n vs hv) x7 h7
        simp only [List.drop_zero, List.drop_succ_cons, List.take_succ_cons, List.take_zero, List.cons.injEq, and_true] at e0 e1 e2 e3 e4 e5 e6 e7 e8
        subst e0 e1 e2 e3 e4 e5 e6 e7 e8
        refine ⟨.mk i0 i1 s2 s3 l4 l5 l6 l7 i8, by rw [S.enc, encEs_map, encSs_map, encSs_map, encSs_map], ?_⟩
        have : (S.mk i0 i1 s2 s3 l4 l5 l6 l7 i8).size = 1 + sizeEs l4 + sizeSs l5 + sizeSs l6 + sizeSs l7 := rfl
        rw [this, sizeEs_sum, sizeSs_sum, sizeSs_sum, sizeSs_sum]
        simp only [bulkL, V.bulk]
        omega

theorem wrap_struct {t : TypeId} {m : Nat} {l : List (Nat × FK × Nat)} (h : structIs P t m l = true) (cs : List V) : wrapT P t cs = .agg cs := by
  unfold structIs at h
  unfold wrapT
  split at h
  · rename_i hu
    rw [hu]
  · cases h

/-- A slice of them. -/
theorem Ss_of {tS tE t : TypeId} (hE : isE P tE = true) (h : isS P tS tE = true) (ht : kindT P t = .sl tS) {n : Nat} {vs : List V} (hf : fits P n t vs) : ∃ l : List S, vs = [.sl .any (encSs l)] ∧ sizeSs l ≤ bulkL vs := by
  cases n with
  | zero => exact hf.elim
  | succ n =>
    obtain ⟨xs, e, hx⟩ := kind_sl ht hf
    obtain ⟨l, rfl, r⟩ := list_of (wrap_struct h) (fun vs hv => S_of hE h (wrap_struct hE) n vs hv) xs hx
    subst e
    refine ⟨l, by rw [encSs_map], ?_⟩
    rw [sizeSs_sum]
    simp only [bulkL, V.bulk]
    omega
end
end Go.Ev
