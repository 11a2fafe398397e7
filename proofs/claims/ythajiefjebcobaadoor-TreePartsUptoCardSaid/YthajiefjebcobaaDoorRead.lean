/-
  What is read as data stands for the small machine's values.
-/
import Derived.Test.YthajiefjebcobaaDoorEvJob
import Derived.Test.YthajiefjebcobaaDoorRows
import Derived.ChangeArms
import Derived.DataReads
set_option linter.all false
set_option linter.unusedSimpArgs false
set_option linter.unusedVariables false
namespace Go.Ev
open Go Go.ChangeShapes

mutual
/-- How much a value holds. -/
def V.bulk : V → Nat
  | .str s => s.length + 1
  | .sl _ xs => bulkL xs + 1
  | .agg cs => bulkL cs
  | _ => 1
def bulkL : List V → Nat
  | [] => 0
  | v :: l => v.bulk + bulkL l
end
theorem bulkL_append (a b : List V) : bulkL (a ++ b) = bulkL a + bulkL b := by
  induction a with
  | nil => simp [bulkL]
  | cons v a ih => simp only [List.cons_append, bulkL, ih]; omega
theorem bulkL_mem {v : V} {l : List V} (h : v ∈ l) : v.bulk ≤ bulkL l := by
  induction l with
  | nil => cases h
  | cons x l ih =>
    rcases List.mem_cons.1 h with rfl | h
    · simp only [bulkL]; omega
    · have := ih h; simp only [bulkL]; omega

section
variable (P : Program)
/-- An element of a type, of its cells. -/
def wrapT (t : TypeId) (cs : List V) : V := match P.underlying t with
  | some (.struct _) => .agg cs
  | _ => cs.headD .any
/-- Cells of a type, so deep. -/
def fits : Nat → TypeId → List V → Prop
  | 0, _, _ => False
  | n + 1, t, vs => match P.underlying t with
    | some .bool => ∃ b, vs = [.bool b]
    | some (.int k) => ∃ i, vs = [.int k i] ∧ (Lit.int k i).wf = true
    | some .string => ∃ s, vs = [.str s] ∧ ∀ b ∈ s, b < 256
    | some (.slice e) => ∃ xs, vs = [.sl .any xs] ∧ ∀ x ∈ xs, ∃ cs, fits n e cs ∧ x = wrapT P e cs ∧ x.cells = cs
    | some (.struct fs) => vs.length = P.cellsOf t ∧ ∀ (i : Nat) (f : Field), fs[i]? = some f → fits n f.type ((vs.drop f.offset).take (P.cellsOf f.type))
    | _ => False
/-- Fields, one behind the other. -/
def tiles : Nat → List Field → Option Nat
  | off, [] => some off
  | off, f :: r => if f.offset = off then tiles (off + P.cellsOf f.type) r else none
/-- Types of plain data, closed. -/
def plainT (L : List TypeId) : Bool := L.all fun t => match P.underlying t with
  | some .bool | some (.int _) | some .string => P.cellsOf t == 1
  | some (.slice e) => L.contains e && decide (0 < P.cellsOf e) && P.cellsOf t == 1
  | some (.struct fs) => (fs.all fun f => L.contains f.type) && tiles P 0 fs.toList == some (P.cellsOf t)
  | _ => false
end

section
variable {P : Program} {C : Cfg} {g : Gh} {w : World} {H : Type} {enc : TypeId × Value → H} {base : Nat} {spare : Nat → Bool} {held : Bool}

mutual
def dbulk : DataW H → Nat
  | .lit (.string bytes) => bytes.length + 1
  | .lit _ => 1
  | .nil => 1
  | .ptr d => dbulk d + 1
  | .slice elems spare => dbulks elems + dbulks spare + 1
  | .agg parts => dbulks parts + 1
  | _ => 1
def dbulks : List (DataW H) → Nat
  | [] => 0
  | d :: r => dbulk d + dbulks r
end
theorem dbulks_append (a b : List (DataW H)) : dbulks (a ++ b) = dbulks a + dbulks b := by
  induction a with
  | nil => simp [dbulks]
  | cons v a ih => simp only [List.cons_append, dbulks, ih]; omega

theorem cells?_some {a : Addr} {n : Nat} {cs : List Value} (h : w.cells? base a n = some cs) : cs.length = n ∧ ∀ j u, cs[j]? = some u → w.cell? (a.add j) = some u := by
  unfold World.cells? at h
  split at h
  rotate_left
  · cases h
  refine ⟨by simpa using mapM_some_length h, fun j u hj => ?_⟩
  have hl : cs.length = n := by simpa using mapM_some_length h
  have hlt : j < n := by rw [← hl]; exact (List.getElem?_eq_some_iff.1 hj).1
  rw [mapM_some_get h j j (by simp [hlt]), hj]

theorem mem_row {a : Addr} {n j : Nat} (h : j < n) : MemPlace.cell a.block (a.off + j) ∈ MemPlace.row a n := List.mem_map.2 ⟨j, List.mem_range.2 h, rfl⟩

/-- Rows of elements, one by one. -/
theorem read_rows {n : Nat} {e : TypeId} {a : Addr} {T : List Value → Option (DataW H × List MemPlace)} {N : Nat}
    (ih : ∀ cs x, T cs = some x → (∀ p ∈ x.2, ∀ b j, p = .cell b j → b < w.heap.size → g.I b j) → ∃ vs, VRels C g [] w vs cs ∧ fits P N e vs ∧ bulkL vs ≤ dbulk x.1) :
    ∀ (len : Nat) (elems : List (DataW H × List MemPlace)), (List.range len).mapM (fun i => (w.cells? base (a.add (i * n)) n).bind T) = some elems →
    (∀ y ∈ elems, ∀ p ∈ y.2, ∀ b j, p = .cell b j → b < w.heap.size → g.I b j) →
    ∃ (vss : List (List V)) (us : List Value), vss.length = len ∧ VRels C g [] w vss.flatten us ∧ (∀ vs ∈ vss, vs.length = n ∧ fits P N e vs) ∧ us.length = len * n ∧ (∀ j u, us[j]? = some u → w.cell? (a.add j) = some u) ∧
      (vss.map bulkL).sum ≤ dbulks (elems.map (·.1)) := by
  intro len
  induction len with
  | zero =>
    intro elems h _
    simp only [List.range_zero, List.mapM_nil, Option.pure_def, Option.some.injEq] at h
    subst h
    exact ⟨[], [], rfl, .nil, by simp, by simp, by simp, by simp [dbulks]⟩
  | succ len ihl =>
    intro elems h hI
    rw [List.range_succ, List.mapM_append] at h
    simp only [Option.bind_eq_bind, Option.bind_eq_some_iff, List.mapM_cons, List.mapM_nil, Option.pure_def, Option.some.injEq] at h
    obtain ⟨xs, hxs, ys, ⟨y, hy, zs, hz, rfl⟩, rfl⟩ := h
    subst hz
    obtain ⟨vss, us, h1, h2, h3, h4, h5, h6⟩ := ihl xs hxs (fun y hy => hI y (List.mem_append_left _ hy))
    obtain ⟨cs, hcs, hT⟩ := hy
    obtain ⟨hcl, hcc⟩ := cells?_some hcs
    obtain ⟨vs, k1, k2, k3⟩ := ih cs y hT (hI y (by simp))
    refine ⟨vss ++ [vs], us ++ cs, by simp [h1], ?_, ?_, ?_, ?_, ?_⟩
    · rw [List.flatten_append]
      simpa using h2.append k1
    · intro q hq
      rcases List.mem_append.1 hq with hq | hq
      · exact h3 q hq
      · rw [List.mem_singleton.1 hq]
        exact ⟨by rw [k1.length, hcl], k2⟩
    · rw [List.length_append, h4, hcl, Nat.succ_mul]
    · intro j u hj
      rcases Nat.lt_or_ge j us.length with hlt | hge
      · rw [List.getElem?_append_left hlt] at hj
        exact h5 j u hj
      · rw [List.getElem?_append_right hge] at hj
        have := hcc _ _ hj
        rw [Addr.add_add] at this
        rw [h4] at this hge
        have e : len * n + (j - len * n) = j := by omega
        rwa [e] at this
    · simp only [List.map_append, List.map_cons, List.map_nil, List.sum_append, List.sum_cons, List.sum_nil, dbulks_append, dbulks]
      omega

theorem mapM_of_get {α : Type} {f : Nat → Option α} : ∀ (len : Nat) (l : List α), l.length = len → (∀ i, i < len → f i = l[i]?) → (List.range len).mapM f = some l
  | 0, l, h, _ => by
    have : l = [] := List.length_eq_zero_iff.1 h
    subst this
    rfl
  | n + 1, l, h, hg => by
    obtain ⟨l', x, rfl⟩ : ∃ l' x, l = l' ++ [x] := by
      have hne : l ≠ [] := by intro e; rw [e] at h; simp at h
      exact ⟨l.dropLast, l.getLast hne, (List.dropLast_concat_getLast hne).symm⟩
    have hl : l'.length = n := by simpa using h
    have ih : (List.range n).mapM f = some l' := mapM_of_get n l' hl (fun i hi => by rw [hg i (by omega), List.getElem?_append_left (by omega)])
    have hx : f n = some x := by rw [hg n (by omega), List.getElem?_append_right (by omega), hl, Nat.sub_self]; rfl
    rw [List.range_succ, List.mapM_append, ih]
    simp [hx]

theorem tiles_le : ∀ (fs : List Field) (off e : Nat), tiles P off fs = some e → off ≤ e
  | [], off, e, h => by simp only [tiles, Option.some.injEq] at h; omega
  | f :: r, off, e, h => by
    simp only [tiles] at h
    split at h
    · have := tiles_le r _ _ h; omega
    · cases h

theorem read_struct {n : Nat} {cs : List Value} {Q : Field → Prop}
    (ih : ∀ (f : Field) (cs' : List Value) (x : DataW H × List MemPlace), Q f → DataW.trod enc P w base spare held n f.type cs' = some x → (∀ p ∈ x.2, ∀ b j, p = .cell b j → b < w.heap.size → g.I b j) →
      ∃ vs, VRels C g [] w vs cs' ∧ fits P n f.type vs ∧ bulkL vs ≤ dbulk x.1) :
    ∀ (fs : List Field) (off e : Nat) (xs : List (DataW H × List MemPlace)), tiles P off fs = some e → e ≤ cs.length → xs.length = fs.length → (∀ f ∈ fs, Q f) →
    (∀ (i : Nat) (f : Field), fs[i]? = some f → DataW.trod enc P w base spare held n f.type ((cs.drop f.offset).take (P.cellsOf f.type)) = xs[i]?) → (∀ y ∈ xs, ∀ p ∈ y.2, ∀ b j, p = .cell b j → b < w.heap.size → g.I b j) →
    ∃ vs, VRels C g [] w vs ((cs.drop off).take (e - off)) ∧ (∀ (i : Nat) (f : Field), fs[i]? = some f → off ≤ f.offset ∧ fits P n f.type ((vs.drop (f.offset - off)).take (P.cellsOf f.type))) ∧ bulkL vs ≤ dbulks (xs.map (·.1))
  | [], off, e, xs, ht, he, hl, hQ, hx, hI => by
    simp only [tiles, Option.some.injEq] at ht
    subst ht
    refine ⟨[], ?_, fun i f h => by simp at h, by simp [bulkL]⟩
    rw [Nat.sub_self, List.take_zero]
    exact .nil
  | f :: r, off, e, xs, ht, he, hl, hQ, hx, hI => by
    simp only [tiles] at ht
    split at ht
    rotate_left
    · cases ht
    rename_i ho
    have hle := tiles_le r _ _ ht
    cases xs with
    | nil => simp at hl
    | cons y ys =>
      have h0 := hx 0 f rfl
      simp only [List.getElem?_cons_zero] at h0
      obtain ⟨v0, k1, k2, k3⟩ := ih f _ y (hQ f (by simp)) h0 (hI y (by simp))
      obtain ⟨vs, m1, m2, m3⟩ := read_struct ih r _ e ys ht he (by simpa using hl) (fun f hf => hQ f (by simp [hf])) (fun i f' hf' => by have := hx (i + 1) f' (by simpa using hf'); simpa using this) (fun y hy => hI y (by simp [hy]))
      rw [ho] at k1
      have hl0 : v0.length = P.cellsOf f.type := by
        rw [k1.length, List.length_take, List.length_drop]
        omega
      refine ⟨v0 ++ vs, ?_, ?_, ?_⟩
      · have := k1.append m1
        have e1 : (cs.drop off).take (e - off) = (cs.drop off).take (P.cellsOf f.type) ++ (cs.drop (off + P.cellsOf f.type)).take (e - (off + P.cellsOf f.type)) := by
          have e2 : e - off = P.cellsOf f.type + (e - (off + P.cellsOf f.type)) := by omega
          rw [e2, List.take_add, List.drop_drop]
        rw [e1]
        exact this
      · intro i f' hf'
        cases i with
        | zero =>
          simp only [List.getElem?_cons_zero, Option.some.injEq] at hf'
          subst hf'
          rw [ho, Nat.sub_self, List.drop_zero, ← hl0, List.take_left]
          exact ⟨Nat.le_refl _, k2⟩
        | succ i =>
          obtain ⟨q1, q2⟩ := m2 i f' (by simpa using hf')
          refine ⟨by omega, ?_⟩
          have e3 : f'.offset - off = v0.length + (f'.offset - (off + P.cellsOf f.type)) := by omega
          rw [e3, List.drop_length_add_append]
          exact q2
      · rw [bulkL_append, List.map_cons, dbulks]
        omega

theorem u8_lt (l : List UInt8) : ∀ b ∈ l.map UInt8.toNat, b < 256 := by
  intro b hb
  obtain ⟨x, _, rfl⟩ := List.mem_map.1 hb
  exact x.toNat_lt

theorem read_all {L : List TypeId} (hL : plainT P L = true) : ∀ (fuel : Nat) (t : TypeId) (cs : List Value) (x : DataW H × List MemPlace), t ∈ L → DataW.trod enc P w base spare held fuel t cs = some x →
    (∀ p ∈ x.2, ∀ b j, p = .cell b j → b < w.heap.size → g.I b j) → ∃ vs, VRels C g [] w vs cs ∧ fits P fuel t vs ∧ bulkL vs ≤ dbulk x.1
  | 0, t, cs, x, ht, h, hI => by simp [DataW.trod] at h
  | fuel + 1, t, cs, x, ht, h, hI => by
    have hp := List.all_eq_true.1 hL t ht
    simp only [fits]
    split at hp
    · rename_i hu
      obtain ⟨b, rfl, rfl⟩ := DataW.trod_bool hu h
      exact ⟨[.bool b], .cons (.bool b) .nil, by (try rw [hu]); exact ⟨b, rfl⟩, by simp [bulkL, V.bulk, dbulk]⟩
    · rename_i k hu
      obtain ⟨n, rfl, rfl, hw⟩ := DataW.trod_int hu h
      exact ⟨[.int k n], .cons (.int k n) .nil, by (try rw [hu]); exact ⟨n, rfl, hw⟩, by simp [bulkL, V.bulk, dbulk]⟩
    · rename_i hu
      obtain ⟨s, rfl, rfl, hs⟩ := DataW.trod_string hu h
      refine ⟨[.str (s.data.toList.map UInt8.toNat)], .cons (.str _ s rfl) .nil, by (try rw [hu]); exact ⟨_, rfl, u8_lt _⟩, ?_⟩
      simp [bulkL, V.bulk, dbulk]
    · rename_i e hu
      simp only [Bool.and_eq_true, decide_eq_true_eq, beq_iff_eq, List.contains_iff_mem] at hp
      obtain ⟨⟨he, hpos⟩, h1⟩ := hp
      try rw [hu]
      rcases DataW.trod_slice hu h with ⟨rfl, rfl⟩ | ⟨a, len, cap, elems, rest, n, hn, rfl, rfl, hb, hlc, hcm, hel, hget, -, -⟩
      · exact ⟨[.sl .any []], .cons (.slnil .any (.inr (.inl rfl))) .nil, ⟨[], rfl, by simp⟩, by simp [bulkL, V.bulk, dbulk]⟩
      · obtain rfl : n = fuel := by omega
        obtain ⟨vss, us, q1, q2, q3, q4, q5, q6⟩ := read_rows (base := base) (N := n) (fun cs x hT hIx => read_all hL n e cs x he hT hIx) len elems (mapM_of_get len elems hel hget) (fun y hy p hp => hI p (by
          simp only [List.mem_append, List.mem_flatMap]
          exact .inr ⟨y, .inl hy, hp⟩))
        have hcells : ∀ vs ∈ vss, (wrapT P e vs).cells = vs := by
          intro vs hvs
          obtain ⟨r1, r2⟩ := q3 vs hvs
          unfold wrapT
          split
          · rfl
          · rename_i hns
            have hpe := List.all_eq_true.1 hL e he
            have hone : ∃ v, vs = [v] ∧ (∀ cs, v ≠ .agg cs) := by
              cases n with
              | zero => simp [fits] at r2
              | succ n =>
                simp only [fits] at r2
                split at r2
                · obtain ⟨b, rfl⟩ := r2; exact ⟨_, rfl, by simp⟩
                · obtain ⟨b, rfl, -⟩ := r2; exact ⟨_, rfl, by simp⟩
                · obtain ⟨b, rfl, -⟩ := r2; exact ⟨_, rfl, by simp⟩
                · obtain ⟨b, rfl, -⟩ := r2; exact ⟨_, rfl, by simp⟩
                · rename_i fs hfs
                  exact absurd hfs (hns fs)
                · exact r2.elim
            obtain ⟨v, rfl, hv⟩ := hone
            show (v : V).cells = [v]
            cases v <;> first | rfl | exact absurd rfl (hv _)
        have hflat : (vss.map (wrapT P e)).flatMap V.cells = vss.flatten := by
          clear q1 q2 q6 q3
          induction vss with
          | nil => rfl
          | cons vs vss ih =>
            rw [List.map_cons, List.flatMap_cons, List.flatten_cons, hcells vs (by simp), ih (fun x hx => hcells x (by simp [hx]))]
        have hlen : (vss.map (wrapT P e)).length = len := by simp [q1]
        refine ⟨[.sl .any (vss.map (wrapT P e))], .cons ?_ .nil, ⟨_, rfl, ?_⟩, ?_⟩
        · have := VRel.sl (C := C) (g := g) (σ := []) (w := w) .any (vss.map (wrapT P e)) a cap (P.cellsOf e) us ?_ (by simp) (by simp) (by omega) (by rw [hflat]; exact q2) ?_
          · rw [hlen] at this
            exact this
          · intro x hx
            obtain ⟨vs, hvs, rfl⟩ := List.mem_map.1 hx
            rw [hcells vs hvs]
            exact (q3 vs hvs).1
          · intro j u hj
            have hcell := q5 j u hj
            refine ⟨?_, hcell⟩
            have hjlt : j < len * P.cellsOf e := by rw [← q4]; exact (List.getElem?_eq_some_iff.1 hj).1
            refine hI (.cell a.block (a.off + j)) (List.mem_append_left _ (mem_row ?_)) _ _ rfl ?_
            · have : elems.length * P.cellsOf e ≤ (elems.length + rest.length) * P.cellsOf e := Nat.mul_le_mul_right _ (Nat.le_add_right _ _)
              rw [hel] at this ⊢
              omega
            · have ec := cell_add hcell
              rw [ec] at hcell
              unfold World.cell? at hcell
              cases hh : w.heap[a.block]? with
              | none => rw [hh] at hcell; cases hcell
              | some o => exact (Array.getElem?_eq_some_iff.1 hh).1
        · intro x hx
          obtain ⟨vs, hvs, rfl⟩ := List.mem_map.1 hx
          exact ⟨vs, (q3 vs hvs).2, rfl, hcells vs hvs⟩
        · have hb2 : bulkL (vss.map (wrapT P e)) ≤ (vss.map bulkL).sum := by
            clear q1 q2 q6 hflat hlen
            induction vss with
            | nil => simp [bulkL]
            | cons vs vss ih =>
              have i1 := ih (fun x hx => q3 x (by simp [hx])) (fun x hx => hcells x (by simp [hx]))
              have i2 : (wrapT P e vs).bulk ≤ bulkL vs := by
                have hc := hcells vs (by simp)
                revert hc
                cases wrapT P e vs <;> intro hc <;> simp only [V.cells] at hc <;> subst hc <;> simp only [V.bulk, bulkL] <;> omega
              simp only [List.map_cons, bulkL, List.sum_cons]
              omega
          simp only [bulkL, V.bulk, dbulk]
          omega
    · rename_i fs hu
      simp only [Bool.and_eq_true, beq_iff_eq] at hp
      obtain ⟨hf, htl⟩ := hp
      obtain ⟨xs, n, hn, rfl, hcl, hxl, hget⟩ := DataW.trod_struct hu h
      obtain rfl : n = fuel := by omega
      try rw [hu]
      obtain ⟨vs, m1, m2, m3⟩ := read_struct (Q := fun f => f.type ∈ L) (fun f cs' x hQ hT hIx => read_all hL n f.type cs' x hQ hT hIx) fs.toList 0 (P.cellsOf t) xs htl (by omega) (by simpa using hxl)
        (fun f hf' => by
          have hm : f ∈ fs := by simpa using hf'
          have := Array.all_eq_true_iff_forall_mem.1 hf f hm
          simpa using this)
        (fun i f hf' => hget i f (by simpa using hf')) (fun y hy p hp => hI p (by
          simp only [List.mem_flatMap]
          exact ⟨y, hy, hp⟩))
      rw [List.drop_zero, Nat.sub_zero, ← hcl, List.take_length] at m1
      refine ⟨vs, m1, ⟨?_, fun i f hf' => ?_⟩, ?_⟩
      · rw [m1.length, hcl]
      · have := (m2 i f (by simpa using hf')).2
        simpa using this
      · simp only [dbulk]
        omega
    · cases hp
end
end Go.Ev
