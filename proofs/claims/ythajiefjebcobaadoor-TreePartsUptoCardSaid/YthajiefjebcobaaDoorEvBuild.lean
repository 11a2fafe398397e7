/-
  A struct put together.
-/
import Derived.Test.YthajiefjebcobaaDoorEvOp1d
import Derived.Laws.Tables
set_option linter.all false
set_option linter.unusedSimpArgs false
set_option linter.unusedVariables false
namespace Go.Ev
open Go

theorem setCells_length {α : Type} : ∀ (vs : List α) (cs : List α) (off : Nat), (setCells cs off vs).length = cs.length
  | [], _, _ => rfl
  | v :: vs, cs, off => by rw [setCells, setCells_length vs]; simp

theorem setCells_get {α : Type} : ∀ (vs : List α) (cs : List α) (off j : Nat), off + vs.length ≤ cs.length →
    (setCells cs off vs)[j]? = if off ≤ j ∧ j < off + vs.length then vs[j - off]? else cs[j]?
  | [], cs, off, j, _ => by simp [setCells]; omega
  | v :: vs, cs, off, j, h => by
    simp only [List.length_cons] at h
    rw [setCells, setCells_get vs _ _ _ (by simp; omega)]
    by_cases h1 : off + 1 ≤ j ∧ j < off + 1 + vs.length
    · rw [if_pos h1, if_pos ⟨by omega, by simp; omega⟩]
      obtain ⟨k, rfl⟩ : ∃ k, j = off + 1 + k := ⟨j - (off + 1), by omega⟩
      rw [show off + 1 + k - off = k + 1 by omega, show off + 1 + k - (off + 1) = k by omega]
      simp
    · rw [if_neg h1]
      by_cases h2 : j = off
      · subst h2
        rw [if_pos ⟨Nat.le_refl _, by simp⟩]
        simp only [Nat.sub_self, List.getElem?_cons_zero]
        rw [List.getElem?_set_self (by omega)]
      · rw [if_neg (by simp; omega), List.getElem?_set_ne (Ne.symm h2)]

theorem setCells_append {α : Type} (vs : List α) (a b c : List α) (h : b.length = vs.length) : setCells (a ++ b ++ c) a.length vs = a ++ vs ++ c := by
  apply List.ext_getElem?
  intro j
  rw [setCells_get _ _ _ _ (by simp; omega)]
  split
  · rename_i h1
    rw [List.append_assoc, List.getElem?_append_right (by omega), List.getElem?_append_left (by omega)]
  · rename_i h1
    rw [List.append_assoc, List.append_assoc]
    rcases Nat.lt_or_ge j a.length with h2 | h2
    · rw [List.getElem?_append_left h2, List.getElem?_append_left h2]
    · rw [List.getElem?_append_right h2, List.getElem?_append_right h2, List.getElem?_append_right (by omega), List.getElem?_append_right (by omega), h]

section
variable {C : Cfg} {g : Gh} {σ : Store} {w : World}
theorem VRels.setCells {cs vs : List V} {us ws : List Value} (h : VRels C g σ w cs us) (h' : VRels C g σ w vs ws) (off : Nat) : VRels C g σ w (setCells cs off vs) (setCells us off ws) := by
  induction vs generalizing cs us ws off with
  | nil => cases h'; exact h
  | cons v vs ih => cases h' with
    | cons hv hs => exact ih (h.set off hv) hs (off + 1)

theorem cells_rel {v : V} {u : Value} (h : VRel C g σ w v u) (hc : v.cells.all V.isCell = true) : VRels C g σ w v.cells u.cells.toList := by
  cases h
  case agg cs us hx => simpa [V.cells, Value.cells] using hx
  case row h1 =>
    obtain ⟨a, n, c, rfl⟩ := h1
    exact .cons (.row _ _ _ _ _ _ _ _ _ ‹_› ‹_› ‹_› ⟨_, _, _, rfl⟩) .nil
  case rptr h1 =>
    obtain ⟨a, rfl⟩ := h1
    exact .cons (.rptr _ _ _ _ _ _ _ _ _ ‹_› ‹_› ‹_› ⟨_, rfl⟩) .nil
  case any => simp [V.cells, V.isCell] at hc
  case skip => simp [V.cells, V.isCell] at hc
  case tup => simp [V.cells, V.isCell] at hc
  all_goals
    refine .cons ?_ .nil
    first
      | exact .int _ _
      | exact .bool _
      | exact .str _ _ ‹_›
      | exact .slnil _ ‹_›
      | exact .sl _ _ _ _ _ _ ‹_› ‹_› ‹_› ‹_› ‹_› ‹_›
      | exact .ptr _ _ _ ‹_›
      | exact .iptr _ _ _ ‹_› ‹_›
      | exact .nilp
      | exact .fn _ _ _ _ ‹_› ‹_›
      | exact .nilf
      | exact .ifc _ _ _ _ ‹_› ‹_›
      | exact .nili
      | exact .mref _ _ ‹_›
      | exact .itr _ _ _ ‹_›
end

theorem fold_cells (vs : List Value) : ∀ (k off : Nat) (cells : Array Value),
    ((vs.zipIdx k).foldl (fun cs (x : Value × Nat) => cs.setIfInBounds (off + x.2) x.1) cells).toList = setCells cells.toList (off + k) vs := by
  induction vs with
  | nil => intro k off cells; rfl
  | cons v vs ih =>
    intro k off cells
    rw [List.zipIdx_cons, List.foldl_cons, ih, setCells]
    simp [Nat.add_assoc]

theorem fill_step (place : Nat → Option (Nat × Nat)) (cells : Array Value) (i : Nat) (v : Value) (rest : List (Nat × Value)) (off size : Nat) (hp : place i = some (off, size))
    (h1 : v.cells.size = size) (h2 : off + size ≤ cells.size) :
    Instr.fill place cells ((i, v) :: rest) = Instr.fill place (setCells cells.toList off v.cells.toList).toArray rest := by
  have hn : ¬ (v.cells.size ≠ size || decide (off + v.cells.size > cells.size)) = true := by simp [h1]; omega
  simp only [Instr.fill, hp]
  rw [if_neg hn]
  congr 1
  apply Array.ext'
  rw [← Array.foldl_toList]
  have := fold_cells v.cells.toList 0 off cells
  simpa [Array.toList_zipIdx] using this

section
variable {P : Program} {C : Cfg} {G : List (List V)} {g : Gh} {σ : Store} {w : World} {o : Oper} {a : Act} {v : V} {tm : List V}
variable (hI : Inv C g σ w G) (ht : VRels C g σ w tm a.tmps.toList) (dr : Bool) (nid : Nat) {σ' : Store}

/-- The zero value's cells. -/
theorem zeroIs_rel {t : TypeId} {z : List V} (h : zeroIs P t z = true) : ∃ i u, P.info? t = some i ∧ i.zero = some u ∧ VRels C g σ w z u.cells.toList ∧ z.all V.isCell = true ∧ u.cells.size = i.size := by
  unfold zeroIs at h
  split at h
  rotate_left
  · cases h
  rename_i i hi
  split at h
  rotate_left
  · cases h
  rename_i u hu
  simp only [Bool.and_eq_true, beq_iff_eq] at h
  exact ⟨i, u, hi, hu, chkVs_rel h.1.1, h.1.2, h.2⟩

include hI ht

theorem fill_parts (place : Nat → Option (Nat × Nat)) (t : TypeId) (hpl : ∀ i q, placeOf P t i = some q → place i = some q) : ∀ (ps : List (Nat × Nat × Rd)) (qs : List (Nat × Operand)) (cs : List V) (us : Array Value) (cs' : List V),
    chkParts P C t qs ps = true → VRels C g σ w cs us.toList → fillParts cs (ps.map fun (o, s, x) => (o, s, rdV G tm x)) = some cs' →
    ∃ us', Instr.fill place us (qs.map fun (i, x) => (i, a.eval x)) = some us' ∧ VRels C g σ w cs' us'.toList
  | [], [], cs, us, cs', _, hr, hf => by
    simp only [List.map_nil, fillParts, Option.some.injEq] at hf
    subst hf
    exact ⟨us, rfl, hr⟩
  | (off, sz, y) :: ps, (i, x) :: qs, cs, us, cs', hc, hr, hf => by
    simp only [chkParts, Bool.and_eq_true, beq_iff_eq] at hc
    obtain ⟨⟨h1, h2⟩, h3⟩ := hc
    have hx := chkRd_rel hI ht h2
    simp only [List.map_cons, fillParts, Option.ite_none_right_eq_some] at hf
    obtain ⟨⟨h4, h5, hvc⟩, hf⟩ := hf
    have hcr := cells_rel hx hvc
    have hl := hcr.length
    have hlu := hr.length
    simp only [Array.length_toList] at hl hlu
    have := fill_step place us i (a.eval x) (qs.map fun (i, x) => (i, a.eval x)) off sz (hpl i _ h1) (by omega) (by omega)
    rw [List.map_cons, this]
    exact fill_parts place t hpl ps qs _ _ cs' h3 (by simpa using hr.setCells hcr off) hf

omit hI ht in
theorem mapM_all {α β : Type} {f : α → Option β} : ∀ (l : List α), (∀ x ∈ l, (f x).isSome = true) → ∃ r, l.mapM f = some r ∧ r.length = l.length ∧ ∀ (i : Nat) (x : α), l[i]? = some x → r[i]? = f x
  | [], _ => ⟨[], by simp, rfl, fun i x h => by simp at h⟩
  | x :: l, h => by
    obtain ⟨r, h1, h2, h3⟩ := mapM_all l (fun y hy => h y (by simp [hy]))
    obtain ⟨y, hy⟩ := Option.isSome_iff_exists.1 (h x (by simp))
    refine ⟨y :: r, by simp [List.mapM_cons, hy, h1], by simp [h2], fun i z hz => ?_⟩
    cases i with
    | zero => simp at hz; subst hz; simp [hy]
    | succ i => simpa using h3 i z (by simpa using hz)

theorem s_build {z : List V} {ps : List (Nat × Nat × Rd)} (hc : chkOp P C o.op (.build z ps) = true) (h : ev1 (rdV G tm) dr σ nid (.build z ps) = some (v, σ')) : Out P C G g σ w o a v σ' := by
  cases ho : o.op <;> simp only [chkOp, ho, Bool.false_eq_true, Bool.and_eq_true] at hc
  rename_i t qs
  obtain ⟨⟨h1, h2⟩, h3⟩ := hc
  obtain ⟨it, zu, hit, hzu, hzr, hzc, hzs⟩ := zeroIs_rel (C := C) (g := g) (σ := σ) (w := w) h1
  simp only [ev1] at h
  obtain ⟨hz, rfl⟩ := okV_some h
  cases hf : fillParts z (ps.map fun (o, s, x) => (o, s, rdV G tm x)) with
  | none => rw [hf] at hz; cases hz
  | some cs =>
  rw [hf] at hz
  simp only [Option.map_some, Option.some.injEq] at hz
  subst hz
  split at h2
  rotate_left
  · cases h2
  rename_i fs hu
  obtain ⟨pl, hpl, hpll, hplg⟩ := mapM_all (f := fun f : Field => (P.info? f.type).map fun i => (f.offset, i.size)) fs.toList (by
    intro f hf
    rw [List.all_eq_true] at h2
    have := h2 f hf
    cases hi : P.info? f.type <;> simp_all)
  have hplace : ∀ i q, placeOf P t i = some q → pl.toArray[i]? = some q := by
    intro i q hq
    unfold placeOf at hq
    rw [hu] at hq
    simp only at hq
    split at hq
    rotate_left
    · cases hq
    rename_i f hfi
    have := hplg i f (by simpa using hfi)
    split at hq
    rotate_left
    · cases hq
    rename_i j hj
    simp only [Option.some.injEq] at hq
    rw [List.getElem?_toArray, this, hj, ← hq]
    rfl
  obtain ⟨us', hfill, hrel⟩ := fill_parts hI ht (pl.toArray[·]?) t hplace ps qs.toList z zu.cells cs h3 hzr hf
  have hb : P.built t (qs.map fun (i, x) => (i, a.eval x)).toList = some us' := by
    unfold Program.built
    simp only [hit, hu, hzu, hpl]
    rw [Array.toList_map]
    exact hfill
  refine Out.same hI (u := .agg us') ?_ (by have := VRel.agg cs us'.toList hrel; simpa using this)
  simp only [execOp, ho, Sem.run_bind, run_build w t _ us' hb, Result.andThen_ok, Sem.run_pure]

end
end Go.Ev
