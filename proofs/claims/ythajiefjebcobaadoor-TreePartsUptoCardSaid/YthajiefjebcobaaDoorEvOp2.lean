/-
  Operations that make or write memory.
-/
import Derived.Test.YthajiefjebcobaaDoorEvMem
import Derived.Laws.AppendOwn
set_option linter.all false
set_option linter.unusedSimpArgs false
set_option linter.unusedVariables false
namespace Go.Ev
open Go

section
variable {P : Program} {C : Cfg} {G : List (List V)} {g : Gh} {σ : Store} {w : World} {o : Oper} {a : Act} {v : V} {tm : List V}
variable (hI : Inv C g σ w G) (ht : VRels C g σ w tm a.tmps.toList) (dr : Bool) (nid : Nat) {σ' : Store}

/-- A box is made. -/
theorem out_box (hI : Inv C g σ w G) {nid : Nat} (hr : Room σ nid) {cs : List V} {us : Array Value} {t : TypeId} (hrel : VRels C g σ w cs us.toList)
    (hrun : (execOp a.eval o).run P w = .ok (.value (.pointer (some ⟨w.heap.size, 0, none⟩))) (w.alloc (.cells us t))) : Out P C G g σ w o a (.ptr nid 0) (σ.put nid (.box cs)) := by
  have hle := le_alloc (C := C) (G := G) hI hr (.box cs) (.cells us t) 0
  have hget : (σ.put nid (.box cs))[nid]? = some (.box cs) := by rw [put_get hr.le, if_pos rfl]
  have hb : (g.fresh nid w.heap.size 0).blk nid = w.heap.size := by simp [Gh.fresh]
  refine ⟨_, _, g.fresh nid w.heap.size 0, .inl hrun, inv_alloc hI hr _ _ 0 ⟨us, t, ?_, hrel.mono hle, fun j hj => ?_⟩, hle, ?_⟩
  · rw [hb]; exact heap_alloc_new w _
  · rw [hb] at hj
    exact absurd (hI.imm _ j hj) (Nat.lt_irrefl _)
  · have := VRel.ptr (C := C) (g := g.fresh nid w.heap.size 0) (w := w.alloc (.cells us t)) nid 0 cs hget
    rwa [hb] at this

include hI ht

theorem s_alloc (hr : Room σ nid) {cs : List V} (hc : chkOp P C o.op (.alloc cs) = true) (h : ev1 (rdV G tm) dr σ nid (.alloc cs) = some (v, σ')) : Out P C G g σ w o a v σ' := by
  cases ho : o.op <;> simp only [chkOp, ho, Bool.false_eq_true] at hc
  rename_i e
  obtain ⟨it, zu, hit, hzu, hzr, -, -⟩ := zeroIs_rel (C := C) (g := g) (σ := σ) (w := w) hc
  simp only [ev1, Option.some.injEq, Prod.mk.injEq] at h
  obtain ⟨rfl, rfl⟩ := h
  exact out_box hI hr hzr (t := e) (by simp [execOp, ho, Instr.alloc, zeroValue, typeInfo, hit, hzu, newVar, newRow])

theorem s_box (hr : Room σ nid) {n : Nat} {x : Rd} (hc : chkOp P C o.op (.box n x) = true) (h : ev1 (rdV G tm) dr σ nid (.box n x) = some (v, σ')) : Out P C G g σ w o a v σ' := by
  cases ho : o.op <;> simp only [chkOp, ho, Bool.false_eq_true] at hc
  rename_i e x'
  have hx := chkRd_rel hI ht hc
  simp only [ev1, Option.ite_none_right_eq_some, Option.some.injEq, Prod.mk.injEq] at h
  obtain ⟨⟨h1, h2⟩, rfl, rfl⟩ := h
  exact out_box hI hr (cells_rel hx h2) (t := e) (by simp [execOp, ho, Instr.box, newVar, newRow])

omit hI ht in
/-- Cells that are read from a place. -/
theorem load_cells (hI : Inv C g σ w G) {n : Nat} {x : V} {u : Value} {cs : List V} (hx : VRel C g σ w x u) (h : loadAt σ n x = some cs) :
    ∃ p us, u = .pointer (some p) ∧ VRels C g σ w cs us ∧ us.length = n ∧ cs.length = n ∧ ∀ j y, us[j]? = some y → w.cell? (p.add j) = some y := by
  cases x <;> simp only [loadAt, reduceCtorEq] at h
  · rename_i id off
    obtain ⟨e, -⟩ := inv_ptr hx
    split at h
    rotate_left
    · cases h
    rename_i bs hid
    simp only [Option.ite_none_right_eq_some, Option.some.injEq] at h
    obtain ⟨hle, rfl⟩ := h
    obtain ⟨us, t, h1, h2, -⟩ := hI.obj id _ hid
    have hl := h2.length
    refine ⟨_, (us.toList.drop off).take n, e, (h2.drop off).take n, by simp at hl ⊢; omega, by simp; omega, fun j y hj => ?_⟩
    rw [Addr.add_mk, cell_of_row w _ _ _ _ _ h1]
    rw [List.getElem?_take] at hj
    split at hj
    · simpa [List.getElem?_drop] using hj
    · cases hj
  · rename_i id gn idx fo
    split at h
    rotate_left
    · cases h
    rename_i gen esz fz xs hid
    simp only [Option.ite_none_right_eq_some] at h
    obtain ⟨eg, h⟩ := h
    split at h
    rotate_left
    · cases h
    rename_i z hz
    simp only [Option.ite_none_right_eq_some, Option.some.injEq] at h
    obtain ⟨hle, rfl⟩ := h
    obtain ⟨-, he⟩ := inv_rptr hx hid
    obtain ⟨e, hlt⟩ := he eg
    obtain ⟨us, t, h1, hpos, hsz, hcap, hmax, hrel, hn, hfz, -⟩ := hI.obj id _ hid
    have hzn := hn z (List.mem_of_getElem? hz)
    have hel := flat_elem hn hrel hz
    have hl := hel.length
    refine ⟨_, ((((us.toList.take (xs.length * esz)).drop (idx * esz)).take esz).drop fo).take n, e, (hel.drop fo).take n, by simp [List.length_take, List.length_drop] at hl ⊢; omega, by simp; omega, fun j y hj => ?_⟩
    rw [Addr.add_mk, cell_of_row w _ _ _ _ _ h1]
    rw [List.getElem?_take] at hj
    split at hj
    rotate_left
    · cases hj
    rw [List.getElem?_drop, List.getElem?_take] at hj
    split at hj
    rotate_left
    · cases hj
    rw [List.getElem?_drop, List.getElem?_take] at hj
    split at hj
    rotate_left
    · cases hj
    rw [← hj]
    simp [Nat.add_assoc]
  · rename_i bs
    simp only [Option.ite_none_right_eq_some, Option.some.injEq] at h
    obtain ⟨hle, rfl⟩ := h
    obtain ⟨p, us, e, hus, hcell⟩ := inv_iptr hx
    have hl := hus.length
    exact ⟨p, us.take n, e, hus.take n, by simp; omega, by simp; omega, fun j y hj => (cells_take hcell n j y hj).2⟩

theorem s_load {ag : Bool} {n : Nat} {x : Rd} (hc : chkOp P C o.op (.load ag n x) = true) (h : ev1 (rdV G tm) dr σ nid (.load ag n x) = some (v, σ')) : Out P C G g σ w o a v σ' := by
  cases ho : o.op <;> simp only [chkOp, ho, Bool.false_eq_true, Bool.and_eq_true] at hc
  rename_i t x'
  obtain ⟨⟨⟨h1, h2⟩, h3⟩, h4⟩ := hc
  have h1 : isAggT P t = some ag := by simpa using h1
  have hx := chkRd_rel hI ht h3
  simp only [ev1] at h
  split at h
  rotate_left
  · cases h
  rename_i cs hcs
  obtain ⟨p, us, e, hrel, hul, hcl, hcell⟩ := load_cells hI hx hcs
  cases ag
  · simp only [Bool.false_eq_true, if_false] at h
    have hn : n = 1 := by simpa using h4
    subst hn
    split at h
    rotate_left
    · cases h
    rename_i c
    simp only [Option.some.injEq, Prod.mk.injEq] at h
    obtain ⟨rfl, rfl⟩ := h
    obtain ⟨u, rfl, hr⟩ := hrel.one
    have := hcell 0 u (by simp)
    refine Out.same hI (u := u) ?_ hr
    have e0 : p.add 0 = p := by simp [Addr.add]
    rw [e0] at this
    simp [execOp, ho, e, Instr.loadAt, Instr.sureAddr, loadVar, run_isAgg h1, this]
  · simp only [if_true, Option.some.injEq, Prod.mk.injEq] at h
    obtain ⟨rfl, rfl⟩ := h
    refine Out.same hI (u := .agg us.toArray) ?_ (.agg _ _ hrel)
    have hl := run_loadCells_list (P := P) w p us hcell
    rw [hul] at hl
    simp [execOp, ho, e, Instr.loadAt, Instr.sureAddr, loadVar, run_isAgg h1, szIs_size h2, hl]

end
end Go.Ev
