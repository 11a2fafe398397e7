/-
  Ranging over a text.
-/
import Derived.Test.YthajiefjebcobaaDoorEvOp4
set_option linter.all false
set_option linter.unusedSimpArgs false
set_option linter.unusedVariables false
namespace Go.Ev
open Go

section
variable {P : Program} {C : Cfg} {G : List (List V)} {g : Gh} {σ : Store} {w : World} {o : Oper} {a : Act} {v : V} {tm : List V}
variable (hI : Inv C g σ w G) (ht : VRels C g σ w tm a.tmps.toList) (dr : Bool) (nid : Nat) {σ' : Store}
include hI ht

omit hI ht in
theorem bl_back (b : ByteArray) : (⟨((bl b).map UInt8.ofNat).toArray⟩ : ByteArray) = b := by
  have : (bl b).map UInt8.ofNat = b.data.toList := by
    unfold bl
    rw [List.map_map]
    conv => rhs; rw [← List.map_id b.data.toList]
    apply List.map_congr_left
    intro x _
    simp
  rw [this]

theorem s_rng {x : Rd} (hr : Room σ nid) (hc : chkOp P C o.op (.rng x) = true) (h : ev1 (rdV G tm) dr σ nid (.rng x) = some (v, σ')) : Out P C G g σ w o a v σ' := by
  cases ho : o.op <;> simp only [chkOp, ho, Bool.false_eq_true, Bool.and_eq_true] at hc
  rename_i t y
  obtain ⟨h1, h2⟩ := hc
  split at h1
  rotate_left
  · cases h1
  rename_i hu
  have hx := chkRd_rel hI ht h2
  simp only [ev1] at h
  generalize rdV G tm x = vx at h hx
  cases vx <;> try (cases h; done)
  rename_i s
  simp only [Option.some.injEq, Prod.mk.injEq] at h
  obtain ⟨rfl, rfl⟩ := h
  obtain ⟨b, hb, hbl⟩ := inv_str hx
  have hle := le_alloc (C := C) (G := G) hI hr (.iter s 0) (.stringIter b 0) 0
  have hget : (σ.put nid (.iter s 0))[nid]? = some (.iter s 0) := by rw [put_get hr.le, if_pos rfl]
  have hbk : (g.fresh nid w.heap.size 0).blk nid = w.heap.size := by simp [Gh.fresh]
  have hrun : (Instr.range t (a.eval y)).run P w = .ok (.pointer (some ⟨w.heap.size, 0, none⟩)) (w.alloc (.stringIter b 0)) := by
    simp [Instr.range, run_underlying hu, hb]
  refine ⟨.pointer (some ⟨w.heap.size, 0, none⟩), w.alloc (.stringIter b 0), g.fresh nid w.heap.size 0, .inl (by simp only [execOp, ho, Sem.run_bind, hrun, Result.andThen_ok, Sem.run_pure]), inv_alloc hI hr _ _ 0 ⟨b, ?_, hbl, fun j hj => ?_⟩, hle, ?_⟩
  · rw [hbk]; exact heap_alloc_new w _
  · rw [hbk] at hj
    exact absurd (hI.imm _ j hj) (Nat.lt_irrefl _)
  · have := VRel.itr (C := C) (g := g.fresh nid w.heap.size 0) (w := w.alloc (.stringIter b 0)) nid s 0 hget
    rwa [hbk] at this

theorem s_nxt {it : Rd} (hc : chkOp P C o.op (.nxt it) = true) (h : ev1 (rdV G tm) dr σ nid (.nxt it) = some (v, σ')) : Out P C G g σ w o a v σ' := by
  obtain ⟨y, ho, h2⟩ : ∃ y, o.op = .next y true ∧ chkRd C y it = true := by
    simp only [chkOp] at hc
    split at hc
    · exact ⟨_, ‹_›, hc⟩
    · cases hc
  have hx := chkRd_rel hI ht h2
  simp only [ev1] at h
  generalize rdV G tm it = vx at h hx
  cases vx <;> try (cases h; done)
  rename_i id
  dsimp only at h
  split at h
  rotate_left
  · cases h
  rename_i s pos hid
  have hv := inv_itr hx hid
  obtain ⟨b, hh, hbl, hnI⟩ := hI.obj id _ hid
  have hlen : s.length = b.size := by rw [← hbl]; simp
  have hgo : (getObj (g.blk id)).run P w = .ok (.stringIter b pos) w := by simp [getObj, Sem.run, hh]
  split at h
  · rename_i hpos
    simp only [Option.some.injEq, Prod.mk.injEq] at h
    obtain ⟨rfl, rfl⟩ := h
    have hdec : runeAt s pos = Utf8.decode b pos := by
      unfold runeAt
      have e : s = bl b := hbl.symm
      rw [e, bl_back]
    rw [hdec]
    have hlt : g.blk id < w.heap.size := (Array.getElem?_eq_some_iff.1 hh).1
    let O : Go.Obj := .stringIter b (pos + (Utf8.decode b pos).2)
    let w' : World := { w with heap := w.heap.setIfInBounds (g.blk id) O }
    have hso : ∀ o, (setObj (g.blk id) o).run P w = .ok () { w with heap := w.heap.setIfInBounds (g.blk id) o } := by intro o; simp [setObj, Sem.run, hh]
    have hrun : (execOp a.eval o).run P w = .ok (.value (.tuple #[.bool true, goInt pos, .int .i32 (Utf8.decode b pos).1])) w' := by
      simp [execOp, ho, hv, Instr.next, hgo, if_pos (show pos < b.size by omega), hso, w', O]
    have hoth : ∀ k, k ≠ g.blk id → w'.heap[k]? = w.heap[k]? := by
      intro k hk
      simp only [w', Array.getElem?_setIfInBounds]
      rw [if_neg (Ne.symm hk)]
    have hole : ObjLe g g id (.iter s pos) (.iter s (pos + (Utf8.decode b pos).2)) := ⟨rfl, rfl⟩
    have hcell : ∀ j, g.I (g.blk id) j → w'.cell? ⟨g.blk id, j, none⟩ = w.cell? ⟨g.blk id, j, none⟩ := fun j hj => absurd hj (hnI j)
    have hle : Le g σ w g (σ.set id (.iter s (pos + (Utf8.decode b pos).2))) w' :=
      le_write (C := C) (G := G) hI hid (by simp) hole hoth hcell (by simp [w']) rfl rfl rfl
    refine ⟨.tuple #[.bool true, goInt pos, .int .i32 (Utf8.decode b pos).1], w', g, .inl hrun, inv_write hI hid (by simp) (by simp) hole hoth hcell (by simp [w']) rfl rfl rfl ⟨b, ?_, hbl, hnI⟩, hle, ?_⟩
    · simp only [w', O, Array.getElem?_setIfInBounds, if_true, hlt]
    · exact .tup _ [.bool true, goInt pos, .int .i32 (Utf8.decode b pos).1] (.cons (.bool _) (.cons (.int _ _) (.cons (.int _ _) .nil)))
  · rename_i hpos
    simp only [Option.some.injEq, Prod.mk.injEq] at h
    obtain ⟨rfl, rfl⟩ := h
    have hrun : (execOp a.eval o).run P w = .ok (.value (.tuple #[.bool false])) w := by
      simp [execOp, ho, hv, Instr.next, hgo, if_neg (show ¬ pos < b.size by omega)]
    exact Out.same hI hrun (.tup [.bool false] [.bool false] (.cons (.bool _) .nil))
end
end Go.Ev
