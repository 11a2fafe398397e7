/-
  Writing into objects.
-/
import Derived.Test.YthajiefjebcobaaDoorEvOp2
set_option linter.all false
set_option linter.unusedSimpArgs false
set_option linter.unusedVariables false
namespace Go.Ev
open Go

theorem setCells_eq {α : Type} (cs : List α) (off : Nat) (vs : List α) (h : off + vs.length ≤ cs.length) : setCells cs off vs = cs.take off ++ vs ++ cs.drop (off + vs.length) := by
  have e : cs = cs.take off ++ (cs.drop off).take vs.length ++ cs.drop (off + vs.length) := by
    rw [List.append_assoc, ← List.drop_drop, List.take_append_drop, List.take_append_drop]
  have h1 : (cs.take off).length = off := by simp; omega
  have h2 : ((cs.drop off).take vs.length).length = vs.length := by simp; omega
  have := setCells_append vs (cs.take off) ((cs.drop off).take vs.length) (cs.drop (off + vs.length)) h2
  rw [h1, ← e] at this
  exact this

theorem setCells_take {α : Type} (cs : List α) (off m : Nat) (vs : List α) (h : off + vs.length ≤ m) (h' : off + vs.length ≤ cs.length) : (setCells cs off vs).take m = setCells (cs.take m) off vs := by
  apply List.ext_getElem?
  intro j
  rw [List.getElem?_take, setCells_get _ _ _ _ h', setCells_get _ _ _ _ (by simp; omega), List.getElem?_take]
  split <;> split <;> first | rfl | omega

theorem setCells_in {α : Type} (cs : List α) (o f m : Nat) (vs : List α) (h : f + vs.length ≤ m) (h' : o + m ≤ cs.length) : setCells cs o (setCells ((cs.drop o).take m) f vs) = setCells cs (o + f) vs := by
  apply List.ext_getElem?
  intro j
  have hl : ((cs.drop o).take m).length = m := by simp; omega
  rw [setCells_get _ _ _ _ (by rw [setCells_length, hl]; exact h'), setCells_get _ _ _ _ (by omega), setCells_length, hl]
  split
  · rename_i h1
    rw [setCells_get _ _ _ _ (by omega)]
    by_cases h2 : o + f ≤ j ∧ j < o + f + vs.length
    · rw [if_pos (by omega), if_pos h2]
      congr 1
      omega
    · rw [if_neg (by omega), if_neg h2, List.getElem?_take, if_pos (by omega), List.getElem?_drop]
      congr 1
      omega
  · rename_i h1
    rw [setCells_get _ _ _ _ (by omega), if_neg (by omega)]

theorem flat_set {xs : List V} {n k : Nat} {x y : V} (hn : ∀ x ∈ xs, x.cells.length = n) (hy : y.cells.length = n) (hk : xs[k]? = some x) :
    (xs.set k y).flatMap V.cells = setCells (xs.flatMap V.cells) (k * n) y.cells := by
  induction xs generalizing k with
  | nil => simp at hk
  | cons z xs ih =>
    have hz : z.cells.length = n := hn z (by simp)
    cases k with
    | zero =>
      rw [List.set_cons_zero, List.flatMap_cons, List.flatMap_cons, Nat.zero_mul]
      have := setCells_append y.cells [] z.cells (xs.flatMap V.cells) (by omega)
      simpa using this.symm
    | succ k =>
      rw [List.set_cons_succ, List.flatMap_cons, List.flatMap_cons, ih (fun x hx => hn x (by simp [hx])) (by simpa using hk), Nat.succ_mul, Nat.add_comm (k * n)]
      have hkl : k < xs.length := by
        have := (List.getElem?_eq_some_iff.1 hk).1
        simpa using this
      have hfl : (xs.flatMap V.cells).length = xs.length * n := flat_length fun x hx => hn x (by simp [hx])
      have hb : k * n + n ≤ xs.length * n := by rw [← Nat.succ_mul]; exact Nat.mul_le_mul_right n hkl
      apply List.ext_getElem?
      intro j
      rw [setCells_get _ _ _ _ (by simp only [List.length_append, hfl, hz, hy]; omega)]
      rcases Nat.lt_or_ge j z.cells.length with h2 | h2
      · rw [List.getElem?_append_left h2, if_neg (by omega), List.getElem?_append_left h2]
      · rw [List.getElem?_append_right h2, setCells_get _ _ _ _ (by rw [hfl, hy]; omega), List.getElem?_append_right h2]
        by_cases h3 : k * n ≤ j - z.cells.length ∧ j - z.cells.length < k * n + y.cells.length
        · rw [if_pos h3, if_pos (by omega)]
          congr 1
          omega
        · rw [if_neg h3, if_neg (by omega)]

theorem flat_splice {xs ns : List V} {n k : Nat} (hn : ∀ x ∈ xs, x.cells.length = n) (hns : ∀ x ∈ ns, x.cells.length = n) (hk : k + ns.length ≤ xs.length) :
    (xs.take k ++ ns ++ xs.drop (k + ns.length)).flatMap V.cells = setCells (xs.flatMap V.cells) (k * n) (ns.flatMap V.cells) := by
  have h1 := flat_length hn
  have h2 := flat_length hns
  have h3 : (k + ns.length) * n ≤ xs.length * n := Nat.mul_le_mul_right n hk
  rw [setCells_eq _ _ _ (by rw [h1, h2, ← Nat.add_mul]; exact h3), List.flatMap_append, List.flatMap_append, flat_take hn, flat_drop hn, h2, Nat.add_mul]

theorem splice_length {xs ns : List V} {k : Nat} (hk : k + ns.length ≤ xs.length) : (xs.take k ++ ns ++ xs.drop (k + ns.length)).length = xs.length := by simp; omega

theorem splice_all {p : V → Prop} {xs ns : List V} {k : Nat} (h1 : ∀ x ∈ xs, p x) (h2 : ∀ x ∈ ns, p x) : ∀ x ∈ xs.take k ++ ns ++ xs.drop (k + ns.length), p x := by
  intro x hx
  simp only [List.mem_append] at hx
  rcases hx with (hx | hx) | hx
  · exact h1 x (List.mem_of_mem_take hx)
  · exact h2 x hx
  · exact h1 x (List.mem_of_mem_drop hx)

section
variable {P : Program} {C : Cfg} {G : List (List V)} {g : Gh} {σ : Store} {w : World}

theorem cells_one {vs : List V} {us : List Value} (h : VRels C g σ w vs us) (hc : vs.all V.isCell = true) : ∀ u ∈ us, u.oneCell' = true := by
  induction vs generalizing us with
  | nil => cases h; simp
  | cons v vs ih => cases h with
    | cons hv hs =>
      simp only [List.all_cons, Bool.and_eq_true] at hc
      intro u hu
      rcases List.mem_cons.1 hu with rfl | hu
      · exact isCell_one hv hc.1
      · exact ih hs hc.2 u hu

theorem run_setCells {b k : Nat} {us : Array Value} {t : TypeId} {vs : List Value} (hb : w.heap[b]? = some (.cells us t (0, 0))) (h : k + vs.length ≤ us.size) (h1 : ∀ v ∈ vs, v.oneCell' = true) :
    (storeCells ⟨b, k, none⟩ vs).run P w = .ok () (w.setRow b (setCells us.toList k vs).toArray) := by
  have := run_storeCells_at P b k t vs 0 us w hb (by simpa using h) h1
  rw [this, setCells_eq _ _ _ (by simpa using h)]
  simp

/-- A row's cells anew. -/
theorem write_row (hI : Inv C g σ w G) {id gen esz fz : Nat} {xs ys : List V} (hid : σ[id]? = some (.row gen esz fz xs)) {us us' : Array Value} {t : TypeId} (hb : w.heap[g.blk id]? = some (.cells us t (0, 0)))
    (hlen : xs.length ≤ ys.length) (hcap : ys.length ≤ g.cap id) (hn : ∀ x ∈ ys, x.cells.length = esz) (hrel : VRels C g σ w (ys.flatMap V.cells) (us'.toList.take (ys.length * esz)))
    (hsz : us'.size = us.size) (hfz : ∀ j, j < fz * esz → us'[j]? = us[j]?) :
    Inv C g (σ.set id (.row gen esz fz ys)) (w.setRow (g.blk id) us') G ∧ Le g σ w g (σ.set id (.row gen esz fz ys)) (w.setRow (g.blk id) us') := by
  obtain ⟨us0, t0, h1, hpos, hsz0, hcap0, hmax, hr0, hn0, hfz0, hI0⟩ := hI.obj id _ hid
  rw [hb] at h1
  cases h1
  have hcell : ∀ j, g.I (g.blk id) j → (w.setRow (g.blk id) us').cell? ⟨g.blk id, j, none⟩ = w.cell? ⟨g.blk id, j, none⟩ := by
    intro j hj
    rw [cell_setRow_same w _ _ _ _ _ _ hb, cell_of_row w _ _ _ _ _ hb, hfz j (hI0 j hj)]
  have hole : ObjLe g g id (.row gen esz fz xs) (.row gen esz fz ys) := ⟨Nat.le_refl _, rfl, fun _ => ⟨rfl, rfl, hlen⟩⟩
  have hle : Le g σ w g (σ.set id (.row gen esz fz ys)) (w.setRow (g.blk id) us') :=
    le_write (C := C) (G := G) hI hid (by simp) hole (fun b hb => setRow_other w _ _ _ hb) hcell (by simp) rfl rfl rfl
  exact ⟨inv_write hI hid (by simp) (by simp) hole (fun b hb => setRow_other w _ _ _ hb) hcell (by simp) rfl rfl rfl
    ⟨us', t, setRow_heap w _ _ _ _ _ hb, hpos, by rw [hsz]; exact hsz0, hcap, hmax, hrel.mono hle, hn, Nat.le_trans hfz0 hlen, hI0⟩, hle⟩

/-- A box's cells anew. -/
theorem write_box (hI : Inv C g σ w G) {id : Nat} {cs ds : List V} (hid : σ[id]? = some (.box cs)) {us us' : Array Value} {t : TypeId} (hb : w.heap[g.blk id]? = some (.cells us t (0, 0)))
    (hlen : ds.length = cs.length) (hrel : VRels C g σ w ds us'.toList) :
    Inv C g (σ.set id (.box ds)) (w.setRow (g.blk id) us') G ∧ Le g σ w g (σ.set id (.box ds)) (w.setRow (g.blk id) us') := by
  obtain ⟨us0, t0, h1, hr0, hI0⟩ := hI.obj id _ hid
  have hcell : ∀ j, g.I (g.blk id) j → (w.setRow (g.blk id) us').cell? ⟨g.blk id, j, none⟩ = w.cell? ⟨g.blk id, j, none⟩ := fun j hj => absurd hj (hI0 j)
  have hole : ObjLe g g id (.box cs) (.box ds) := ⟨hlen, rfl⟩
  have hle : Le g σ w g (σ.set id (.box ds)) (w.setRow (g.blk id) us') :=
    le_write (C := C) (G := G) hI hid (by simp) hole (fun b hb => setRow_other w _ _ _ hb) hcell (by simp) rfl rfl rfl
  exact ⟨inv_write hI hid (by simp) (by simp) hole (fun b hb => setRow_other w _ _ _ hb) hcell (by simp) rfl rfl rfl
    ⟨us', t, setRow_heap w _ _ _ _ _ hb, hrel.mono hle, hI0⟩, hle⟩

/-- A store: where to, and what. -/
theorem store_at (hI : Inv C g σ w G) {n id : Nat} {x v : V} {p u : Value} {ob : Obj} (hx : VRel C g σ w x p) (hv : VRel C g σ w v u) (h : storeAt σ n x v = some (id, ob)) :
    ∃ b k w', p = .pointer (some ⟨b, k, none⟩) ∧ u.cells.size = n ∧ (storeCells ⟨b, k, none⟩ u.cells.toList).run P w = .ok () w' ∧ Inv C g (σ.set id ob) w' G ∧ Le g σ w g (σ.set id ob) w' := by
  unfold storeAt at h
  simp only [Option.ite_none_right_eq_some] at h
  obtain ⟨⟨hn, hc⟩, h⟩ := h
  have hcr := cells_rel hv hc
  have h1 := cells_one hcr hc
  have hl := hcr.length
  have hq : u.cells.toList.length = u.cells.size := Array.length_toList
  have hun : u.cells.size = n := by omega
  cases x <;> simp only [reduceCtorEq] at h
  · rename_i pid off
    obtain ⟨e, -⟩ := inv_ptr hx
    split at h
    rotate_left
    · cases h
    rename_i bs hid
    simp only [Option.ite_none_right_eq_some, Option.some.injEq, Prod.mk.injEq] at h
    obtain ⟨hle, rfl, rfl⟩ := h
    obtain ⟨us, t, hb, hr, -⟩ := hI.obj pid _ hid
    have hlu := hr.length
    have hq2 : us.toList.length = us.size := Array.length_toList
    have hw := write_box hI hid (us' := (setCells us.toList off u.cells.toList).toArray) (ds := setCells bs off v.cells) hb (setCells_length _ _ _) (by simpa using hr.setCells hcr off)
    exact ⟨_, _, _, e, hun, run_setCells hb (by omega) h1, hw⟩
  · rename_i pid gn idx fo
    split at h
    rotate_left
    · cases h
    rename_i gen esz fz xs hid
    simp only [Option.ite_none_right_eq_some] at h
    obtain ⟨⟨eg, hfi⟩, h⟩ := h
    split at h
    rotate_left
    · cases h
    rename_i z hz
    simp only [Option.ite_none_right_eq_some, Option.some.injEq, Prod.mk.injEq] at h
    obtain ⟨hle, rfl, rfl⟩ := h
    obtain ⟨-, he⟩ := inv_rptr hx hid
    obtain ⟨e, hlt⟩ := he eg
    obtain ⟨us, t, hb, hpos, hsz, hcap, hmax, hrel, hnx, hfz, hII⟩ := hI.obj pid _ hid
    have hzn := hnx z (List.mem_of_getElem? hz)
    have hput : (putElem z fo v.cells).cells = setCells z.cells fo v.cells := by
      cases z
      case agg cs => rfl
      all_goals
        have hz1 : esz = 1 := by rw [← hzn]; rfl
        have hle : fo + n ≤ 1 := hle
        show (v.cells.headD _).cells = setCells [_] fo v.cells
        cases hvc : v.cells with
        | nil => rfl
        | cons y r =>
          rw [hvc] at hn hc
          simp only [List.all_cons, Bool.and_eq_true] at hc
          simp only [List.length_cons] at hn
          have hr : r = [] := List.eq_nil_of_length_eq_zero (by omega)
          have hf0 : fo = 0 := by omega
          subst hr hf0
          cases y <;> first | rfl | exact absurd hc.1 Bool.false_ne_true
    have hfl := flat_length hnx
    have hchunk : ((xs.flatMap V.cells).drop (idx * esz)).take esz = z.cells := by
      rw [flat_at hnx hz, ← hzn, List.take_left]
    have hmul : idx * esz + esz ≤ xs.length * esz := by rw [← Nat.succ_mul]; exact Nat.mul_le_mul_right esz hlt
    have hcapm : xs.length * esz ≤ g.cap pid * esz := Nat.mul_le_mul_right esz hcap
    have hpl : (putElem z fo v.cells).cells.length = esz := by rw [hput, setCells_length, hzn]
    have hflat : (xs.set idx (putElem z fo v.cells)).flatMap V.cells = setCells (xs.flatMap V.cells) (idx * esz + fo) v.cells := by
      rw [flat_set hnx hpl hz, hput, ← hchunk, setCells_in _ _ _ _ _ (by omega) (by omega)]
    have hlu : us.toList.length = g.cap pid * esz := by rw [Array.length_toList]; exact hsz
    have hw := write_row hI hid (us' := (setCells us.toList (idx * esz + fo) u.cells.toList).toArray) (ys := xs.set idx (putElem z fo v.cells)) hb (by simp) (by simpa using hcap)
      (fun y hy => by
        rcases List.mem_or_eq_of_mem_set hy with hy | rfl
        · exact hnx y hy
        · exact hpl)
      (by
        rw [hflat, List.length_set]
        have := hrel.setCells hcr (idx * esz + fo)
        rw [List.toList_toArray, setCells_take _ _ _ _ (by simp; omega) (by simp only [Array.length_toList] at hlu ⊢; omega)]
        exact this)
      (by simp [setCells_length])
      (fun j hj => by
        have : fz * esz ≤ idx * esz := Nat.mul_le_mul_right esz hfi
        rw [List.getElem?_toArray, setCells_get _ _ _ _ (by simp only [Array.length_toList] at hlu ⊢; omega), if_neg (by omega), Array.getElem?_toList])
    exact ⟨_, _, _, e, hun, run_setCells hb (by simp only [Array.length_toList] at hlu ⊢; omega) h1, hw⟩
end

section
variable {P : Program} {C : Cfg} {G : List (List V)} {g : Gh} {σ : Store} {w : World} {o : Oper} {a : Act} {v : V} {tm : List V}
variable (hI : Inv C g σ w G) (ht : VRels C g σ w tm a.tmps.toList) (dr : Bool) (nid : Nat) {σ' : Store}
include hI ht

theorem s_store {n : Nat} {x y : Rd} (hc : chkOp P C o.op (.store n x y) = true) (h : ev1 (rdV G tm) dr σ nid (.store n x y) = some (v, σ')) : Out P C G g σ w o a v σ' := by
  cases ho : o.op <;> simp only [chkOp, ho, Bool.false_eq_true, Bool.and_eq_true] at hc
  rename_i t x' y'
  obtain ⟨⟨h1, h2⟩, h3⟩ := hc
  have hx := chkRd_rel hI ht h2
  have hy := chkRd_rel hI ht h3
  simp only [ev1] at h
  split at h
  rotate_left
  · cases h
  rename_i id ob hs
  simp only [Option.some.injEq, Prod.mk.injEq] at h
  obtain ⟨rfl, rfl⟩ := h
  obtain ⟨b, k, w', e, hsz, hrun, hI', hle⟩ := store_at (P := P) hI hx hy hs
  refine ⟨undef, w', g, .inr ⟨?_, rfl⟩, hI', hle, .skip⟩
  simp only [execOp, ho, Instr.storeAt, e, Instr.sureAddr, storeVar, Sem.run_bind, Sem.run_pure, Result.andThen_ok, szIs_size h1, hsz, ne_eq, not_true_eq_false, if_false, hrun]


omit hI ht in
theorem zeroV_rel {t : TypeId} {z : V} (h : zeroV P t z = true) : ∃ i u, P.info? t = some i ∧ i.zero = some u ∧ VRel C g σ w z u := by
  unfold zeroV at h
  split at h
  rotate_left
  · cases h
  rename_i i hi
  split at h
  rotate_left
  · cases h
  rename_i u hu
  exact ⟨i, u, hi, hu, chkV_rel h⟩

omit hI ht in
theorem zeroCells_list (z : Array Value) (n : Nat) : (Builtin.zeroCells z n).toList = (List.replicate n z.toList).flatten := by
  induction n with
  | zero => simp [Builtin.zeroCells]
  | succ n ih =>
    rw [List.replicate_succ', List.flatten_append, ← ih]
    simp only [Builtin.zeroCells, Array.toList_map, Array.toList_range, Nat.succ_mul, List.range_add, List.map_append, List.map_map, List.flatten_cons, List.flatten_nil, List.append_nil]
    congr 1
    apply List.ext_getElem?
    intro j
    rw [List.getElem?_map]
    rcases Nat.lt_or_ge j z.size with h | h
    · rw [List.getElem?_range h]
      simp [Nat.add_comm, Nat.mod_eq_of_lt h, h]
    · rw [List.getElem?_eq_none (by simpa using h)]
      simp [h]

omit hI ht in
theorem repl_rel {z : V} {zu : Value} (h : VRels C g σ w z.cells zu.cells.toList) (n : Nat) : VRels C g σ w ((List.replicate n z).flatMap V.cells) (Builtin.zeroCells zu.cells n).toList := by
  rw [zeroCells_list]
  induction n with
  | zero => exact .nil
  | succ n ih =>
    rw [List.replicate_succ, List.replicate_succ, List.flatMap_cons, List.flatten_cons]
    exact h.append ih

omit hI ht in
/-- A part of a row's elements anew, in place. -/
theorem splice_row (hI : Inv C g σ w G) {id gen esz fz k : Nat} {xs ns : List V} {news : List Value} (hid : σ[id]? = some (.row gen esz fz xs)) (hk : k + ns.length ≤ xs.length) (hfk : fz ≤ k)
    (hns : ∀ x ∈ ns, x.cells.length = esz) (hcs : (ns.flatMap V.cells).all V.isCell = true) (hrel : VRels C g σ w (ns.flatMap V.cells) news) :
    ∃ w', (storeCells ⟨g.blk id, k * esz, none⟩ news).run P w = .ok () w' ∧
      Inv C g (σ.set id (.row gen esz fz (xs.take k ++ ns ++ xs.drop (k + ns.length)))) w' G ∧ Le g σ w g (σ.set id (.row gen esz fz (xs.take k ++ ns ++ xs.drop (k + ns.length)))) w' := by
  obtain ⟨us, t, hb, hpos, hsz, hcap, hmax, hr, hnx, hfz, hII⟩ := hI.obj id _ hid
  have h1 := cells_one hrel hcs
  have hl := hrel.length
  rw [flat_length hns] at hl
  have hm1 : (k + ns.length) * esz ≤ xs.length * esz := Nat.mul_le_mul_right esz hk
  have hm2 : xs.length * esz ≤ g.cap id * esz := Nat.mul_le_mul_right esz hcap
  have hm3 : fz * esz ≤ k * esz := Nat.mul_le_mul_right esz hfk
  rw [Nat.add_mul] at hm1
  have hq : us.toList.length = us.size := Array.length_toList
  have hw := write_row hI hid (us' := (setCells us.toList (k * esz) news).toArray) (ys := xs.take k ++ ns ++ xs.drop (k + ns.length)) hb (by rw [splice_length hk]; exact Nat.le_refl _) (by rw [splice_length hk]; exact hcap)
    (splice_all hnx hns)
    (by
      rw [splice_length hk, flat_splice hnx hns hk, List.toList_toArray, setCells_take _ _ _ _ (by omega) (by omega)]
      exact hr.setCells hrel _)
    (by simp [setCells_length])
    (fun j hj => by rw [List.getElem?_toArray, setCells_get _ _ _ _ (by omega), if_neg (by omega), Array.getElem?_toList])
  exact ⟨_, run_setCells hb (by omega) h1, hw⟩

theorem s_clr {z : V} {x : Rd} (hc : chkOp P C o.op (.clr z x) = true) (h : ev1 (rdV G tm) dr σ nid (.clr z x) = some (v, σ')) : Out P C G g σ w o a v σ' := by
  simp only [chkOp] at hc
  split at hc
  rotate_left
  · cases hc
  rename_i x' t hbc
  have ho := bcall_eq hbc
  simp only [Bool.and_eq_true] at hc
  obtain ⟨h1, h2⟩ := hc
  split at h1
  rotate_left
  · cases h1
  rename_i e he
  simp only [Bool.and_eq_true] at h1
  obtain ⟨hz, hs⟩ := h1
  have hu := elemT_under he
  have hx := chkRd_rel hI ht h2
  have htup : ∀ {g : Gh} {σ : Store} {w : World}, VRel C g σ w (.tup []) (.tuple #[]) := by intro g σ w; have := VRel.tup (C := C) (g := g) (σ := σ) (w := w) [] [] .nil; simpa using this
  simp only [ev1] at h
  generalize rdV G tm x = vx at h hx
  cases vx <;> try (cases h; done)
  · rename_i m xs
    cases xs with
    | cons => simp at h
    | nil =>
      simp only [Option.some.injEq, Prod.mk.injEq] at h
      obtain ⟨rfl, rfl⟩ := h
      refine Out.same hI (u := .tuple #[]) ?_ htup
      rcases inv_sl hx with ⟨e, -, -⟩ | ⟨p, c, n, us, e, -⟩
      · simp [execOp, ho, resolve, invoke, builtin, Builtin.clear_, e, run_underlying hu]
      · simp [execOp, ho, resolve, invoke, builtin, Builtin.clear_, e, run_underlying hu]
  · rename_i id gn off n
    dsimp only at h
    split at h
    rotate_left
    · cases h
    rename_i gen esz fz xs hid
    simp only [Option.ite_none_right_eq_some, Option.some.injEq, Prod.mk.injEq] at h
    obtain ⟨⟨eg, hfo, hon, hzl, hzc⟩, rfl, rfl⟩ := h
    obtain ⟨-, he⟩ := inv_row hx hid
    obtain ⟨e, -⟩ := he eg
    obtain ⟨i, zu, hi, hzu, hzr⟩ := zeroV_rel (C := C) (g := g) (σ := σ) (w := w) hz
    have hzcr := cells_rel hzr hzc
    have hrel := repl_rel hzcr n
    have hw := splice_row (P := P) hI (k := off) (ns := List.replicate n z) hid (by simpa using hon) hfo (fun y hy => by rw [List.eq_of_mem_replicate hy]; exact hzl)
      (by
        rw [List.all_eq_true]
        intro y hy
        obtain ⟨q, hq, hyq⟩ := List.mem_flatMap.1 hy
        rw [List.eq_of_mem_replicate hq] at hyq
        exact List.all_eq_true.1 hzc y hyq) hrel
    rw [List.length_replicate] at hw
    obtain ⟨w', hrun, hI', hle⟩ := hw
    refine ⟨.tuple #[], w', g, .inl ?_, hI', hle, htup⟩
    cases n with
    | zero =>
      have : (Builtin.zeroCells zu.cells 0).toList = [] := by simp [Builtin.zeroCells]
      rw [this] at hrun
      simp only [storeCells, Sem.run_pure, Result.ok.injEq, true_and] at hrun
      subst hrun
      simp [execOp, ho, resolve, invoke, builtin, Builtin.clear_, e, run_underlying hu]
    | succ n =>
      simp [execOp, ho, resolve, invoke, builtin, Builtin.clear_, e, run_underlying hu, zeroValue, typeInfo, hi, hzu, hrun]
end
end Go.Ev
