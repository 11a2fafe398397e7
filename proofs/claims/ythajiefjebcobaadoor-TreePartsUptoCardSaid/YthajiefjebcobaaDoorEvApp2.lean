/-
  Slice literals, append: the operations.
-/
import Derived.Test.YthajiefjebcobaaDoorEvApp
set_option linter.all false
set_option linter.unusedSimpArgs false
set_option linter.unusedVariables false
set_option linter.unusedSectionVars false
namespace Go.Ev
open Go

section
variable {P : Program} {C : Cfg} {G : List (List V)} {g : Gh} {σ : Store} {w : World}

/-- More elements behind a row's, in its own room: a new number. -/
theorem more_row (hI : Inv C g σ w G) {id gen esz fz : Nat} {xs ns : List V} {news : List Value} (hid : σ[id]? = some (.row gen esz fz xs)) (hk : xs.length + ns.length ≤ g.cap id)
    (hns : ∀ x ∈ ns, x.cells.length = esz) (hcs : (ns.flatMap V.cells).all V.isCell = true) (hrel : VRels C g σ w (ns.flatMap V.cells) news) :
    ∃ w', (storeCells ⟨g.blk id, xs.length * esz, none⟩ news).run P w = .ok () w' ∧
      Inv C g (σ.set id (.row (gen + 1) esz fz (xs ++ ns))) w' G ∧ Le g σ w g (σ.set id (.row (gen + 1) esz fz (xs ++ ns))) w' := by
  obtain ⟨us, t, hb, hpos, hsz, hcap, hmax, hr, hnx, hfz, hII⟩ := hI.obj id _ hid
  have h1 := cells_one hrel hcs
  have hl := hrel.length
  rw [flat_length hns] at hl
  have hm1 : (xs.length + ns.length) * esz ≤ g.cap id * esz := Nat.mul_le_mul_right esz hk
  rw [Nat.add_mul] at hm1
  have hm2 : fz * esz ≤ xs.length * esz := Nat.mul_le_mul_right esz hfz
  have hq : us.toList.length = us.size := Array.length_toList
  have hrun := run_setCells (P := P) (k := xs.length * esz) hb (by omega) h1
  have hcell : ∀ j, g.I (g.blk id) j → (w.setRow (g.blk id) (setCells us.toList (xs.length * esz) news).toArray).cell? ⟨g.blk id, j, none⟩ = w.cell? ⟨g.blk id, j, none⟩ := by
    intro j hj
    have := hII j hj
    rw [cell_setRow_same w _ _ _ _ _ _ hb, cell_of_row w _ _ _ _ _ hb, List.getElem?_toArray, setCells_get _ _ _ _ (by omega), if_neg (by omega), Array.getElem?_toList]
  have hole : ObjLe g g id (.row gen esz fz xs) (.row (gen + 1) esz fz (xs ++ ns)) := ⟨by omega, rfl, fun e => absurd e (by omega)⟩
  have hle : Le g σ w g (σ.set id (.row (gen + 1) esz fz (xs ++ ns))) (w.setRow (g.blk id) (setCells us.toList (xs.length * esz) news).toArray) :=
    le_write (C := C) (G := G) hI hid (by simp) hole (fun b hb => setRow_other w _ _ _ hb) hcell (by simp) rfl rfl rfl
  refine ⟨_, hrun, inv_write hI hid (by simp) (by simp) hole (fun b hb => setRow_other w _ _ _ hb) hcell (by simp) rfl rfl rfl
    ⟨_, t, setRow_heap w _ _ _ _ _ hb, hpos, by simp [setCells_length, hsz], by simpa using hk, hmax, ?_, fun x hx => ?_, by simp; omega, hII⟩, hle⟩
  · rw [List.toList_toArray, setCells_take _ _ _ _ (by rw [List.length_append, Nat.add_mul]; omega) (by omega), List.flatMap_append, List.length_append, Nat.add_mul]
    have e : setCells (us.toList.take (xs.length * esz + ns.length * esz)) (xs.length * esz) news = us.toList.take (xs.length * esz) ++ news := by
      rw [setCells_eq _ _ _ (by simp; omega), List.take_take, Nat.min_eq_left (by omega), List.drop_eq_nil_of_le (by simp; omega), List.append_nil]
    rw [e]
    exact (hr.mono hle).append (hrel.mono hle)
  · rcases List.mem_append.1 hx with hx | hx
    · exact hnx x hx
    · exact hns x hx
end

section
variable {P : Program} {C : Cfg} {G : List (List V)} {g : Gh} {σ : Store} {w : World} {o : Oper} {a : Act} {v : V} {tm : List V}
variable (hI : Inv C g σ w G) (ht : VRels C g σ w tm a.tmps.toList) (dr : Bool) (nid : Nat) {σ' : Store}
include hI ht

omit hI ht in
theorem zero_take {z : Array Value} {n m k : Nat} {olds news : List Value} (ho : olds.length = m) (hn : news.length = k) (hz : z.size = n) (h : Nat) :
    ((olds.toArray ++ news.toArray ++ Builtin.zeroCells z h).toList).take (m + k) = olds ++ news := by
  simp only [Array.toList_append]
  rw [List.take_left' (by simp; omega)]

theorem s_app (hr : Room σ nid) {esz bytes : Nat} {x y : Rd} (hc : chkOp P C o.op (.app esz bytes x y) = true) (h : ev1 (rdV G tm) dr σ nid (.app esz bytes x y) = some (v, σ')) : Out P C G g σ w o a v σ' := by
  simp only [chkOp] at hc
  split at hc
  rotate_left
  · cases hc
  rename_i x' y' t t' hbc
  have ho := bcall_eq hbc
  simp only [Bool.and_eq_true] at hc
  obtain ⟨⟨⟨h1, h2⟩, h3⟩, h4⟩ := hc
  split at h1
  rotate_left
  · cases h1
  rename_i e he
  split at h1
  rotate_left
  · cases h1
  rename_i i hi
  simp only [Bool.and_eq_true, beq_iff_eq, decide_eq_true_eq] at h1
  obtain ⟨⟨⟨⟨e1, e2⟩, hpos⟩, hbp⟩, hzs⟩ := h1
  subst e1 e2
  obtain ⟨z, hz, hzsz⟩ : ∃ z, i.zero = some z ∧ z.cells.size = i.size := by
    split at hzs
    · exact ⟨_, ‹_›, by simpa using hzs⟩
    · cases hzs
  have hu := elemT_under he
  obtain ⟨e', he'⟩ := Option.isSome_iff_exists.1 h2
  have hu' := elemT_under he'
  have hx := chkRd_rel hI ht h3
  have hy := chkRd_rel hI ht h4
  have hex : ∀ u w', (Builtin.append_ #[t, t'] o.type #[a.eval x', a.eval y']).run P w = .ok u w' → (execOp a.eval o).run P w = .ok (.value u) w' := by
    intro u w' hrun
    simp [execOp, ho, resolve, invoke, builtin, hrun]
  generalize a.eval x' = ux at hx hex
  generalize a.eval y' = uy at hy hex
  simp only [ev1] at h
  generalize rdV G tm x = vx at h hx
  generalize rdV G tm y = vy at h hy
  split at h
  · cases h
  rename_i es hes
  split at h
  · cases h
  rename_i ns σ1 hho
  split at h
  rotate_left
  · cases h
  rename_i hones
  obtain ⟨hns, hncell⟩ := ones_spec hones
  obtain ⟨g1, hI1, hle1, -, hfl, hlen, hmap⟩ := handOn_ok hI hho
  have hroom1 : Room σ1 nid := (handOn_raise hho).room hr
  have hel := elems_rel hI hy hes
  have hx1 := hx.mono hle1
  -- the new elements' cells
  have hnews : ∃ news, VRels C g1 σ1 w (ns.flatMap V.cells) news ∧ news.length = ns.length * i.size ∧
      ((uy = .slice none 0 0 ∧ ns = []) ∨ ∃ p c, uy = .slice (some p) ns.length c ∧ ∀ j x, news[j]? = some x → w.cell? (p.add j) = some x) := by
    rcases hel with ⟨e, rfl⟩ | ⟨p, c, us, e, hrel, hcell⟩
    · have : ns = [] := List.eq_nil_of_length_eq_zero (by simpa using hlen)
      subst this
      exact ⟨[], .nil, by simp, .inl ⟨e, rfl⟩⟩
    · have h5 := hfl us hrel
      have hl := h5.length
      rw [flat_length hns] at hl
      exact ⟨us, h5, hl.symm, .inr ⟨p, c, by rw [hlen]; exact e, hcell⟩⟩
  obtain ⟨news, hnr, hnl, hny⟩ := hnews
  -- nothing new
  have hnone : ns = [] → ∀ {q : Option Addr} {n c : Nat}, ux = .slice q n c → n ≤ c → (Builtin.append_ #[t, t'] o.type #[ux, uy]).run P w = .ok ux w := by
    rintro rfl q n c rfl hnc
    refine app_none hu hu' hi hz o.type ?_ hnc
    rcases hny with ⟨e, -⟩ | ⟨p, c, e, -⟩
    · exact .inl e
    · exact .inr ⟨p, c, e⟩
  have hsome : ns.isEmpty = false → ∃ p c, uy = .slice (some p) ns.length c ∧ ∀ j x, news[j]? = some x → w.cell? (p.add j) = some x := by
    intro hne
    rcases hny with ⟨-, e⟩ | h
    · rw [e] at hne; cases hne
    · exact h
  have hpos2 : ns.isEmpty = false → 0 < ns.length := by
    intro hne
    cases ns with
    | nil => cases hne
    | cons => simp
  have hbound : ∀ n, (n + ns.length) * i.bytes < LIM → n + ns.length ≤ maxLen ∧ ((n + ns.length : Nat) : Int) ≤ 9223372036854775807 ∧ (n + ns.length) * i.bytes ≤ 140737488355328 := by
    intro n hb
    have : n + ns.length ≤ (n + ns.length) * i.bytes := Nat.le_mul_of_pos_right _ hbp
    simp only [LIM, maxLen] at hb ⊢
    omega
  cases vx <;> try (cases h; done)
  · -- a slice that is nil, or full
    rename_i m xs
    dsimp only at h
    simp only [Option.ite_none_right_eq_some] at h
    obtain ⟨⟨hm, hb⟩, h⟩ := h
    obtain ⟨b1, b2, b3⟩ := hbound _ hb
    split at h
    · rename_i hemp
      simp only [Option.some.injEq, Prod.mk.injEq] at h
      obtain ⟨rfl, rfl⟩ := h
      have hne : ns = [] := by simpa using hemp
      refine ⟨ux, w, g1, .inl (hex _ _ ?_), hI1, hle1, hx1⟩
      rcases inv_sl hx with ⟨e, -⟩ | ⟨p, c, n, us, e, -, -, -, hc, -⟩
      · exact hnone hne e (Nat.le_refl _)
      · exact hnone hne e hc
    · rename_i hemp
      simp only [Option.ite_none_right_eq_some, Option.some.injEq, Prod.mk.injEq] at h
      obtain ⟨hxo, rfl, rfl⟩ := h
      have hemp : ns.isEmpty = false := by simpa using hemp
      obtain ⟨p, c, ey, hcell⟩ := hsome hemp
      have hnp := hpos2 hemp
      obtain ⟨hxn, hxc⟩ := ones_spec hxo
      -- the old cells, and what is run
      have hold : ∃ olds oldc, VRels C g1 σ1 w (xs.flatMap V.cells) olds ∧ olds.length = xs.length * i.size ∧
          (Builtin.append_ #[t, t'] o.type #[ux, uy]).run P w = .ok (.slice (some ⟨w.heap.size, 0, none⟩) (xs.length + ns.length) (grownCap w (xs.length + ns.length) oldc e))
            (w.drew.alloc (.cells (olds.toArray ++ news.toArray ++ Builtin.zeroCells z.cells (grownCap w (xs.length + ns.length) oldc e - (xs.length + ns.length))) e)) := by
        rcases inv_sl hx1 with ⟨ex, rfl, -⟩ | ⟨q, cq, n, us, ex, hn, hmn, hf, hcq, hrel, hcq2⟩
        · refine ⟨[], 0, .nil, by simp, ?_⟩
          rw [ex, ey]
          have := app_nil (P := P) (w := w) hu hu' hi hz o.type (c := c) hnl hcell hnp (by simpa using b2) (by have := b3; simp only [List.length_nil, Nat.zero_add] at this; omega)
          simpa using this
        · have hfull : m = .full ∨ m = .lim := by
            rcases hm with ⟨e, -⟩ | e | e
            · exact absurd e hmn
            · exact .inl e
            · exact .inr e
          have hcx := hf hfull
          have hl := hrel.length
          rw [flat_length hxn] at hl
          refine ⟨us, cq, hrel, hl.symm, ?_⟩
          rw [ex, ey]
          exact app_grow (P := P) (w := w) hu hu' hi hz o.type hl.symm (fun j y hj => (hcq2 j y hj).2) hnl hcell (by omega) b2 (growslice_fits (by omega) b3)
      obtain ⟨olds, oldc, hor, hol, hrun⟩ := hold
      generalize hcap : grownCap w (xs.length + ns.length) oldc e = cap at hrun
      have hge : xs.length + ns.length ≤ cap := by rw [← hcap]; exact grownCap_ge _ _ _ _
      have hmx : cap ≤ maxLen := by rw [← hcap]; exact grownCap_le_maxLen _ _ _ _ b1
      obtain ⟨hI2, hle2⟩ := inv_drew hI1
      have hle3 := le_alloc (C := C) (G := G) hI2 hroom1 (.row 0 i.size 0 (xs ++ ns)) (.cells (olds.toArray ++ news.toArray ++ Builtin.zeroCells z.cells (cap - (xs.length + ns.length))) e) cap
      have hget : (σ1.put nid (.row 0 i.size 0 (xs ++ ns)))[nid]? = some (.row 0 i.size 0 (xs ++ ns)) := by rw [put_get hroom1.le, if_pos rfl]
      have hblk : (g1.fresh nid w.drew.heap.size cap).blk nid = w.heap.size := by simp only [Gh.fresh, if_true]; rfl
      have hcp : (g1.fresh nid w.drew.heap.size cap).cap nid = cap := by simp [Gh.fresh]
      refine ⟨_, _, g1.fresh nid w.drew.heap.size cap, .inl (hex _ _ hrun), inv_alloc hI2 hroom1 _ _ cap ⟨olds.toArray ++ news.toArray ++ Builtin.zeroCells z.cells (cap - (xs.length + ns.length)), e, ?_, hpos, ?_, ?_, ?_, ?_, ?_, Nat.zero_le _, fun j hj => ?_⟩, hle1.trans (hle2.trans hle3), ?_⟩
      · rw [hblk]; exact heap_alloc_new w.drew _
      · rw [hcp]
        simp only [Array.size_append, List.size_toArray, size_zeroCells, hzsz, hol, hnl, ← Nat.add_mul]
        congr 1
        omega
      · rw [hcp, List.length_append]; exact hge
      · rw [hcp]; exact hmx
      · rw [List.flatMap_append, List.length_append, Nat.add_mul, zero_take hol hnl hzsz]
        exact ((hor.mono hle2).mono hle3).append ((hnr.mono hle2).mono hle3)
      · intro x hx
        rcases List.mem_append.1 hx with hx | hx
        · exact hxn x hx
        · exact hns x hx
      · rw [hblk] at hj
        exact absurd (hI1.imm _ j hj) (Nat.lt_irrefl _)
      · have := VRel.row (C := C) (g := g1.fresh nid w.drew.heap.size cap) (w := w.drew.alloc (.cells (olds.toArray ++ news.toArray ++ Builtin.zeroCells z.cells (cap - (xs.length + ns.length))) e)) nid 0 0 (xs.length + ns.length) 0 i.size 0 (xs ++ ns)
          (.slice (some ⟨w.heap.size, 0, none⟩) (xs.length + ns.length) cap) hget (Nat.le_refl _) (fun _ => ⟨by rw [hblk, hcp]; simp, by simp⟩) ⟨_, _, _, rfl⟩
        exact this
  · -- a row
    rename_i id gn off n
    dsimp only at h
    split at h
    rotate_left
    · cases h
    rename_i gen es' fz xs hid
    simp only [Option.ite_none_right_eq_some] at h
    obtain ⟨⟨eg, ees, eo, hnx, hb⟩, h⟩ := h
    subst ees eo
    obtain ⟨b1, b2, b3⟩ := hbound _ hb
    obtain ⟨-, hu0⟩ := inv_row hx1 hid
    obtain ⟨eu, -⟩ := hu0 eg
    rw [Nat.zero_mul, Nat.sub_zero] at eu
    obtain ⟨us, tt, k1, k2, k3, k4, k5, k6, k7, k8, k9⟩ := hI1.obj id _ hid
    split at h
    · rename_i hemp
      simp only [Option.some.injEq, Prod.mk.injEq] at h
      obtain ⟨rfl, rfl⟩ := h
      have hne : ns = [] := by simpa using hemp
      exact ⟨ux, w, g1, .inl (hex _ _ (hnone hne eu (by omega))), hI1, hle1, hx1⟩
    · rename_i hemp
      have hemp : ns.isEmpty = false := by simpa using hemp
      obtain ⟨p, c, ey, hcell⟩ := hsome hemp
      have hnp := hpos2 hemp
      split at h
      · rename_i hfit
        simp only [Option.ite_none_right_eq_some, Option.some.injEq, Prod.mk.injEq] at h
        obtain ⟨hfn, rfl, rfl⟩ := h
        obtain ⟨w', hst, hI2, hle2⟩ := splice_row (P := P) hI1 (k := n) (ns := ns) hid hfit hfn hns hncell hnr
        have hrun := app_room (P := P) (w := w) hu hu' hi hz o.type (b := g1.blk id) (sLen := n) (sCap := g1.cap id) (c := c) hnl hcell (by omega) hst
        rw [← eu, ← ey] at hrun
        have hlt := (List.getElem?_eq_some_iff.1 hid).1
        refine ⟨_, w', g1, .inl (hex _ _ hrun), hI2, hle1.trans hle2, ?_⟩
        refine .row id gn 0 (n + ns.length) gen i.size fz (xs.take n ++ ns ++ xs.drop (n + ns.length)) (.slice (some ⟨g1.blk id, 0, none⟩) (n + ns.length) (g1.cap id)) (by simp [hlt]) (by omega) (fun _ => ⟨by simp, by rw [splice_length hfit]; omega⟩) ⟨_, _, _, rfl⟩
      · simp only [Option.ite_none_right_eq_some, Option.some.injEq, Prod.mk.injEq] at h
        obtain ⟨hnl2, rfl, rfl⟩ := h
        subst hnl2
        have hlt := (List.getElem?_eq_some_iff.1 hid).1
        by_cases hroom : xs.length + ns.length ≤ g1.cap id
        · obtain ⟨w', hst, hI2, hle2⟩ := more_row (P := P) hI1 hid hroom hns hncell hnr
          have hrun := app_room (P := P) (w := w) hu hu' hi hz o.type (b := g1.blk id) (sLen := xs.length) (sCap := g1.cap id) (c := c) hnl hcell hroom hst
          rw [← eu, ← ey] at hrun
          refine ⟨_, w', g1, .inl (hex _ _ hrun), hI2, hle1.trans hle2, ?_⟩
          subst eg
          exact VRel.row (C := C) (g := g1) (σ := σ1.set id (.row (gn + 1) i.size fz (xs ++ ns))) (w := w') id (gn + 1) 0 (xs.length + ns.length) (gn + 1) i.size fz (xs ++ ns) (.slice (some ⟨g1.blk id, 0, none⟩) (xs.length + ns.length) (g1.cap id)) (by simp [hlt]) (by omega) (fun _ => ⟨by simp, by simp⟩) ⟨_, _, _, rfl⟩
        · have hq : us.toList.length = us.size := Array.length_toList
          have hm2 : xs.length * i.size ≤ g1.cap id * i.size := Nat.mul_le_mul_right i.size k4
          have hol : (us.toList.take (xs.length * i.size)).length = xs.length * i.size := by simp; omega
          have hrun := app_grow (P := P) (w := w) hu hu' hi hz o.type (b := ⟨g1.blk id, 0, none⟩) (sLen := xs.length) (sCap := g1.cap id) (c := c) hol
            (fun j y hj => by
              rw [Addr.add_mk, cell_of_row w _ _ _ _ _ k1]
              rw [List.getElem?_take] at hj
              split at hj
              · simpa using hj
              · cases hj) hnl hcell (by omega) b2 (growslice_fits (by omega) b3)
          generalize hcap : grownCap w (xs.length + ns.length) (g1.cap id) e = cap at hrun
          have hge : xs.length + ns.length ≤ cap := by rw [← hcap]; exact grownCap_ge _ _ _ _
          have hmx : cap ≤ maxLen := by rw [← hcap]; exact grownCap_le_maxLen _ _ _ _ b1
          rw [← eu, ← ey] at hrun
          obtain ⟨hI2, hle2⟩ := inv_move hI1 hid (gen' := gen + 1) (by omega) (ys := xs ++ ns) (t := e) (cap := cap)
            (us := (us.toList.take (xs.length * i.size)).toArray ++ news.toArray ++ Builtin.zeroCells z.cells (cap - (xs.length + ns.length)))
            (by
              simp only [Array.size_append, List.size_toArray, size_zeroCells, hzsz, hol, hnl, ← Nat.add_mul]
              congr 1
              omega)
            (by simpa using hge) hmx
            (by
              rw [List.flatMap_append, List.length_append, Nat.add_mul, zero_take hol hnl hzsz]
              exact k6.append hnr)
            (fun x hx => by
              rcases List.mem_append.1 hx with hx | hx
              · exact k7 x hx
              · exact hns x hx)
            (by simp) w.drew rfl rfl rfl rfl
          refine ⟨_, _, _, .inl (hex _ _ hrun), hI2, hle1.trans hle2, ?_⟩
          have hblk : (g1.fresh id w.heap.size cap).blk id = w.heap.size := by simp [Gh.fresh]
          have hcp : (g1.fresh id w.heap.size cap).cap id = cap := by simp [Gh.fresh]
          subst eg
          exact VRel.row (C := C) (g := g1.fresh id w.heap.size cap) (σ := σ1.set id (.row (gn + 1) i.size fz (xs ++ ns))) id (gn + 1) 0 (xs.length + ns.length) (gn + 1) i.size fz (xs ++ ns) (.slice (some ⟨w.heap.size, 0, none⟩) (xs.length + ns.length) cap) (by simp [hlt]) (by omega) (fun _ => ⟨by rw [hblk, hcp]; simp, by simp⟩) ⟨_, _, _, rfl⟩

/-! ### Slice literals -/
omit hI ht in
theorem noDup_spec : ∀ {l : List Nat}, noDup l = true → l.Nodup
  | [], _ => List.nodup_nil
  | x :: r, h => by
    simp only [noDup, Bool.and_eq_true, Bool.not_eq_true'] at h
    rw [List.nodup_cons]
    exact ⟨by simpa using h.1, noDup_spec h.2⟩

omit hI ht in
/-- What stands where after all parts. -/
theorem fold_set_other (f : Rd → V) : ∀ (ps : List (Nat × Rd)) (l : List V) (k : Nat), k ∉ ps.map (·.1) → (ps.foldl (fun l p => l.set p.1 (f p.2)) l)[k]? = l[k]?
  | [], _, _, _ => rfl
  | p :: ps, l, k, h => by
    simp only [List.map_cons, List.mem_cons, not_or] at h
    rw [List.foldl_cons, fold_set_other f ps _ k h.2, List.getElem?_set_ne (Ne.symm h.1)]

omit hI ht in
theorem fold_set_at (f : Rd → V) : ∀ (ps : List (Nat × Rd)) (l : List V), (ps.map (·.1)).Nodup → ∀ p ∈ ps, p.1 < l.length → (ps.foldl (fun l p => l.set p.1 (f p.2)) l)[p.1]? = some (f p.2)
  | [], _, _, p, hp, _ => by simp at hp
  | q :: ps, l, hn, p, hp, hl => by
    rw [List.map_cons, List.nodup_cons] at hn
    rw [List.foldl_cons]
    rcases List.mem_cons.1 hp with rfl | hp
    · rw [fold_set_other f ps _ _ hn.1, List.getElem?_set_self hl]
    · exact fold_set_at f ps _ hn.2 p hp (by simpa using hl)

omit hI ht in
theorem fold_set_length (f : Rd → V) : ∀ (ps : List (Nat × Rd)) (l : List V), (ps.foldl (fun l p => l.set p.1 (f p.2)) l).length = l.length
  | [], _ => rfl
  | p :: ps, l => by rw [List.foldl_cons, fold_set_length f ps]; simp

theorem fill_elems {n esz : Nat} : ∀ (ps : List (Nat × Rd)) (qs : List (Nat × Operand)) (l : List V) (us : Array Value), chkElems C qs ps = true → l.length = n → (∀ x ∈ l, x.cells.length = esz) →
    (∀ p ∈ ps, p.1 < n ∧ (rdV G tm p.2).cells.length = esz ∧ (rdV G tm p.2).cells.all V.isCell = true) → VRels C g σ w (l.flatMap V.cells) us.toList →
    ∃ us', Instr.fill (fun i => some (i * esz, esz)) us (qs.map fun (i, x) => (i, a.eval x)) = some us' ∧ us'.size = us.size ∧ VRels C g σ w ((ps.foldl (fun l p => l.set p.1 (rdV G tm p.2)) l).flatMap V.cells) us'.toList
  | [], [], l, us, _, _, _, _, hr => ⟨us, rfl, rfl, hr⟩
  | (j, y) :: ps, (i, x) :: qs, l, us, hc, hl, hn, hp, hr => by
    simp only [chkElems, Bool.and_eq_true, beq_iff_eq] at hc
    obtain ⟨⟨h1, h2⟩, h3⟩ := hc
    subst h1
    have hx := chkRd_rel hI ht h2
    obtain ⟨p1, p2, p3⟩ := hp (i, y) (by simp)
    have hcr := cells_rel hx p3
    have hcl := hcr.length
    have hq : (a.eval x).cells.toList.length = (a.eval x).cells.size := Array.length_toList
    have hfl := hr.length
    rw [flat_length hn, hl] at hfl
    have hq2 : us.toList.length = us.size := Array.length_toList
    have hm : (i + 1) * esz ≤ n * esz := Nat.mul_le_mul_right esz p1
    rw [Nat.succ_mul] at hm
    have hst := fill_step (fun i => some (i * esz, esz)) us i (a.eval x) (qs.map fun (i, x) => (i, a.eval x)) (i * esz) esz rfl (by simp only at p2; omega) (by omega)
    obtain ⟨z, hz⟩ : ∃ z, l[i]? = some z := ⟨l[i]'(by omega), List.getElem?_eq_getElem (by omega)⟩
    have hfs := flat_set hn p2 hz
    obtain ⟨us', e1, e2, e3⟩ := fill_elems ps qs (l.set i (rdV G tm y)) (setCells us.toList (i * esz) (a.eval x).cells.toList).toArray h3 (by simpa using hl)
      (fun x hx => by
        rcases List.mem_or_eq_of_mem_set hx with hx | rfl
        · exact hn x hx
        · exact p2)
      (fun p hp' => hp p (by simp [hp'])) (by rw [hfs]; simpa using hr.setCells hcr (i * esz))
    refine ⟨us', ?_, by rw [e2]; simp [setCells_length], e3⟩
    rw [List.map_cons, hst]
    exact e1

theorem s_bslice {mu : Bool} (hr : mu = true → Room σ nid) {n esz : Nat} {ag : Bool} {z : List V} {ps : List (Nat × Rd)} (hc : chkOp P C o.op (.bslice mu n esz ag z ps) = true) (h : ev1 (rdV G tm) dr σ nid (.bslice mu n esz ag z ps) = some (v, σ')) : Out P C G g σ w o a v σ' := by
  cases ho : o.op <;> simp only [chkOp, ho, Bool.false_eq_true, Bool.and_eq_true] at hc
  rename_i t n' qs
  obtain ⟨h1, h2⟩ := hc
  have h1 : n = n' := by simpa using h1
  subst h1
  split at h2
  rotate_left
  · cases h2
  rename_i e he
  simp only [Bool.and_eq_true, decide_eq_true_eq] at h2
  obtain ⟨⟨⟨⟨⟨⟨⟨c1, c2⟩, c3⟩, c4⟩, c5⟩, c6⟩, c7⟩, c8⟩ := h2
  have hu := elemT_under he
  obtain ⟨i, zu, hi, hzu, hzr, hzc, hzs⟩ := zeroIs_rel (C := C) (g := g) (σ := σ) (w := w) c2
  obtain ⟨i', hi', hsz⟩ := szIs_info c1
  rw [hi] at hi'
  cases hi'
  have hzl := hzr.length
  rw [show zu.cells.toList.length = zu.cells.size from Array.length_toList, hzs, hsz] at hzl
  have hgrp : (grp ag z).cells = z := by
    cases ag with
    | true => rfl
    | false =>
      have : esz = 1 := by simpa using c5
      subst this
      cases z with
      | nil => simp at hzl
      | cons c r =>
        cases r with
        | nil =>
          simp only [List.all_cons, List.all_nil, Bool.and_true] at hzc
          show V.cells c = [c]
          cases c <;> first | rfl | exact absurd hzc Bool.false_ne_true
        | cons => simp at hzl
  simp only [ev1] at h
  generalize hvs : ps.foldl (fun l p => l.set p.1 (rdV G tm p.2)) (List.replicate n (grp ag z)) = vs at h
  split at h
  rotate_left
  · cases h
  rename_i hcond
  simp only [Bool.and_eq_true, decide_eq_true_eq] at hcond
  obtain ⟨hones, hsmall⟩ := hcond
  obtain ⟨hvn, hvc⟩ := ones_spec hones
  have hvl : vs.length = n := by rw [← hvs, fold_set_length]; simp
  have hparts : ∀ p ∈ ps, p.1 < n ∧ (rdV G tm p.2).cells.length = esz ∧ (rdV G tm p.2).cells.all V.isCell = true := by
    intro p hp
    have hpn : p.1 < n := by
      have := List.all_eq_true.1 c8 p hp
      simpa using this
    have := fold_set_at (rdV G tm) ps (List.replicate n (grp ag z)) (noDup_spec c7) p hp (by simpa using hpn)
    rw [hvs] at this
    have hm := List.mem_of_getElem? this
    refine ⟨hpn, hvn _ hm, ?_⟩
    unfold ones at hones
    have := List.all_eq_true.1 hones _ hm
    simp only [Bool.and_eq_true] at this
    exact this.2
  have hz0 : VRels C g σ w ((List.replicate n (grp ag z)).flatMap V.cells) (Builtin.zeroCells zu.cells n).toList := repl_rel (by rw [hgrp]; exact hzr) n
  obtain ⟨us, hfill, husz, hrel⟩ := fill_elems hI ht ps qs.toList (List.replicate n (grp ag z)) (Builtin.zeroCells zu.cells n) c6 (by simp) (fun x hx => by rw [List.eq_of_mem_replicate hx, hgrp]; omega) hparts hz0
  rw [hvs] at hrel
  rw [size_zeroCells, hzs, hsz] at husz
  have hrun : (execOp a.eval o).run P w = .ok (.value (.slice (some ⟨w.heap.size, 0, none⟩) n n)) (w.alloc (.cells us e)) := by
    have hb : (Instr.buildSlice t n (qs.map fun (i, x) => (i, a.eval x))).run P w = .ok (.slice (some ⟨w.heap.size, 0, none⟩) n n) (w.alloc (.cells us e)) := by
      by_cases hn0 : n = 0
      · subst hn0
        cases ps with
        | cons p ps => exact absurd (hparts p (by simp)).1 (Nat.not_lt_zero _)
        | nil =>
          have hqs : qs = #[] := by
            cases hq : qs.toList with
            | nil => simpa using hq
            | cons => rw [hq] at c6; simp [chkElems] at c6
          subst hqs
          have hus : us = #[] := by
            simp only [Nat.zero_mul] at husz
            exact Array.eq_empty_of_size_eq_zero husz
          subst hus
          have h0 : ∀ f : Nat → Value, (Array.range 0).map f = #[] := fun f => by apply Array.ext'; simp
          simp [Instr.buildSlice, run_underlying hu, sizeOf, typeInfo, hi, Instr.fill, newRow, h0]
      · refine run_buildSlice w t e n _ us i zu hu hi hzu (by rw [hsz]; omega) (by rw [hsz]; exact Nat.ne_of_gt (Nat.mul_pos (by omega) c4)) ?_
        rw [hsz, Array.toList_map]
        have : (Array.range (n * esz)).map (zu.cells[· % zu.cells.size]!) = Builtin.zeroCells zu.cells n := by
          simp only [Builtin.zeroCells, hzs, hsz]
        rw [this]
        exact hfill
    simp only [execOp, ho, Sem.run_bind, hb, Result.andThen_ok, Sem.run_pure]
  split at h
  · -- a row of one's own
    rename_i hmu
    have hr := hr hmu
    simp only [Option.some.injEq, Prod.mk.injEq] at h
    obtain ⟨rfl, rfl⟩ := h
    have hle := le_alloc (C := C) (G := G) hI hr (.row 0 esz 0 vs) (.cells us e) n
    have hget : (σ.put nid (.row 0 esz 0 vs))[nid]? = some (.row 0 esz 0 vs) := by rw [put_get hr.le, if_pos rfl]
    have hblk : (g.fresh nid w.heap.size n).blk nid = w.heap.size := by simp [Gh.fresh]
    have hcp : (g.fresh nid w.heap.size n).cap nid = n := by simp [Gh.fresh]
    have hnm : n ≤ n * esz := Nat.le_mul_of_pos_right _ c4
    refine ⟨_, _, g.fresh nid w.heap.size n, .inl hrun, inv_alloc hI hr _ _ n ⟨us, e, ?_, c4, ?_, ?_, ?_, ?_, hvn, Nat.zero_le _, fun j hj => ?_⟩, hle, ?_⟩
    · rw [hblk]; exact heap_alloc_new w _
    · rw [hcp]; exact husz
    · rw [hcp]; exact Nat.le_of_eq hvl
    · rw [hcp]; simp only [maxLen]; omega
    · rw [hvl, ← husz, show us.size = us.toList.length from Array.length_toList.symm, List.take_length]
      exact hrel.mono hle
    · rw [hblk] at hj
      exact absurd (hI.imm _ j hj) (Nat.lt_irrefl _)
    · exact .row nid 0 0 n 0 esz 0 vs _ hget (Nat.le_refl _) (fun _ => ⟨by rw [hblk, hcp]; simp, by omega⟩) ⟨_, _, _, rfl⟩
  · split at h
    rotate_left
    · cases h
    rename_i l σ1 hho
    simp only [Option.some.injEq, Prod.mk.injEq] at h
    obtain ⟨rfl, rfl⟩ := h
    obtain ⟨g1, hI1, hle1, -, hfl, hlen, hmap⟩ := handOn_ok hI hho
    have hle2 := le_shut (C := C) (G := G) hI1 (.cells us e)
    refine ⟨_, _, g1.shut w.heap.size, .inl hrun, inv_shut hI1 _, hle1.trans hle2, ?_⟩
    have hll : l.length = n := by omega
    conv => rhs; rw [← hll]
    refine .sl .full l _ _ esz us.toList (map_len_all hmap hvn) (by simp) (fun _ => rfl) (Nat.le_refl _) ((hfl _ hrel).mono hle2) (fun j x hj => ⟨.inr rfl, ?_⟩)
    rw [Addr.add_mk, Nat.zero_add]
    have : (w.alloc (.cells us e)).heap[w.heap.size]? = some (.cells us e) := heap_alloc_new w _
    rw [cell_of_row _ _ _ _ _ _ this]
    simpa using hj
end
end Go.Ev
