/-
  Operations that leave memory alone: places, parts, loads.
-/
import Derived.Test.YthajiefjebcobaaDoorEvOp1c
set_option linter.all false
set_option linter.unusedSimpArgs false
set_option linter.unusedVariables false
namespace Go.Ev
open Go

section
variable {P : Program} {C : Cfg} {G : List (List V)} {g : Gh} {σ : Store} {w : World} {o : Oper} {a : Act} {v : V} {tm : List V}

theorem VRels.one {c : V} {us : List Value} (h : VRels C g σ w [c] us) : ∃ u, us = [u] ∧ VRel C g σ w c u := by
  cases h with | cons hv hs => cases hs; exact ⟨_, rfl, hv⟩

/-- An element of a row in memory. -/
theorem flat_elem {xs : List V} {n k : Nat} {x : V} {us : List Value} (hn : ∀ x ∈ xs, x.cells.length = n) (hx : VRels C g σ w (xs.flatMap V.cells) us) (hk : xs[k]? = some x) :
    VRels C g σ w x.cells ((us.drop (k * n)).take n) := by
  have h1 := hx.drop (k * n)
  rw [flat_at hn hk] at h1
  have h2 := h1.split.1
  rwa [hn x (List.mem_of_getElem? hk)] at h2

variable (hI : Inv C g σ w G) (ht : VRels C g σ w tm a.tmps.toList) (dr : Bool) (nid : Nat) {σ' : Store}
include hI ht

theorem s_faddr {off : Nat} {x : Rd} (hc : chkOp P C o.op (.faddr off x) = true) (h : ev1 (rdV G tm) dr σ nid (.faddr off x) = some (v, σ')) : Out P C G g σ w o a v σ' := by
  cases ho : o.op <;> simp only [chkOp, ho, Bool.false_eq_true, Bool.and_eq_true] at hc
  rename_i t x' f
  obtain ⟨h1, h2⟩ := hc
  have hx := chkRd_rel hI ht h2
  split at h1
  rotate_left
  · cases h1
  rename_i fs hu
  split at h1
  rotate_left
  · cases h1
  rename_i fd hfd
  simp only [Bool.and_eq_true, beq_iff_eq] at h1
  obtain ⟨e0, h3⟩ := h1
  have hrun : ∀ p, a.eval x' = .pointer (some p) → (execOp a.eval o).run P w = .ok (.value (.pointer (some (p.add off)))) w := by
    intro p e
    split at h3
    · rename_i i hi
      have hne : i.size ≠ 0 := by simpa using h3
      simp [execOp, ho, e, Instr.fieldAt, run_underlying hu, hfd, Instr.sureAddr, fieldPlace, sizeOf, typeInfo, hi, hne, e0]
    · cases h3
  simp only [ev1] at h
  generalize rdV G tm x = vx at h hx
  cases vx <;> simp only [reduceCtorEq, Option.some.injEq, Prod.mk.injEq] at h <;> obtain ⟨rfl, rfl⟩ := h
  · rename_i id o'
    obtain ⟨e, cs, hcs⟩ := inv_ptr hx
    refine Out.same hI (hrun _ e) ?_
    rw [Addr.add_mk]
    exact .ptr id (o' + off) cs hcs
  · rename_i id gn idx fo
    cases hx with
    | rptr _ _ _ _ gen0 esz fz xs u hid hg he h1 =>
      rename_i hq
      obtain ⟨p, e⟩ := h1
      refine Out.same hI (hrun p e) (.rptr id gn idx (fo + off) gen0 esz fz xs _ hid hg (fun e' => ?_) ⟨_, rfl⟩)
      obtain ⟨e1, e2⟩ := he e'
      rw [e] at e1
      simp only [Value.pointer.injEq, Option.some.injEq] at e1
      rw [e1, Addr.add_mk, Nat.add_assoc]
      exact ⟨rfl, e2⟩
  · rename_i cs
    obtain ⟨p, us, e, hus, hcell⟩ := inv_iptr hx
    exact Out.same hI (hrun p e) (.iptr (cs.drop off) (p.add off) (us.drop off) (hus.drop off) (cells_drop hcell off))

theorem s_fld {ag : Bool} {n off : Nat} {x : Rd} (hc : chkOp P C o.op (.fld ag n off x) = true) (h : ev1 (rdV G tm) dr σ nid (.fld ag n off x) = some (v, σ')) : Out P C G g σ w o a v σ' := by
  cases ho : o.op <;> simp only [chkOp, ho, Bool.false_eq_true, Bool.and_eq_true] at hc
  rename_i t x' f
  obtain ⟨h1, h2⟩ := hc
  have hx := chkRd_rel hI ht h2
  split at h1
  rotate_left
  · cases h1
  rename_i fs hu
  split at h1
  rotate_left
  · cases h1
  rename_i fd hfd
  simp only [Bool.and_eq_true, beq_iff_eq] at h1
  obtain ⟨⟨⟨e0, h3⟩, h4⟩, h5⟩ := h1
  simp only [ev1] at h
  generalize rdV G tm x = vx at h hx
  cases vx <;> simp only [reduceCtorEq, Option.ite_none_right_eq_some] at h
  rename_i cs
  obtain ⟨us, e, hus⟩ := inv_agg hx
  obtain ⟨hb, h⟩ := h
  have hpart : (execOp a.eval o).run P w = (((part fd.type us.toArray fd.offset).run P w).andThen fun z w => .ok (.value z) w) := by
    simp [execOp, ho, e, Instr.field, run_underlying hu, hfd, asAgg]
  cases ag
  · simp only [Bool.false_eq_true, if_false] at h
    split at h
    rotate_left
    · cases h
    rename_i z hz
    simp only [Option.some.injEq, Prod.mk.injEq] at h
    obtain ⟨rfl, rfl⟩ := h
    obtain ⟨u, hu', hr⟩ := hus.get hz
    refine Out.same hI (u := u) ?_ hr
    rw [hpart]
    simp [part, run_isAgg h4, e0, hu']
  · simp only [if_true, Option.some.injEq, Prod.mk.injEq] at h
    obtain ⟨rfl, rfl⟩ := h
    refine Out.same hI (u := .agg ((us.drop off).take n).toArray) ?_ (.agg _ _ ((hus.drop off).take n))
    rw [hpart]
    simp [part, run_isAgg h4, szIs_size h3, e0]

theorem s_iaddr {esz : Nat} {x i : Rd} (hc : chkOp P C o.op (.iaddr esz x i) = true) (h : ev1 (rdV G tm) dr σ nid (.iaddr esz x i) = some (v, σ')) : Out P C G g σ w o a v σ' := by
  cases ho : o.op <;> simp only [chkOp, ho, Bool.false_eq_true, Bool.and_eq_true] at hc
  rename_i t x' i'
  obtain ⟨⟨h1, h2⟩, h3⟩ := hc
  have hx := chkRd_rel hI ht h2
  have hi := chkRd_rel hI ht h3
  split at h1
  rotate_left
  · cases h1
  rename_i el hel
  have hu := elemT_under hel
  have hrun : ∀ p n c k j, a.eval x' = .slice (some p) n c → a.eval i' = .int k j → 0 ≤ j → j < (n : Int) → (execOp a.eval o).run P w = .ok (.value (.pointer (some (p.add (j.toNat * esz))))) w := by
    intro p n c k j e1 e2 h0 hlt
    simp [execOp, ho, e1, e2, Instr.indexAt, asIntOf, run_underlying hu, h0, hlt, szIs_size h1]
  simp only [ev1] at h
  generalize rdV G tm x = vx at h hx
  generalize rdV G tm i = vi at h hi
  cases vx <;> cases vi <;> simp only [reduceCtorEq, Option.ite_none_right_eq_some] at h
  · rename_i m xs k j
    obtain ⟨h0, h⟩ := h
    split at h
    rotate_left
    · cases h
    rename_i z hz
    simp only [Option.ite_none_right_eq_some, Option.some.injEq, Prod.mk.injEq] at h
    obtain ⟨hlen, rfl, rfl⟩ := h
    rcases inv_sl hx with ⟨e, rfl, -⟩ | ⟨p, c, n, us, e, hn, hm, hf, hc', hus, hcell⟩
    · simp at hz
    · have hlt := (List.getElem?_eq_some_iff.1 hz).1
      have en : n = esz := (hn z (List.mem_of_getElem? hz)).symm.trans hlen
      subst en
      refine Out.same hI (hrun p _ c _ j e (inv_int hi) h0 (by omega)) ?_
      exact .iptr z.cells _ _ (flat_elem hn hus hz) (cells_take (cells_drop hcell _) _)
  · rename_i id gn off n k j
    split at h
    rotate_left
    · cases h
    rename_i gen es fz xs hid
    simp only [Option.ite_none_right_eq_some, Option.some.injEq, Prod.mk.injEq] at h
    obtain ⟨⟨eg, ees, h0, hlt, hle⟩, rfl, rfl⟩ := h
    subst ees
    obtain ⟨hg, he⟩ := inv_row hx hid
    obtain ⟨e, hle'⟩ := he eg
    refine Out.same hI (hrun _ _ _ _ j e (inv_int hi) h0 hlt) ?_
    rw [Addr.add_mk]
    refine .rptr id gn (off + j.toNat) 0 gen es fz xs _ hid hg (fun _ => ⟨?_, by omega⟩) ⟨_, rfl⟩
    rw [Nat.add_zero, Nat.add_mul]

theorem s_aaddr {len esz : Nat} {x i : Rd} (hc : chkOp P C o.op (.aaddr len esz x i) = true) (h : ev1 (rdV G tm) dr σ nid (.aaddr len esz x i) = some (v, σ')) : Out P C G g σ w o a v σ' := by
  cases ho : o.op <;> simp only [chkOp, ho, Bool.false_eq_true, Bool.and_eq_true] at hc
  rename_i t x' i'
  obtain ⟨⟨h1, h2⟩, h3⟩ := hc
  have hx := chkRd_rel hI ht h2
  have hi := chkRd_rel hI ht h3
  split at h1
  rotate_left
  · cases h1
  rename_i n el hu
  simp only [Bool.and_eq_true, beq_iff_eq] at h1
  obtain ⟨rfl, h1⟩ := h1
  have hrun : ∀ p k j, a.eval x' = .pointer (some p) → a.eval i' = .int k j → 0 ≤ j → j < (n : Int) → (execOp a.eval o).run P w = .ok (.value (.pointer (some (p.add (j.toNat * esz))))) w := by
    intro p k j e1 e2 h0 hlt
    simp [execOp, ho, e1, e2, Instr.indexAt, Instr.sureAddr, asIntOf, run_underlying hu, h0, hlt, szIs_size h1]
  simp only [ev1] at h
  generalize rdV G tm x = vx at h hx
  generalize rdV G tm i = vi at h hi
  cases vx <;> cases vi <;> simp only [reduceCtorEq, Option.ite_none_right_eq_some, Option.some.injEq, Prod.mk.injEq] at h
  · rename_i id off k j
    obtain ⟨⟨h0, hlt⟩, rfl, rfl⟩ := h
    obtain ⟨e, cs, hcs⟩ := inv_ptr hx
    refine Out.same hI (hrun _ _ j e (inv_int hi) h0 hlt) ?_
    rw [Addr.add_mk]
    exact .ptr id _ cs hcs
  · rename_i cs k j
    obtain ⟨⟨h0, hlt⟩, rfl, rfl⟩ := h
    obtain ⟨p, us, e, hus, hcell⟩ := inv_iptr hx
    exact Out.same hI (hrun p _ j e (inv_int hi) h0 hlt) (.iptr _ _ _ (hus.drop _) (cells_drop hcell _))

theorem s_idxs {x i : Rd} (hc : chkOp P C o.op (.idxs x i) = true) (h : ev1 (rdV G tm) dr σ nid (.idxs x i) = some (v, σ')) : Out P C G g σ w o a v σ' := by
  cases ho : o.op <;> simp only [chkOp, ho, Bool.false_eq_true, Bool.and_eq_true] at hc
  rename_i t x' i'
  obtain ⟨⟨h1, h2⟩, h3⟩ := hc
  have hx := chkRd_rel hI ht h2
  have hi := chkRd_rel hI ht h3
  have hu : P.underlying t = some .string := by split at h1 <;> first | assumption | cases h1
  simp only [ev1] at h
  generalize rdV G tm x = vx at h hx
  generalize rdV G tm i = vi at h hi
  cases vx <;> cases vi <;> simp only [reduceCtorEq, Option.ite_none_right_eq_some] at h
  rename_i l k j
  obtain ⟨h0, h⟩ := h
  split at h
  rotate_left
  · cases h
  rename_i b hb
  simp only [Option.some.injEq, Prod.mk.injEq] at h
  obtain ⟨rfl, rfl⟩ := h
  obtain ⟨s, e, hs⟩ := inv_str hx
  rw [← hs] at hb
  obtain ⟨u, hu', rfl⟩ := bl_get hb
  refine Out.same hI (u := .int .u8 u.toNat) ?_ (.int _ _)
  simp [execOp, ho, e, inv_int hi, Instr.index, asIntOf, run_underlying hu, h0, hu']

theorem s_idxa {len esz : Nat} {ag : Bool} {x i : Rd} (hc : chkOp P C o.op (.idxa len ag esz x i) = true) (h : ev1 (rdV G tm) dr σ nid (.idxa len ag esz x i) = some (v, σ')) : Out P C G g σ w o a v σ' := by
  cases ho : o.op <;> simp only [chkOp, ho, Bool.false_eq_true, Bool.and_eq_true] at hc
  rename_i t x' i'
  obtain ⟨⟨h1, h2⟩, h3⟩ := hc
  have hx := chkRd_rel hI ht h2
  have hi := chkRd_rel hI ht h3
  split at h1
  rotate_left
  · cases h1
  rename_i n el hu
  simp only [Bool.and_eq_true, beq_iff_eq] at h1
  obtain ⟨⟨⟨rfl, h1⟩, h4⟩, h5⟩ := h1
  simp only [ev1] at h
  generalize rdV G tm x = vx at h hx
  generalize rdV G tm i = vi at h hi
  cases vx <;> cases vi <;> simp only [reduceCtorEq, Option.ite_none_right_eq_some] at h
  rename_i cs k j
  obtain ⟨⟨h0, hlt, hle⟩, h⟩ := h
  obtain ⟨us, e, hus⟩ := inv_agg hx
  have hpart : (execOp a.eval o).run P w = (((part el us.toArray (j.toNat * esz)).run P w).andThen fun z w => .ok (.value z) w) := by
    simp [execOp, ho, e, inv_int hi, Instr.index, asIntOf, run_underlying hu, h0, hlt, szIs_size h1]
  cases ag
  · simp only [Bool.false_eq_true, if_false] at h
    split at h
    rotate_left
    · cases h
    rename_i z hz
    simp only [Option.some.injEq, Prod.mk.injEq] at h
    obtain ⟨rfl, rfl⟩ := h
    obtain ⟨u, hu', hr⟩ := hus.get hz
    refine Out.same hI (u := u) ?_ hr
    rw [hpart]
    simp [part, run_isAgg h4, hu']
  · simp only [if_true, Option.some.injEq, Prod.mk.injEq] at h
    obtain ⟨rfl, rfl⟩ := h
    refine Out.same hI (u := .agg ((us.drop (j.toNat * esz)).take esz).toArray) ?_ (.agg _ _ ((hus.drop _).take _))
    rw [hpart]
    simp [part, run_isAgg h4, szIs_size h1]

theorem s_mn {xs : List Rd} (hc : chkOp P C o.op (.mn xs) = true) (h : ev1 (rdV G tm) dr σ nid (.mn xs) = some (v, σ')) : Out P C G g σ w o a v σ' := by
  simp only [chkOp] at hc
  split at hc
  rotate_left
  · cases hc
  rename_i as ts hbc
  have ho := bcall_eq hbc
  have hr := chkRds_rel hI ht hc
  simp only [ev1] at h
  split at h
  rotate_left
  · cases h
  rename_i k n l hl
  obtain ⟨hz, rfl⟩ := okV_some h
  cases hf : foldMn n l with
  | none => rw [hf] at hz; cases hz
  | some q =>
  rw [hf] at hz
  simp only [Option.map_some, Option.some.injEq] at hz
  subst hz
  rw [hl] at hr
  have key : ∀ (s : Store) (l : List V) (us : List Value) (n : Int), VRels C g s w l us → foldMn n l = some q → (us.foldlM Builtin.min2 (.int k n)).run P w = .ok (.int k q) w := by
    intro s l
    induction l with
    | nil => intro us n hv hq; cases hv; simp [foldMn] at hq; subst hq; simp
    | cons v l ih =>
      intro us n hv hq
      cases hv with
      | cons h1 h2 =>
        cases v <;> simp only [foldMn, reduceCtorEq] at hq
        rw [inv_int h1]
        simp only [List.foldlM_cons, Sem.run_bind, Builtin.min2, Sem.run_pure, Result.andThen_ok]
        exact ih _ _ h2 hq
  generalize has : as.map a.eval = us at hr
  cases hr with
  | cons h1 h2 =>
    rename_i u us
    have e1 := inv_int h1
    subst e1
    refine Out.same hI (u := .int k q) ?_ (.int _ _)
    simp only [execOp, ho, resolve, invoke, builtin, Sem.run_bind, Sem.run_pure, Result.andThen_ok, List.map_toArray, has, Builtin.min_, key _ _ _ _ h2 hf]

theorem s_mx {xs : List Rd} (hc : chkOp P C o.op (.mx xs) = true) (h : ev1 (rdV G tm) dr σ nid (.mx xs) = some (v, σ')) : Out P C G g σ w o a v σ' := by
  simp only [chkOp] at hc
  split at hc
  rotate_left
  · cases hc
  rename_i as ts hbc
  have ho := bcall_eq hbc
  have hr := chkRds_rel hI ht hc
  simp only [ev1] at h
  split at h
  rotate_left
  · cases h
  rename_i k n l hl
  obtain ⟨hz, rfl⟩ := okV_some h
  cases hf : foldMx n l with
  | none => rw [hf] at hz; cases hz
  | some q =>
  rw [hf] at hz
  simp only [Option.map_some, Option.some.injEq] at hz
  subst hz
  rw [hl] at hr
  have key : ∀ (s : Store) (l : List V) (us : List Value) (n : Int), VRels C g s w l us → foldMx n l = some q → (us.foldlM Builtin.max2 (.int k n)).run P w = .ok (.int k q) w := by
    intro s l
    induction l with
    | nil => intro us n hv hq; cases hv; simp [foldMx] at hq; subst hq; simp
    | cons v l ih =>
      intro us n hv hq
      cases hv with
      | cons h1 h2 =>
        cases v <;> simp only [foldMx, reduceCtorEq] at hq
        rw [inv_int h1]
        simp only [List.foldlM_cons, Sem.run_bind, Builtin.max2, Sem.run_pure, Result.andThen_ok]
        exact ih _ _ h2 hq
  generalize has : as.map a.eval = us at hr
  cases hr with
  | cons h1 h2 =>
    rename_i u us
    have e1 := inv_int h1
    subst e1
    refine Out.same hI (u := .int k q) ?_ (.int _ _)
    simp only [execOp, ho, resolve, invoke, builtin, Sem.run_bind, Sem.run_pure, Result.andThen_ok, List.map_toArray, has, Builtin.max_, key _ _ _ _ h2 hf]

end
end Go.Ev
