/-
  Regions that draw their order: any order leads to the same.
-/
import Derived.Test.YthajiefjebcobaaDoorEvComm
set_option linter.all false
set_option linter.unusedSimpArgs false
set_option linter.unusedVariables false
namespace Go.Ev

theorem put_len {σ : Store} {nid : Nat} (h : nid < σ.length) (o : Obj) : (σ.put nid o).length = σ.length := (put_moves h o).len

theorem ev1_len {r : Rd → V} {dr : Bool} {σ σ' : Store} {nid : Nat} {v : V} {op : IOp} (hn : allocs op = true → nid < σ.length) (h : ev1 r dr σ nid op = some (v, σ')) : σ'.length = σ.length := by
  have hpr : op.pu = true ∨ op.ro = true → σ'.length = σ.length := by
    rintro (hp | hp)
    · have h1 := ev1_pu hp dr dr σ σ nid nid (r := r)
      rw [h] at h1
      simp only [Option.map_some, okV, Option.some.injEq, Prod.mk.injEq, true_and] at h1
      rw [h1]
    · have h1 := ev1_ro hp dr dr σ nid nid (r := r)
      rw [h] at h1
      simp only [Option.map_some, okV, Option.some.injEq, Prod.mk.injEq, true_and] at h1
      rw [h1]
  cases op
  case alloc cs =>
    simp only [ev1, Option.some.injEq, Prod.mk.injEq] at h
    rw [← h.2]; exact put_len (hn rfl) _
  case box n x =>
    simp only [ev1, Option.ite_none_right_eq_some, Option.some.injEq, Prod.mk.injEq] at h
    rw [← h.2.2]; exact put_len (hn rfl) _
  case mkmap =>
    simp only [ev1, Option.some.injEq, Prod.mk.injEq] at h
    rw [← h.2]; exact put_len (hn rfl) _
  case bslice mu n esz ag z ps =>
    simp only [ev1] at h
    split at h
    rotate_left
    · cases h
    split at h
    · rename_i hm
      simp only [Option.some.injEq, Prod.mk.injEq] at h
      rw [← h.2]; exact put_len (hn hm) _
    · split at h
      · rename_i hho
        simp only [Option.some.injEq, Prod.mk.injEq] at h
        rw [← h.2]; exact (handOn_raise hho).len
      · cases h
  case store n a x =>
    simp only [ev1] at h
    split at h
    · simp only [Option.some.injEq, Prod.mk.injEq] at h
      rw [← h.2]; simp
    · cases h
  case clr z x =>
    simp only [ev1] at h
    split at h
    · simp only [Option.some.injEq, Prod.mk.injEq] at h
      rw [← h.2]
    · split at h
      · split at h
        · simp only [Option.some.injEq, Prod.mk.injEq] at h
          rw [← h.2]; simp
        · cases h
      · cases h
    · cases h
  case ins kk m k x =>
    simp only [ev1] at h
    split at h
    · split at h
      · split at h
        · simp only [Option.some.injEq, Prod.mk.injEq] at h
          rw [← h.2]; simp
        · cases h
      · cases h
    · cases h
  case slc esz x lo hi m =>
    cases m with
    | none => exact hpr (.inr rfl)
    | some m =>
      simp only [ev1] at h
      split at h
      · split at h
        · split at h
          · simp only [Option.some.injEq, Prod.mk.injEq] at h
            rw [← h.2]
          · cases h
        · cases h
      · split at h
        · split at h
          · split at h
            · simp only [Option.isSome_some, if_true] at h
              split at h
              · split at h
                · rename_i hho
                  simp only [Option.some.injEq, Prod.mk.injEq] at h
                  rw [← h.2]; exact (handOn_raise hho).len
                · cases h
              · cases h
            · cases h
          · cases h
        · cases h
      · cases h
  case len st x =>
    cases st with
    | true => exact hpr (.inl rfl)
    | false => exact hpr (.inr rfl)
  case app esz bytes x y =>
    simp only [ev1] at h
    split at h
    · cases h
    split at h
    · cases h
    rename_i hho
    have hl := (handOn_raise hho).len
    split at h
    rotate_left
    · cases h
    split at h
    · split at h
      · split at h
        · split at h
          · simp only [Option.some.injEq, Prod.mk.injEq] at h
            rw [← h.2]; exact hl
          · split at h
            · split at h
              · simp only [Option.some.injEq, Prod.mk.injEq] at h
                rw [← h.2]; simpa using hl
              · cases h
            · split at h
              · simp only [Option.some.injEq, Prod.mk.injEq] at h
                rw [← h.2]; simpa using hl
              · cases h
        · cases h
      · cases h
    · split at h
      · split at h
        · simp only [Option.some.injEq, Prod.mk.injEq] at h
          rw [← h.2]; exact hl
        · split at h
          · simp only [Option.some.injEq, Prod.mk.injEq] at h
            rw [← h.2, put_len (by rw [hl]; exact hn rfl)]; exact hl
          · cases h
      · cases h
    · cases h
  case rng x =>
    simp only [ev1] at h
    split at h
    · simp only [Option.some.injEq, Prod.mk.injEq] at h
      rw [← h.2]; exact put_len (hn rfl) _
    · cases h
  case nxt x =>
    simp only [ev1] at h
    split at h
    rotate_left
    · cases h
    split at h
    rotate_left
    · cases h
    split at h
    · simp only [Option.some.injEq, Prod.mk.injEq] at h
      rw [← h.2]; exact List.length_set ..
    · simp only [Option.some.injEq, Prod.mk.injEq] at h
      rw [← h.2]
  case call => cases h
  case panic => cases h
  case defer => cases h
  case recover => cases h
  all_goals first | exact hpr (.inl rfl) | exact hpr (.inr rfl)

theorem put_ge {σ : Store} {nid : Nat} (h : nid ≤ σ.length) (o : Obj) : σ.length ≤ (σ.put nid o).length := by
  unfold Store.put
  split <;> simp

theorem ev1_grow {r : Rd → V} {dr : Bool} {σ σ' : Store} {nid : Nat} {v : V} {op : IOp} (hn : allocs op = true → nid ≤ σ.length) (h : ev1 r dr σ nid op = some (v, σ')) : σ.length ≤ σ'.length := by
  have hpr : op.pu = true ∨ op.ro = true → σ.length ≤ σ'.length := by
    rintro (hp | hp)
    · have h1 := ev1_pu hp dr dr σ σ nid nid (r := r)
      rw [h] at h1
      simp only [Option.map_some, okV, Option.some.injEq, Prod.mk.injEq, true_and] at h1
      rw [h1]; exact Nat.le_refl _
    · have h1 := ev1_ro hp dr dr σ nid nid (r := r)
      rw [h] at h1
      simp only [Option.map_some, okV, Option.some.injEq, Prod.mk.injEq, true_and] at h1
      rw [h1]; exact Nat.le_refl _
  cases op
  case alloc cs =>
    simp only [ev1, Option.some.injEq, Prod.mk.injEq] at h
    rw [← h.2]; exact put_ge (hn rfl) _
  case box n x =>
    simp only [ev1, Option.ite_none_right_eq_some, Option.some.injEq, Prod.mk.injEq] at h
    rw [← h.2.2]; exact put_ge (hn rfl) _
  case mkmap =>
    simp only [ev1, Option.some.injEq, Prod.mk.injEq] at h
    rw [← h.2]; exact put_ge (hn rfl) _
  case bslice mu n esz ag z ps =>
    simp only [ev1] at h
    split at h
    rotate_left
    · cases h
    split at h
    · rename_i hm
      simp only [Option.some.injEq, Prod.mk.injEq] at h
      rw [← h.2]; exact put_ge (hn hm) _
    · split at h
      · rename_i hho
        simp only [Option.some.injEq, Prod.mk.injEq] at h
        rw [← h.2]; exact Nat.le_of_eq (handOn_raise hho).len.symm
      · cases h
  case store n a x =>
    simp only [ev1] at h
    split at h
    · simp only [Option.some.injEq, Prod.mk.injEq] at h
      rw [← h.2]; exact Nat.le_of_eq (by simp)
    · cases h
  case clr z x =>
    simp only [ev1] at h
    split at h
    · simp only [Option.some.injEq, Prod.mk.injEq] at h
      rw [← h.2]; exact Nat.le_refl _
    · split at h
      · split at h
        · simp only [Option.some.injEq, Prod.mk.injEq] at h
          rw [← h.2]; exact Nat.le_of_eq (by simp)
        · cases h
      · cases h
    · cases h
  case ins kk m k x =>
    simp only [ev1] at h
    split at h
    · split at h
      · split at h
        · simp only [Option.some.injEq, Prod.mk.injEq] at h
          rw [← h.2]; exact Nat.le_of_eq (by simp)
        · cases h
      · cases h
    · cases h
  case slc esz x lo hi m =>
    cases m with
    | none => exact hpr (.inr rfl)
    | some m =>
      simp only [ev1] at h
      split at h
      · split at h
        · split at h
          · simp only [Option.some.injEq, Prod.mk.injEq] at h
            rw [← h.2]; exact Nat.le_refl _
          · cases h
        · cases h
      · split at h
        · split at h
          · split at h
            · simp only [Option.isSome_some, if_true] at h
              split at h
              · split at h
                · rename_i hho
                  simp only [Option.some.injEq, Prod.mk.injEq] at h
                  rw [← h.2]; exact Nat.le_of_eq (handOn_raise hho).len.symm
                · cases h
              · cases h
            · cases h
          · cases h
        · cases h
      · cases h
  case len st x =>
    cases st with
    | true => exact hpr (.inl rfl)
    | false => exact hpr (.inr rfl)
  case app esz bytes x y =>
    simp only [ev1] at h
    split at h
    · cases h
    split at h
    · cases h
    rename_i hho
    have hl := (handOn_raise hho).len
    split at h
    rotate_left
    · cases h
    split at h
    · split at h
      · split at h
        · split at h
          · simp only [Option.some.injEq, Prod.mk.injEq] at h
            rw [← h.2]; exact Nat.le_of_eq hl.symm
          · split at h
            · split at h
              · simp only [Option.some.injEq, Prod.mk.injEq] at h
                rw [← h.2]; exact Nat.le_of_eq (by simpa using hl.symm)
              · cases h
            · split at h
              · simp only [Option.some.injEq, Prod.mk.injEq] at h
                rw [← h.2]; exact Nat.le_of_eq (by simpa using hl.symm)
              · cases h
        · cases h
      · cases h
    · split at h
      · split at h
        · simp only [Option.some.injEq, Prod.mk.injEq] at h
          rw [← h.2]; exact Nat.le_of_eq hl.symm
        · split at h
          · simp only [Option.some.injEq, Prod.mk.injEq] at h
            rw [← h.2]; exact Nat.le_trans (Nat.le_of_eq hl.symm) (put_ge (by rw [hl]; exact hn rfl) _)
          · cases h
      · cases h
    · cases h
  case rng x =>
    simp only [ev1] at h
    split at h
    · simp only [Option.some.injEq, Prod.mk.injEq] at h
      rw [← h.2]; exact put_ge (hn rfl) _
    · cases h
  case nxt x =>
    simp only [ev1] at h
    split at h
    rotate_left
    · cases h
    split at h
    rotate_left
    · cases h
    split at h
    · simp only [Option.some.injEq, Prod.mk.injEq] at h
      rw [← h.2]; exact Nat.le_of_eq (List.length_set ..).symm
    · simp only [Option.some.injEq, Prod.mk.injEq] at h
      rw [← h.2]; exact Nat.le_refl _
  case call => cases h
  case panic => cases h
  case defer => cases h
  case recover => cases h
  all_goals first | exact hpr (.inl rfl) | exact hpr (.inr rfl)

section
variable {go : Job → Option Res} {G : List (List V)} {b0 : Nat}

theorem draw1_len {o : IOper} {d : Ord} {tm : List V} {σ σ' : Store} {v : V} {fp : Fp} {ec : Esc} (hb : allocs o.op = true → b0 + d.slot.getD 0 < σ.length) (h : draw1 go G b0 o d tm σ = some (v, σ', fp, ec)) :
    σ'.length = σ.length := by
  unfold draw1 at h
  split at h
  · cases h
  · simp only [Option.some.injEq, Prod.mk.injEq] at h
    rw [← h.2.1]
  · split at h
    · split at h
      · split at h
        · rename_i hl
          simp only [Option.some.injEq, Prod.mk.injEq] at h
          rw [← h.2.1]; exact hl
        · cases h
      · cases h
    · split at h
      · cases h
      split at h
      · rename_i hev
        simp only [Option.some.injEq, Prod.mk.injEq] at h
        rw [← h.2.1]; exact ev1_len hb hev
      · cases h

def stepAt (go : Job → Option Res) (G : List (List V)) (b0 : Nat) (ops : List (IOper × Ord)) (i : Nat) (D : DSt) : Option DSt :=
  match ops[i]? with
  | some (o, d) => dstep go G b0 i o d D
  | none => none

def runL (go : Job → Option Res) (G : List (List V)) (b0 : Nat) (ops : List (IOper × Ord)) : List Nat → DSt → Option DSt
  | [], D => some D
  | i :: r, D => match stepAt go G b0 ops i D with
    | some D' => runL go G b0 ops r D'
    | none => none

theorem dsteps_run {ops : List (IOper × Ord)} : ∀ (l : List (IOper × Ord)) (k : Nat) (D : DSt), (∀ (j : Nat), ops[k + j]? = l[j]?) → dsteps go G b0 k l D = runL go G b0 ops (List.range' k l.length) D
  | [], k, D, _ => rfl
  | (o, d) :: l, k, D, h => by
    have h0 := h 0
    simp only [Nat.add_zero, List.getElem?_cons_zero] at h0
    simp only [dsteps, List.length_cons, List.range'_succ, runL, stepAt, h0]
    cases dstep go G b0 k o d D with
    | none => rfl
    | some D' =>
      exact dsteps_run l (k + 1) D' fun j => by
        have := h (j + 1)
        simpa [Nat.add_assoc, Nat.add_comm 1 j] using this

/-- What holds of a state in which some steps are still to come. -/
structure Fit (b0 : Nat) (ops : List (IOper × Ord)) (D : DSt) (rem : List Nat) : Prop where
  nodup : rem.Nodup
  log : ∀ i ∈ rem, i < D.log.length ∧ D.log.getD i (Fp.nil, []) = (Fp.nil, [])
  slot : ∀ i ∈ rem, ∀ o d, ops[i]? = some (o, d) → allocs o.op = true → b0 + d.slot.getD 0 < D.σ.length

theorem stepAt_fit {ops : List (IOper × Ord)} {D D' : DSt} {i : Nat} {rem : List Nat} (hf : Fit b0 ops D (i :: rem)) (h : stepAt go G b0 ops i D = some D') : Fit b0 ops D' rem := by
  have hnd := List.nodup_cons.1 hf.nodup
  unfold stepAt at h
  split at h
  rotate_left
  · cases h
  rename_i o d hod
  unfold dstep at h
  split at h
  · cases h
  rename_i v σ' fp ec hdr
  simp only [Option.ite_none_left_eq_some, Option.some.injEq] at h
  obtain ⟨-, rfl⟩ := h
  have hl := draw1_len (hf.slot i (by simp) o d hod) hdr
  refine ⟨hnd.2, fun j hj => ?_, fun j hj o2 d2 h2 ha => ?_⟩
  · have hji : j ≠ i := fun e => hnd.1 (e ▸ hj)
    obtain ⟨h1, h2⟩ := hf.log j (by simp [hj])
    refine ⟨by simpa using h1, ?_⟩
    simp only [List.getD_eq_getElem?_getD]
    rw [List.getElem?_set_ne (Ne.symm hji)]
    simpa [List.getD_eq_getElem?_getD] using h2
  · simp only
    rw [hl]
    exact hf.slot j (by simp [hj]) o2 d2 h2 ha

/-- Nothing orders two steps. -/
def ApartAt (ops : List (IOper × Ord)) (i p : Nat) : Prop := ∀ oi di op dp, ops[i]? = some (oi, di) → ops[p]? = some (op, dp) → Apart i p oi di op dp

theorem bubble {ops : List (IOper × Ord)} {p : Nat} {post : List Nat} : ∀ {pre : List Nat} {D Df : DSt}, Fit b0 ops D (pre ++ p :: post) → (∀ j ∈ pre, ApartAt ops j p) → runL go G b0 ops (pre ++ p :: post) D = some Df →
    ∃ D', stepAt go G b0 ops p D = some D' ∧ runL go G b0 ops (pre ++ post) D' = some Df
  | [], D, Df, hf, ha, h => by
    simp only [List.nil_append, runL] at h ⊢
    split at h
    · rename_i D' hD
      exact ⟨D', hD, h⟩
    · cases h
  | j :: pre, D, Df, hf, ha, h => by
    simp only [List.cons_append, runL] at h
    split at h
    rotate_left
    · cases h
    rename_i D1 h1
    have hf1 : Fit b0 ops D1 (pre ++ p :: post) := stepAt_fit (rem := pre ++ p :: post) hf h1
    obtain ⟨D2, h2, h3⟩ := bubble hf1 (fun k hk => ha k (by simp [hk])) h
    have hs1 := h1
    have hs2 := h2
    unfold stepAt at hs1 hs2
    split at hs1
    rotate_left
    · cases hs1
    rename_i oj dj hoj
    split at hs2
    rotate_left
    · cases hs2
    rename_i op dp hop
    have hap := ha j (by simp) oj dj op dp hoj hop
    obtain ⟨hl1, hl2⟩ := hf.log j (by simp)
    obtain ⟨D3, k1, k2⟩ := step_comm hap (hf.slot j (by simp) oj dj hoj) (hf.slot p (by simp) op dp hop) hl1 hl2 hs1 hs2
    refine ⟨D3, by simp only [stepAt, hop]; exact k1, ?_⟩
    simp only [List.cons_append, runL, stepAt, hoj, k2]
    exact h3
end
end Go.Ev
