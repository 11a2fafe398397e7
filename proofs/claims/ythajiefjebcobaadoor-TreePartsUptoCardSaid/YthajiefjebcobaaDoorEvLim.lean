/-
  With enough fuel: the answers themselves, and their equations.
-/
import Derived.Test.YthajiefjebcobaaDoorEvFuel
set_option linter.all false
set_option linter.unusedSimpArgs false
set_option linter.unusedVariables false
namespace Go.Ev
open Go
open Classical

section
variable (F : List IFun) (G : List (List V))

/-- The answer, if enough fuel brings one. -/
noncomputable def lim (j : Job) : Option Res := if h : ∃ r n, evB F G n j = some r then some h.choose else none

variable {F G}

theorem lim_of {n : Nat} {j : Job} {r : Res} (h : evB F G n j = some r) : lim F G j = some r := by
  have hx : ∃ r n, evB F G n j = some r := ⟨r, n, h⟩
  unfold lim
  rw [dif_pos hx]
  obtain ⟨m, hm⟩ := hx.choose_spec
  have h1 := evB_le F G (Nat.le_max_left n m) j _ h
  have h2 := evB_le F G (Nat.le_max_right n m) j _ hm
  rw [h1] at h2
  exact h2.symm ▸ rfl

theorem lim_some {j : Job} {r : Res} : lim F G j = some r ↔ ∃ n, evB F G n j = some r := by
  constructor
  · intro h
    unfold lim at h
    split at h
    · rename_i hx
      simp only [Option.some.injEq] at h
      rw [← h]
      exact hx.choose_spec
    · cases h
  · rintro ⟨n, h⟩
    exact lim_of h

theorem le_lim (n : Nat) : GoLe (evB F G n) (lim F G) := fun _ _ h => lim_of h

theorem up {n m : Nat} : GoLe (evB F G n) (evB F G (max n m)) := evB_le F G (Nat.le_max_left _ _)
theorem up' {n m : Nat} : GoLe (evB F G m) (evB F G (max n m)) := evB_le F G (Nat.le_max_right _ _)

theorem evCall_fin {deep keep dr : Bool} {fv : V} {args : List V} {σ : Store} {r : End × Store × Esc × Bool} (hr : evCall (lim F G) deep keep fv args dr σ = some r) : ∃ n, evCall (evB F G n) deep keep fv args dr σ = some r := by
  unfold evCall at hr ⊢
  split at hr
  rotate_left
  · cases hr
  try simp only
  split at hr
  · cases hr
  rename_i as σ1 hh
  try rw [hh]
  try simp only
  split at hr
  · rename_i hc
    try simp only [if_pos hc]
    split at hr
    · rename_i v _ _ hg
      obtain ⟨n, hn⟩ := lim_some.1 hg
      exact ⟨n, by rw [hn]; exact hr⟩
    · rename_i v _ _ hg
      obtain ⟨n, hn⟩ := lim_some.1 hg
      exact ⟨n, by rw [hn]; exact hr⟩
    · cases hr
  · rename_i hc
    try simp only [if_neg hc]
    split at hr
    · rename_i hd
      try simp only [if_pos hd]
      split at hr
      · rename_i e σ2 ec hg
        obtain ⟨n, hn⟩ := lim_some.1 hg
        exact ⟨n, by rw [hn]; exact hr⟩
      · cases hr
    · cases hr

theorem evOps_fin : ∀ (ops : List IOper) (s : St) (r : X × St), evOps (lim F G) G ops s = some r → ∃ n, evOps (evB F G n) G ops s = some r
  | [], s, r, hr => ⟨0, hr⟩
  | o :: rest, s, r, hr => by
    unfold evOps at hr ⊢
    split at hr
    · cases hr
    · rename_i hw
      try simp only [hw]
      exact evOps_fin rest _ r hr
    · rename_i hw
      try simp only [hw]
      split at hr
      · rename_i deep keep f args ho
        split at hr
        · rename_i hc
          obtain ⟨n, hn⟩ := evCall_fin hc
          obtain ⟨m, hm⟩ := evOps_fin rest _ r hr
          exact ⟨max n m, by rw [evCall_mono up hn]; exact evOps_mono up' _ _ _ hm⟩
        · rename_i hc
          obtain ⟨n, hn⟩ := evCall_fin hc
          exact ⟨n, by rw [hn]; exact hr⟩
        · cases hr
      · rename_i x ho
        split at hr
        · rename_i hx
          exact ⟨0, by (try rw [hx]); exact hr⟩
        · cases hr
      · split at hr
        · rename_i hx
          obtain ⟨m, hm⟩ := evOps_fin rest _ r hr
          exact ⟨m, by (try rw [hx]); exact hm⟩
        · cases hr

theorem draw1_fin {b0 : Nat} {o : IOper} {d : Ord} {tm : List V} {σ : Store} {r : V × Store × Fp × Esc} (hr : draw1 (lim F G) G b0 o d tm σ = some r) : ∃ n, draw1 (evB F G n) G b0 o d tm σ = some r := by
  unfold draw1 at hr ⊢
  split at hr
  · cases hr
  · rename_i hw
    try simp only [hw]
    exact ⟨0, hr⟩
  · rename_i hw
    try simp only [hw]
    split at hr
    · rename_i deep keep f args ho
      split at hr
      · rename_i hc
        obtain ⟨n, hn⟩ := evCall_fin hc
        exact ⟨n, by rw [hn]; exact hr⟩
      · cases hr
    · exact ⟨0, hr⟩

theorem dsteps_fin {b0 : Nat} : ∀ (i : Nat) (l : List (IOper × Ord)) (D : DSt) (r : DSt), dsteps (lim F G) G b0 i l D = some r → ∃ n, dsteps (evB F G n) G b0 i l D = some r
  | i, [], D, r, hr => ⟨0, hr⟩
  | i, (o, d) :: l, D, r, hr => by
    unfold dsteps at hr ⊢
    split at hr
    · rename_i D' hd
      have : ∃ n, dstep (evB F G n) G b0 i o d D = some D' := by
        unfold dstep at hd ⊢
        split at hd
        · cases hd
        · rename_i hx
          obtain ⟨n, hn⟩ := draw1_fin hx
          exact ⟨n, by rw [hn]; exact hd⟩
      obtain ⟨n, hn⟩ := this
      obtain ⟨m, hm⟩ := dsteps_fin _ l _ r hr
      have h1 : dstep (evB F G (max n m)) G b0 i o d D = some D' := by
        unfold dstep at hn ⊢
        split at hn
        · cases hn
        · rename_i hx
          rw [draw1_mono up hx]
          exact hn
      exact ⟨max n m, by rw [h1]; exact dsteps_mono up' _ _ _ _ hm⟩
    · cases hr

theorem evCode_fin : ∀ (c : IC) (s : St) (r : X × St), evCode (lim F G) G c s = some r → ∃ n, evCode (evB F G n) G c s = some r
  | .skip, s, r, hr => ⟨0, hr⟩
  | .reg ops, s, r, hr => evOps_fin ops s r hr
  | .dreg m ops, s, r, hr => by
    simp only [evCode, evDreg] at hr ⊢
    split at hr
    · rename_i hd
      obtain ⟨n, hn⟩ := dsteps_fin _ _ _ _ hd
      exact ⟨n, by rw [hn]; exact hr⟩
    · cases hr
  | .seq a b, s, r, hr => by
    simp only [evCode] at hr ⊢
    split at hr
    · rename_i s1 ha
      obtain ⟨n, hn⟩ := evCode_fin a s _ ha
      obtain ⟨m, hm⟩ := evCode_fin b s1 r hr
      exact ⟨max n m, by rw [evCode_mono up a s _ hn]; exact evCode_mono up' b s1 r hm⟩
    · rename_i hne
      obtain ⟨n, hn⟩ := evCode_fin a s _ hr
      refine ⟨n, ?_⟩
      rw [hn]
      obtain ⟨x, s1⟩ := r
      cases x with
      | norm => exact absurd hr (hne s1)
      | _ => rfl
  | .cond c a b, s, r, hr => by
    simp only [evCode] at hr ⊢
    split at hr
    · rename_i hc
      try rw [hc]
      exact evCode_fin a s r hr
    · rename_i hc
      try rw [hc]
      exact evCode_fin b s r hr
    · cases hr
  | .block id c, s, r, hr => by
    simp only [evCode] at hr ⊢
    split at hr
    · rename_i k s1 hc
      obtain ⟨n, hn⟩ := evCode_fin c s _ hc
      exact ⟨n, by rw [hn]; exact hr⟩
    · rename_i hne
      obtain ⟨n, hn⟩ := evCode_fin c s _ hr
      refine ⟨n, ?_⟩
      rw [hn]
      obtain ⟨x, s1⟩ := r
      cases x with
      | exit k => exact absurd hr (hne k s1)
      | _ => rfl
  | .loop lv c, s, r, hr => by
    simp only [evCode] at hr ⊢
    split at hr
    · rename_i hc
      obtain ⟨n, hn⟩ := lim_some.1 hc
      exact ⟨n, by rw [hn]; exact hr⟩
    · cases hr
  | .exit id, s, r, hr => ⟨0, hr⟩
  | .ret, s, r, hr => ⟨0, hr⟩
  | .kill ds c, s, r, hr => by
    simp only [evCode] at hr ⊢
    exact evCode_fin c _ r hr

theorem callOf_fin {f : Nat} {args : List V} {σ : Store} {keep : Bool} {r : Res} (hr : callOf F G (lim F G) f args σ keep = some r) : ∃ n, callOf F G (evB F G n) f args σ keep = some r := by
  unfold callOf at hr ⊢
  split at hr
  · cases hr
  · rename_i fn hf
    try simp only
    split at hr
    · cases hr
    · rename_i hd
      try simp only [if_neg hd]
      split at hr
      · rename_i a1 a2 hbo
        try simp only [hbo]
        cases h1 : lim F G (.call f a1 σ keep) with
        | none => rw [h1] at hr; simp [join] at hr
        | some r1 =>
          cases h2 : lim F G (.call f a2 σ keep) with
          | none => rw [h1, h2] at hr; simp [join] at hr
          | some r2 =>
            obtain ⟨n, hn⟩ := lim_some.1 h1
            obtain ⟨m, hm⟩ := lim_some.1 h2
            refine ⟨max n m, ?_⟩
            rw [up _ _ hn, up' _ _ hm, ← h1, ← h2]
            exact hr
      split at hr
      · rename_i hc
        obtain ⟨n, hn⟩ := evCode_fin _ _ _ hc
        exact ⟨n, by rw [hn]; exact hr⟩
      · rename_i hc
        obtain ⟨n, hn⟩ := evCode_fin _ _ _ hc
        exact ⟨n, by rw [hn]; exact hr⟩
      · rename_i hc
        obtain ⟨n, hn⟩ := evCode_fin _ _ _ hc
        exact ⟨n, by rw [hn]; exact hr⟩
      · cases hr

theorem loopOf_fin {lv : List Nat} {c : IC} {s : St} {r : Res} (hr : loopOf G (lim F G) lv c s = some r) : ∃ n, loopOf G (evB F G n) lv c s = some r := by
  unfold loopOf at hr ⊢
  split at hr
  · rename_i s1 hc
    obtain ⟨n, hn⟩ := evCode_fin _ _ _ hc
    obtain ⟨m, hm⟩ := lim_some.1 hr
    exact ⟨max n m, by rw [evCode_mono up _ _ _ hn]; exact up' _ _ hm⟩
  · rename_i x s' hx hc
    obtain ⟨n, hn⟩ := evCode_fin _ _ _ hc
    refine ⟨n, ?_⟩
    rw [hn]
    cases x with
    | norm => exact absurd rfl hx
    | _ => exact hr
  · cases hr

theorem opt_ext {α : Type} {a b : Option α} (h : ∀ r, a = some r ↔ b = some r) : a = b := by
  cases a with
  | none => cases b with
    | none => rfl
    | some y => exact ((h y).2 rfl)
  | some x => exact ((h x).1 rfl).symm

/-- The equations. -/
theorem lim_call (f : Nat) (args : List V) (σ : Store) (keep : Bool) : lim F G (.call f args σ keep) = callOf F G (lim F G) f args σ keep := by
  refine opt_ext fun r => ⟨fun h => ?_, fun h => ?_⟩
  · obtain ⟨n, hn⟩ := lim_some.1 h
    cases n with
    | zero => simp [evB] at hn
    | succ n =>
      rw [evB_call] at hn
      exact callOf_mono (le_lim n) hn
  · obtain ⟨n, hn⟩ := callOf_fin h
    exact lim_of (n := n + 1) (by rw [evB_call]; exact hn)

theorem lim_loop (lv : List Nat) (c : IC) (s : St) : lim F G (.loop lv c s) = loopOf G (lim F G) lv c s := by
  refine opt_ext fun r => ⟨fun h => ?_, fun h => ?_⟩
  · obtain ⟨n, hn⟩ := lim_some.1 h
    cases n with
    | zero => simp [evB] at hn
    | succ n =>
      rw [evB_loop] at hn
      exact loopOf_mono (le_lim n) hn
  · obtain ⟨n, hn⟩ := loopOf_fin h
    exact lim_of (n := n + 1) (by rw [evB_loop]; exact hn)
end
end Go.Ev
