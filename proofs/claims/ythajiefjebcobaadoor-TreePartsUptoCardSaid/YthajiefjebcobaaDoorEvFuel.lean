/-
  More fuel, the same answer; what a run comes to.
-/
import Derived.Test.YthajiefjebcobaaDoorEv
set_option linter.all false
set_option linter.unusedSimpArgs false
set_option linter.unusedVariables false
namespace Go.Ev
open Go

/-- What one answers the other answers. -/
def GoLe (go go' : Job → Option Res) : Prop := ∀ j r, go j = some r → go' j = some r

section
variable {go go' : Job → Option Res} {G : List (List V)}

theorem evCall_mono (h : GoLe go go') {deep keep dr : Bool} {fv : V} {args : List V} {σ : Store} {r : End × Store × Esc × Bool} (hr : evCall go deep keep fv args dr σ = some r) : evCall go' deep keep fv args dr σ = some r := by
  unfold evCall at hr ⊢
  split at hr
  rotate_left
  · cases hr
  try simp only
  split at hr
  · cases hr
  rename_i as σ1 hh
  try rw [hh]
  try simp only
  split at hr
  · rename_i hc
    try rw [if_pos hc]
    split at hr
    · rename_i v _ _ hg
      rw [h _ _ hg]
      exact hr
    · rename_i v _ _ hg
      rw [h _ _ hg]
      exact hr
    · cases hr
  · rename_i hc
    try rw [if_neg hc]
    split at hr
    · rename_i hd
      try rw [if_pos hd]
      split at hr
      · rename_i e σ2 ec hg
        rw [h _ _ hg]
        exact hr
      · cases hr
    · cases hr

theorem evOps_mono (h : GoLe go go') : ∀ (ops : List IOper) (s : St) (r : X × St), evOps go G ops s = some r → evOps go' G ops s = some r
  | [], s, r, hr => hr
  | o :: rest, s, r, hr => by
    unfold evOps at hr ⊢
    split at hr
    · cases hr
    · rename_i hw
      try rw [hw]
      exact evOps_mono h rest _ r hr
    · rename_i hw
      try rw [hw]
      try simp only
      split at hr
      · rename_i deep keep f args ho
        split at hr
        · rename_i hc
          rw [evCall_mono h hc]
          exact evOps_mono h rest _ r hr
        · rename_i hc
          rw [evCall_mono h hc]
          exact hr
        · cases hr
      · rename_i x ho
        split at hr
        · rename_i hx
          try rw [hx]
          exact hr
        · cases hr
      · split at hr
        · rename_i hx
          try rw [hx]
          exact evOps_mono h rest _ r hr
        · cases hr

theorem draw1_mono (h : GoLe go go') {b0 : Nat} {o : IOper} {d : Ord} {tm : List V} {σ : Store} {r : V × Store × Fp × Esc} (hr : draw1 go G b0 o d tm σ = some r) : draw1 go' G b0 o d tm σ = some r := by
  unfold draw1 at hr ⊢
  split at hr
  · cases hr
  · rename_i hw
    try rw [hw]
    exact hr
  · rename_i hw
    try rw [hw]
    try simp only
    split at hr
    · rename_i deep keep f args ho
      split at hr
      · rename_i hc
        rw [evCall_mono h hc]
        exact hr
      · cases hr
    · exact hr

theorem dsteps_mono (h : GoLe go go') {b0 : Nat} : ∀ (i : Nat) (l : List (IOper × Ord)) (D : DSt) (r : DSt), dsteps go G b0 i l D = some r → dsteps go' G b0 i l D = some r
  | i, [], D, r, hr => hr
  | i, (o, d) :: l, D, r, hr => by
    unfold dsteps at hr ⊢
    split at hr
    · rename_i D' hd
      have : dstep go' G b0 i o d D = some D' := by
        unfold dstep at hd ⊢
        split at hd
        · cases hd
        · rename_i hx
          rw [draw1_mono h hx]
          exact hd
      rw [this]
      exact dsteps_mono h _ l _ r hr
    · cases hr

theorem evCode_mono (h : GoLe go go') : ∀ (c : IC) (s : St) (r : X × St), evCode go G c s = some r → evCode go' G c s = some r
  | .skip, s, r, hr => hr
  | .reg ops, s, r, hr => evOps_mono h ops s r hr
  | .dreg m ops, s, r, hr => by
    simp only [evCode, evDreg] at hr ⊢
    split at hr
    · rename_i hd
      rw [dsteps_mono h _ _ _ _ hd]
      exact hr
    · cases hr
  | .seq a b, s, r, hr => by
    simp only [evCode] at hr ⊢
    split at hr
    · rename_i s1 ha
      rw [evCode_mono h a s _ ha]
      exact evCode_mono h b s1 r hr
    · rename_i hne
      rw [evCode_mono h a s _ hr]
      obtain ⟨x, s1⟩ := r
      cases x with
      | norm => exact absurd hr (hne s1)
      | _ => rfl
  | .cond c a b, s, r, hr => by
    simp only [evCode] at hr ⊢
    split at hr
    · rename_i hc
      try rw [hc]
      exact evCode_mono h a s r hr
    · rename_i hc
      try rw [hc]
      exact evCode_mono h b s r hr
    · cases hr
  | .block id c, s, r, hr => by
    simp only [evCode] at hr ⊢
    split at hr
    · rename_i k s1 hc
      rw [evCode_mono h c s _ hc]
      exact hr
    · rename_i hne
      rw [evCode_mono h c s _ hr]
      obtain ⟨x, s1⟩ := r
      cases x with
      | exit k => exact absurd hr (hne k s1)
      | _ => rfl
  | .loop lv c, s, r, hr => by
    simp only [evCode] at hr ⊢
    split at hr
    · rename_i hc
      rw [h _ _ hc]
      exact hr
    · cases hr
  | .exit id, s, r, hr => hr
  | .ret, s, r, hr => hr
  | .kill ds c, s, r, hr => by
    simp only [evCode] at hr ⊢
    exact evCode_mono h c _ r hr
end

theorem join_mono {go go' : Job → Option Res} (h : GoLe go go') {j1 j2 : Job} {r : Res} (hr : join (go j1) (go j2) = some r) : join (go' j1) (go' j2) = some r := by
  cases h1 : go j1 with
  | none => rw [h1] at hr; simp [join] at hr
  | some r1 =>
    cases h2 : go j2 with
    | none => rw [h1, h2] at hr; simp [join] at hr
    | some r2 =>
      rw [h1, h2] at hr
      rw [h _ _ h1, h _ _ h2]
      exact hr

section
variable {F : List IFun} {G : List (List V)}
/-- What a call is made of. -/
def callOf (F : List IFun) (G : List (List V)) (go : Job → Option Res) (f : Nat) (args : List V) (σ : Store) (keep : Bool) : Option Res :=
  match F[f]? with
  | none => none
  | some fn =>
    if fn.defers then none else
    match both fn args with
    | some (a1, a2) => join (go (.call f a1 σ keep)) (go (.call f a2 σ keep))
    | none =>
    match evCode go G fn.body ⟨args ++ List.replicate (fn.ntmps - args.length) .skip, σ, []⟩ with
    | some (.norm, s) | some (.ret, s) => match resV s fn.res with
      | some v => leave keep σ.length .ret v s
      | none => none
    | some (.pan v, s) => leave false σ.length .pan v s
    | _ => none

/-- What a round of a loop is made of. -/
def loopOf (G : List (List V)) (go : Job → Option Res) (lv : List Nat) (c : IC) (s : St) : Option Res :=
  match evCode go G c s with
  | some (.norm, s') => go (.loop lv c ((s'.live lv).tidy s.σ.length))
  | some (x, s') => some (.code x s')
  | none => none

theorem evB_call (n f : Nat) (args : List V) (σ : Store) (keep : Bool) : evB F G (n + 1) (.call f args σ keep) = callOf F G (evB F G n) f args σ keep := by
  rfl

theorem evB_loop (n : Nat) (lv : List Nat) (c : IC) (s : St) : evB F G (n + 1) (.loop lv c s) = loopOf G (evB F G n) lv c s := by
  rfl

theorem callOf_mono {go go' : Job → Option Res} (h : GoLe go go') {f : Nat} {args : List V} {σ : Store} {keep : Bool} {r : Res} (hr : callOf F G go f args σ keep = some r) : callOf F G go' f args σ keep = some r := by
  unfold callOf at hr ⊢
  split at hr
  · cases hr
  · rename_i fn hf
    try simp only
    split at hr
    · cases hr
    · rename_i hd
      try rw [if_neg hd]
      split at hr
      · rename_i a1 a2 hbo
        try rw [hbo]
        exact join_mono h hr
      split at hr
      · rename_i hc
        rw [evCode_mono h _ _ _ hc]
        exact hr
      · rename_i hc
        rw [evCode_mono h _ _ _ hc]
        exact hr
      · rename_i hc
        rw [evCode_mono h _ _ _ hc]
        exact hr
      · cases hr

theorem loopOf_mono {go go' : Job → Option Res} (h : GoLe go go') {lv : List Nat} {c : IC} {s : St} {r : Res} (hr : loopOf G go lv c s = some r) : loopOf G go' lv c s = some r := by
  unfold loopOf at hr ⊢
  split at hr
  · rename_i hc
    rw [evCode_mono h _ _ _ hc]
    exact h _ _ hr
  · rename_i x s' hx hc
    rw [evCode_mono h _ _ _ hc]
    cases x with
    | norm => exact absurd rfl hx
    | _ => exact hr
  · cases hr

end

section
variable (F : List IFun) (G : List (List V))
theorem evB_step : ∀ n, GoLe (evB F G n) (evB F G (n + 1))
  | 0, j, r, h => by simp [evB] at h
  | n + 1, .call f args σ keep, r, h => by
    rw [evB_call] at h ⊢
    exact callOf_mono (evB_step n) h
  | n + 1, .loop lv c s, r, h => by
    rw [evB_loop] at h ⊢
    exact loopOf_mono (evB_step n) h

theorem evB_le {n m : Nat} (h : n ≤ m) : GoLe (evB F G n) (evB F G m) := by
  induction h with
  | refl => exact fun _ _ h => h
  | step _ ih => exact fun j r hr => evB_step F G _ j r (ih j r hr)
end
end Go.Ev
