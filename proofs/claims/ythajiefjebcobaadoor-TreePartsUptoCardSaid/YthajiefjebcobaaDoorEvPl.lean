/-
  Rules for walking: values handed on whose modes are known; appending.
-/
import Derived.Test.YthajiefjebcobaaDoorEvRules
set_option linter.all false
set_option linter.unusedSimpArgs false
set_option linter.unusedVariables false
namespace Go.Ev
open Go

mutual
/-- A value without modes. -/
def pl : V → V
  | .sl _ xs => .sl .any xs
  | .agg cs => .agg (plL cs)
  | .tup cs => .tup (plL cs)
  | .ifc t v => .ifc t (pl v)
  | .fn f cs => .fn f (plL cs)
  | v => v
def plL : List V → List V
  | [] => []
  | v :: l => pl v :: plL l
end
/-- It can be handed on, so deep, without looking into memory. -/
def okpl : Nat → V → Bool
  | 0, v => v.pure
  | n + 1, v => match v with
    | .sl _ xs => V.pureL xs
    | .agg cs | .tup cs | .fn _ cs => cs.all (okpl n)
    | .ifc _ v => okpl n v
    | .any | .skip | .row .. | .ptr .. | .rptr .. | .iptr _ | .mref _ => false
    | _ => true
theorem plL_map (l : List V) : plL l = l.map pl := by induction l <;> simp [plL, *]
theorem pureL_iff {l : List V} : V.pureL l = true ↔ ∀ x ∈ l, x.pure = true := by
  induction l with
  | nil => simp [V.pureL]
  | cons v l ih => simp [V.pureL, ih]
theorem norowL_all {l : List V} : V.norowL l = true ↔ ∀ x ∈ l, x.norow = true := by
  induction l with
  | nil => simp [V.norowL]
  | cons v l ih => simp [V.norowL, ih]

mutual
theorem pl_pure : ∀ (v : V), v.pure = true → pl v = v
  | .any, h | .skip, h | .row .., h | .ptr .., h | .rptr .., h | .iptr _, h | .mref _, h => by cases h
  | .int .., _ | .bool _, _ | .str _, _ | .nilp, _ | .nilf, _ | .nili, _ => rfl
  | .sl m xs, h => by
    simp only [V.pure, Bool.and_eq_true, beq_iff_eq] at h
    rw [pl, h.1]
  | .fn f cs, h => by rw [pl, plL_pure cs h]
  | .ifc t v, h => by rw [pl, pl_pure v h]
  | .agg cs, h => by rw [pl, plL_pure cs h]
  | .tup cs, h => by rw [pl, plL_pure cs h]
theorem plL_pure : ∀ (l : List V), V.pureL l = true → plL l = l
  | [], _ => rfl
  | v :: l, h => by
    simp only [V.pureL, Bool.and_eq_true] at h
    rw [plL, pl_pure v h.1, plL_pure l h.2]
end
theorem okpl_pure : ∀ (n : Nat) (v : V), okpl n v = true → (pl v).pure = true
  | 0, v, h => by rw [pl_pure v h]; exact h
  | n + 1, v, h => by
    have ih : ∀ {l : List V}, l.all (okpl n) = true → V.pureL (plL l) = true := fun hl => by
      rw [plL_map, pureL_iff]
      intro x hx
      obtain ⟨y, hy, rfl⟩ := List.mem_map.1 hx
      exact okpl_pure n y (List.all_eq_true.1 hl y hy)
    cases v <;> simp only [okpl, Bool.false_eq_true] at h <;> first | rfl | exact ih h | (have q := okpl_pure n _ h; exact q) | (simpa [pl, V.pure] using h)
theorem okplL_pure {n : Nat} {l : List V} (hl : l.all (okpl n) = true) : V.pureL (plL l) = true := by
  rw [plL_map, pureL_iff]
  intro x hx
  obtain ⟨y, hy, rfl⟩ := List.mem_map.1 hx
  exact okpl_pure n y (List.all_eq_true.1 hl y hy)
mutual
theorem norow_of_pure : ∀ (v : V), v.pure = true → v.norow = true
  | .any, h | .skip, h | .row .., h | .ptr .., h | .rptr .., h | .iptr _, h | .mref _, h => by cases h
  | .int .., _ | .bool _, _ | .str _, _ | .nilp, _ | .nilf, _ | .nili, _ => rfl
  | .sl m xs, h => by
    simp only [V.pure, Bool.and_eq_true] at h
    exact norowL_of_pure xs h.2
  | .fn f cs, h => norowL_of_pure cs h
  | .ifc t v, h => norow_of_pure v h
  | .agg cs, h => norowL_of_pure cs h
  | .tup cs, h => norowL_of_pure cs h
theorem norowL_of_pure : ∀ (l : List V), V.pureL l = true → V.norowL l = true
  | [], _ => rfl
  | v :: l, h => by
    simp only [V.pureL, Bool.and_eq_true] at h
    simp only [V.norowL, Bool.and_eq_true]
    exact ⟨norow_of_pure v h.1, norowL_of_pure l h.2⟩
end
theorem okpl_norow : ∀ (n : Nat) (v : V), okpl n v = true → v.norow = true
  | 0, v, h => norow_of_pure v h
  | n + 1, v, h => by
    have ih : ∀ {l : List V}, l.all (okpl n) = true → V.norowL l = true := fun hl => norowL_all.2 fun x hx => okpl_norow n x (List.all_eq_true.1 hl x hx)
    cases v <;> simp only [okpl, Bool.false_eq_true] at h <;> first | rfl | exact ih h | (have q := okpl_norow n _ h; exact q) | exact norowL_of_pure _ h
theorem optAll_map {α β : Type} {f : α → Option β} {g : α → β} : ∀ {l : List α}, (∀ x ∈ l, f x = some (g x)) → optAll f l = some (l.map g)
  | [], _ => rfl
  | x :: l, h => by simp only [optAll, h x (by simp), optAll_map (fun y hy => h y (List.mem_cons_of_mem _ hy)), List.map_cons]
theorem snap_pl (σ : Store) : ∀ (n : Nat) (v : V), okpl n v = true → snap n σ v = some (pl v)
  | 0, v, h => by
    have h : v.pure = true := h
    simp only [snap, h, if_true, pl_pure v h]
  | n + 1, v, h => by
    have ih : ∀ {l : List V}, l.all (okpl n) = true → optAll (snap n σ) l = some (plL l) := fun hl => by
      rw [plL_map]
      exact optAll_map fun x hx => snap_pl σ n x (List.all_eq_true.1 hl x hx)
    by_cases hp : v.pure = true
    · simp only [snap, hp, if_true, pl_pure v hp]
    · simp only [snap, if_neg hp]
      cases v <;> simp only [okpl, Bool.false_eq_true] at h <;> first | rfl | (simp only [ih h]; rfl) | (simp only [snap_pl σ n _ h]; rfl)
theorem frz_norow' (n : Nat) (v : V) (σ : Store) (h : v.norow = true) : frz n v σ = σ := by
  cases n with
  | zero => rfl
  | succ n => simp [frz, h]
theorem frzs_norow' (n : Nat) : ∀ (l : List V) (σ : Store), V.norowL l = true → l.foldl (fun s x => frz n x s) σ = σ
  | [], _, _ => rfl
  | a :: l, σ, h => by
    simp only [V.norowL, Bool.and_eq_true] at h
    rw [List.foldl_cons, frz_norow' n a σ h.1]
    exact frzs_norow' n l σ h.2
theorem handOn_pl {l : List V} (h : l.all (okpl DEEP) = true) (d : Nat) (σ : Store) : handOn d σ l = some (plL l, σ) := by
  have hn : V.norowL l = true := norowL_all.2 fun x hx => okpl_norow _ x (List.all_eq_true.1 h x hx)
  have hs : optAll (snap DEEP σ) l = some (plL l) := by
    rw [plL_map]
    exact optAll_map fun x hx => snap_pl σ DEEP x (List.all_eq_true.1 h x hx)
  have ho : l.all (oneRow σ) = true := List.all_eq_true.2 fun x hx => by
    have := norowL_all.1 hn x hx
    cases x <;> first | exact this | cases this
  unfold handOn
  by_cases hp : V.pureL l = true
  · rw [if_pos hp, plL_pure l hp]
  · rw [if_neg hp]
    simp only [hn, ho, Bool.not_true, Bool.and_false, Bool.or_self, Bool.false_eq_true, if_false, hs, frzs_norow' DEEP l σ hn]

def bs1 (go : Job → Option Res) (G : List (List V)) (d : Option Nat) (n esz : Nat) (vs : List V) (r : List IOper) (s : St) : Option (X × St) :=
  if ones vs esz && n * esz < 16777216 then
    match handOn DEEP s.σ vs with
    | some (l, σ') => evOps go G r ⟨putT s.tm d (.sl .full l), σ', s.esc⟩
    | none => none
  else none
def onesB (esz : Nat) (vs : List V) : Bool := vs.all fun v => okc esz v.cells
theorem ones_onesB (vs : List V) (esz : Nat) : ones vs esz = onesB esz vs := rfl

section
variable {go : Job → Option Res} {G : List (List V)}
theorem cx_pl {as caps : List V} (h : (as ++ caps).all (okpl DEEP) = true) (d : Option Nat) (deep : Bool) (k : Nat) (r : List IOper) (tm : List V) (σ : Store) (e : Esc) :
    cx go G d deep false (.fn k caps) as r ⟨tm, σ, e⟩ = ca go G d r ⟨tm, σ, e⟩ (go (.call k (plL (as ++ caps)) [] false)) := by
  have hp := okplL_pure h
  have hu : V.underL 0 (plL (as ++ caps)) = true := underL_of_pure _ hp
  have hh := handOn_pl h DEEP σ
  simp only [cx, evCall, Bool.false_eq_true, if_false, hh, hu, Bool.not_false, Bool.and_self, if_true]
  cases hg : go (.call k (plL (as ++ caps)) [] false) with
  | none => rfl
  | some x =>
    cases x with
    | code _ _ => rfl
    | done en _ _ =>
      cases en with
      | ret v =>
        simp only [ca]
        by_cases hv : v.under 0 = true
        · simp [hv]
        · simp [hv]
      | pan v =>
        simp only [ca]
        by_cases hv : v.under 0 = true
        · simp [hv]
        · simp [hv]
theorem bs_lit (d : Option Nat) (n esz : Nat) (ag : Bool) (z : List V) (ps : List (Nat × V)) (r : List IOper) (tm : List V) (σ : Store) (e : Esc) :
    bs go G d false n esz ag z ps r ⟨tm, σ, e⟩ = bs1 go G d n esz (ps.foldl (fun l p => l.set p.1 p.2) (List.replicate n (grp ag z))) r ⟨tm, σ, e⟩ := by
  simp only [bs, bs1, Bool.false_eq_true, if_false]
  rfl
theorem bs1_ok {n esz : Nat} {vs : List V} (h : onesB esz vs = true) (h' : n * esz < 16777216) (hp : vs.all (okpl DEEP) = true) (d : Option Nat) (r : List IOper) (tm : List V) (σ : Store) (e : Esc) :
    bs1 go G d n esz vs r ⟨tm, σ, e⟩ = evOps go G r ⟨putT tm d (.sl .full (plL vs)), σ, e⟩ := by
  simp only [bs1, ones_onesB, h, h', decide_true, Bool.and_self, if_true, handOn_pl hp]
theorem leave_pl {v : V} (h : okpl DEEP v = true) (tm : List V) (σ : Store) (e : Esc) : leave false 0 .ret v ⟨tm, σ, e⟩ = retv (pl v) :=
  leave_to (snap_pl σ DEEP v h) (under_of_pure _ (okpl_pure _ v h))
end
theorem wq : (∀ k n, pl (.int k n) = .int k n) ∧ (∀ b, pl (.bool b) = .bool b) ∧ (∀ s, pl (.str s) = .str s) ∧ (∀ m xs, pl (.sl m xs) = .sl .any xs) ∧ (∀ cs, pl (.agg cs) = .agg (plL cs)) ∧ (∀ cs, pl (.tup cs) = .tup (plL cs)) ∧
    (∀ t v, pl (.ifc t v) = .ifc t (pl v)) ∧ (∀ f cs, pl (.fn f cs) = .fn f (plL cs)) ∧ pl .nilp = .nilp ∧ pl .nilf = .nilf ∧ pl .nili = .nili ∧ plL [] = [] ∧ (∀ v l, plL (v :: l) = pl v :: plL l) ∧
    (∀ n k i, okpl (n + 1) (.int k i) = true) ∧ (∀ n b, okpl (n + 1) (.bool b) = true) ∧ (∀ n s, okpl (n + 1) (.str s) = true) ∧ (∀ n m xs, okpl (n + 1) (.sl m xs) = V.pureL xs) ∧ (∀ n cs, okpl (n + 1) (.agg cs) = cs.all (okpl n)) ∧
    (∀ n cs, okpl (n + 1) (.tup cs) = cs.all (okpl n)) ∧ (∀ n t v, okpl (n + 1) (.ifc t v) = okpl n v) ∧ (∀ n f cs, okpl (n + 1) (.fn f cs) = cs.all (okpl n)) ∧ (∀ n, okpl (n + 1) .nilp = true) ∧ (∀ n, okpl (n + 1) .nilf = true) ∧ (∀ n, okpl (n + 1) .nili = true) ∧
    (∀ esz, onesB esz [] = true) ∧ (∀ esz v l, onesB esz (v :: l) = (okc esz v.cells && onesB esz l)) ∧
    (∀ (l : List V) (f : List V → Nat × V → List V), List.foldl f l [] = l) ∧ (∀ (l : List V) (f : List V → Nat × V → List V) p ps, List.foldl f l (p :: ps) = List.foldl f (f l p) ps) ∧
    (∀ cs, grp true cs = .agg cs) ∧ (∀ (f : Nat × Rd → Nat × V), [].map f = []) ∧ (∀ (f : Nat × Rd → Nat × V) p ps, (p :: ps).map f = f p :: ps.map f) := by
  refine ⟨?_, ?_, ?_, ?_, ?_, ?_, ?_, ?_, ?_, ?_, ?_, ?_, ?_, ?_, ?_, ?_, ?_, ?_, ?_, ?_, ?_, ?_, ?_, ?_, ?_, ?_, ?_, ?_, ?_, ?_, ?_⟩ <;> intros <;> rfl
end Go.Ev
