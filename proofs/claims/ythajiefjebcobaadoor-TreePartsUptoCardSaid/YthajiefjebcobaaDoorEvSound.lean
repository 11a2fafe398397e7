/-
  Code, functions: what the small machine answers is what the program does.
-/
import Derived.Test.YthajiefjebcobaaDoorEvCode
set_option linter.all false
set_option linter.unusedSimpArgs false
set_option linter.unusedVariables false
namespace Go.Ev
open Go

section
variable (P : Program) (C : Cfg)

def chkCode : Code → IC → Bool
  | c, .kill _ x => chkCode c x
  | .skip, .skip => true
  | .label _, .skip => true
  | .region _ ops false, .reg l => chkOpers P C ops ops.toList l
  | .region _ ops true, .dreg m l => chkDraw m ops l && chkOpers P C ops ops.toList (l.map (·.1))
  | .seq a b, .seq x y => chkCode a x && chkCode b y
  | .cond c a b, .cond d x y => chkRd C c d && chkCode a x && chkCode b y
  | .block id c, .block id' x => id == id' && chkCode c x
  | .loop c, .loop _ x => chkCode c x
  | .exit id, .exit id' => id == id'
  | .ret, .ret => true
  | _, _ => false
end

section
variable {P : Program} {C : Cfg} {G : List (List V)}

theorem keepLive_rel {g : Gh} {σ : Store} {w : World} (lv : List Nat) : ∀ {vs : List V} {us : List Value} (i : Nat), VRels C g σ w vs us → VRels C g σ w (keepLive lv i vs) us
  | _, _, _, .nil => .nil
  | _, _, i, .cons hv hs => by
    simp only [keepLive]
    refine .cons ?_ (keepLive_rel lv (i + 1) hs)
    split
    · exact hv
    · exact .any _

theorem kill_rel {g : Gh} {σ : Store} {w : World} {us : List Value} : ∀ {ds : List Nat} {vs : List V}, VRels C g σ w vs us → VRels C g σ w (killT ds vs) us
  | [], _, h => h
  | d :: ds, vs, h => by
    simp only [killT]
    refine kill_rel ?_
    refine .mk ?_ fun i v u hv hu => ?_
    · rw [List.length_set]; exact h.length
    · rw [List.getElem?_set] at hv
      split at hv
      · split at hv
        · simp only [Option.some.injEq] at hv
          subst hv
          exact .any u
        · cases hv
      · obtain ⟨u', hu', hr⟩ := h.get hv
        rw [hu] at hu'
        cases hu'
        exact hr

theorem FRel.kill {g : Gh} {s : St} {a : Act} {w : World} (h : FRel C G g s a w) (ds : List Nat) : FRel C G g ⟨killT ds s.tm, s.σ, s.esc⟩ a w := ⟨h.inv, kill_rel h.tm, h.dfs⟩

theorem FRel.live {g : Gh} {s : St} {a : Act} {w : World} (h : FRel C G g s a w) (lv : List Nat) : FRel C G g (s.live lv) a w := ⟨h.inv, keepLive_rel lv 0 h.tm, h.dfs⟩

/-- What a loop comes to. -/
def LoopOk (P : Program) (C : Cfg) (G : List (List V)) (go : Job → Option Res) : Prop :=
  ∀ lv ic s x s', go (.loop lv ic s) = some (.code x s') → ∀ c, chkCode P C c ic = true → ∀ g a w Q, FRel C G g s a w → (∀ e a' w', Post C G g s w x s' e a' w' → Q e a' w') → (Code.loop c).wp P Q a w

theorem code_ok (hT : C.tys.Nodup) (hF : FnsOk P C) (hG : GOk G) (hM : P.follows .mixedOrders = true) {go : Job → Option Res} (hgo : CallOk P C G go) (hlo : LoopOk P C G go) : ∀ (ic : IC) (c : Code) (s s' : St) (x : X),
    evCode go G ic s = some (x, s') → chkCode P C c ic = true → ∀ {g : Gh} {a : Act} {w : World} {Q : Exit → Act → World → Prop}, FRel C G g s a w → (∀ e a' w', Post C G g s w x s' e a' w' → Q e a' w') → c.wp P Q a w
  | .skip, c, s, s', x, h, hc, g, a, w, Q, hfr, hQ => by
    simp only [evCode, Option.some.injEq, Prod.mk.injEq] at h
    obtain ⟨rfl, rfl⟩ := h
    have hp : Q .normal a w := hQ .normal a w ⟨g, [], hfr, Le.refl _ _ _, trivial, by simp, .refl _⟩
    cases c <;> simp only [chkCode, Bool.false_eq_true] at hc
    · exact wp_skip hp
    · exact wp_label hp
  | .reg l, c, s, s', x, h, hc, g, a, w, Q, hfr, hQ => by
    cases c <;> try (exact absurd hc Bool.false_ne_true)
    rename_i id ops draw
    have hdr : draw = false := by cases draw; rfl; exact absurd hc Bool.false_ne_true
    subst hdr
    have hc : chkOpers P C ops ops.toList l = true := hc
    simp only [evCode] at h
    refine wp_region ?_
    have := ops_ok hT hF hG hgo l 0 s s' x (by simpa using hc) h hfr hQ
    simpa using this
  | .dreg m l, c, s, s', x, h, hc, g, a, w, Q, hfr, hQ => by
    cases c <;> try (exact absurd hc Bool.false_ne_true)
    rename_i id ops draw
    have hdr : draw = true := by cases draw; exact absurd hc Bool.false_ne_true; rfl
    subst hdr
    have hc : (chkDraw m ops l && chkOpers P C ops ops.toList (l.map (·.1))) = true := hc
    rw [Bool.and_eq_true] at hc
    simp only [evCode] at h
    exact dreg_ok hT hF hG hM hgo hc.1 hc.2 h hfr hQ
  | .seq x1 x2, c, s, s', x, h, hc, g, a, w, Q, hfr, hQ => by
    cases c <;> simp only [chkCode, Bool.false_eq_true, Bool.and_eq_true] at hc
    rename_i c1 c2
    simp only [evCode] at h
    refine wp_seq ?_
    split at h
    · rename_i s1 h1
      refine code_ok hT hF hG hM hgo hlo x1 c1 s s1 .norm h1 hc.1 hfr fun e a' w' hp => ?_
      obtain ⟨g1, ec, hf1, hle, hx, he, hk⟩ := hp
      cases e <;> simp only [ExRel] at hx
      exact code_ok hT hF hG hM hgo hlo x2 c2 s1 s' x h hc.2 hf1 fun e a2 w2 hp2 => hQ e a2 w2 (Post.trans hle he hk hp2)
    · rename_i hne
      have hxn : x ≠ .norm := by
        rintro rfl
        exact hne s' h
      refine code_ok hT hF hG hM hgo hlo x1 c1 s s' x h hc.1 hfr fun e a' w' hp => ?_
      have hp2 := hp
      obtain ⟨g1, ec, hf1, hle, hx, he, hk⟩ := hp
      cases e with
      | normal => cases x <;> simp only [ExRel] at hx; exact absurd rfl hxn
      | _ => exact hQ _ a' w' hp2
  | .cond d x1 x2, c, s, s', x, h, hc, g, a, w, Q, hfr, hQ => by
    cases c <;> simp only [chkCode, Bool.false_eq_true, Bool.and_eq_true] at hc
    rename_i c0 c1 c2
    have hr := chkRd_rel hfr.inv hfr.tm hc.1.1
    simp only [evCode] at h
    split at h
    · rename_i e
      rw [e] at hr
      exact wp_cond_true (inv_bool hr) (code_ok hT hF hG hM hgo hlo x1 c1 s s' x h hc.1.2 hfr hQ)
    · rename_i e
      rw [e] at hr
      exact wp_cond_false (inv_bool hr) (code_ok hT hF hG hM hgo hlo x2 c2 s s' x h hc.2 hfr hQ)
    · cases h
  | .block id x1, c, s, s', x, h, hc, g, a, w, Q, hfr, hQ => by
    cases c <;> simp only [chkCode, Bool.false_eq_true, Bool.and_eq_true, beq_iff_eq] at hc
    rename_i id' c1
    obtain ⟨rfl, hc1⟩ := hc
    simp only [evCode] at h
    refine wp_block ?_
    split at h
    · rename_i k s1 h1
      refine code_ok hT hF hG hM hgo hlo x1 c1 s s1 _ h1 hc1 hfr fun e a' w' hp => ?_
      obtain ⟨g1, ec, hf1, hle, hx, he, hk⟩ := hp
      cases e <;> simp only [ExRel] at hx
      subst hx
      simp only [Exit.inBlock]
      split at h
      · rename_i ek
        simp only [Option.some.injEq, Prod.mk.injEq] at h
        obtain ⟨rfl, rfl⟩ := h
        rw [if_pos ek]
        exact hQ _ _ _ ⟨g1, ec, hf1, hle, trivial, he, hk⟩
      · rename_i ek
        simp only [Option.some.injEq, Prod.mk.injEq] at h
        obtain ⟨rfl, rfl⟩ := h
        rw [if_neg ek]
        exact hQ _ _ _ ⟨g1, ec, hf1, hle, rfl, he, hk⟩
    · rename_i hne
      refine code_ok hT hF hG hM hgo hlo x1 c1 s s' x h hc1 hfr fun e a' w' hp => ?_
      have hp2 := hp
      obtain ⟨g1, ec, hf1, hle, hx, he, hk⟩ := hp
      cases e with
      | exit k =>
        cases x <;> simp only [ExRel] at hx
        subst hx
        exact absurd h (hne _ s')
      | _ => exact hQ _ a' w' hp2
  | .loop lv x1, c, s, s', x, h, hc, g, a, w, Q, hfr, hQ => by
    cases c <;> simp only [chkCode, Bool.false_eq_true] at hc
    rename_i c1
    simp only [evCode] at h
    split at h
    rotate_left
    · cases h
    rename_i x' s1 h1
    simp only [Option.some.injEq, Prod.mk.injEq] at h
    obtain ⟨rfl, rfl⟩ := h
    exact hlo lv x1 (s.live lv) _ _ h1 c1 hc g a w Q (hfr.live lv) hQ
  | .exit id, c, s, s', x, h, hc, g, a, w, Q, hfr, hQ => by
    cases c <;> simp only [chkCode, Bool.false_eq_true, beq_iff_eq] at hc
    subst hc
    simp only [evCode, Option.some.injEq, Prod.mk.injEq] at h
    obtain ⟨rfl, rfl⟩ := h
    exact wp_exit (hQ _ _ _ ⟨g, [], hfr, Le.refl _ _ _, rfl, by simp, .refl _⟩)
  | .ret, c, s, s', x, h, hc, g, a, w, Q, hfr, hQ => by
    cases c <;> simp only [chkCode, Bool.false_eq_true] at hc
    simp only [evCode, Option.some.injEq, Prod.mk.injEq] at h
    obtain ⟨rfl, rfl⟩ := h
    exact wp_ret (hQ _ _ _ ⟨g, [], hfr, Le.refl _ _ _, trivial, by simp, .refl _⟩)
  | .kill ds x1, c, s, s', x, h, hc, g, a, w, Q, hfr, hQ => by
    simp only [chkCode] at hc
    simp only [evCode] at h
    exact code_ok hT hF hG hM hgo hlo x1 c _ s' x h hc (hfr.kill ds) hQ
end
end Go.Ev
