/-
  Functions, by fuel.
-/
import Derived.Test.YthajiefjebcobaaDoorEvSound
import Derived.LoopN
set_option linter.all false
set_option linter.unusedSimpArgs false
set_option linter.unusedVariables false
namespace Go.Ev
open Go

section
variable (P : Program) (C : Cfg)

def chkRes : ResultVar → IRes → Bool
  | .tmp t, .t n => t == n
  | .cell a t, .cell b ag n => a == b && isAggT P t == some ag && szIs P t n && (ag || n == 1)
  | _, _ => false

def chkRess : List ResultVar → List IRes → Bool
  | [], [] => true
  | r :: rs, x :: xs => chkRes P r x && chkRess rs xs
  | _, _ => false

def chkFun (fn : Func) (f : IFun) : Bool :=
  fn.ntmps == f.ntmps && (match fn.body with | some c => chkCode P C c f.body | none => false) && chkRess P fn.results.toList f.res && !(fn.name == "runtime.NumGoroutine")

/-- Every function that is meant is the small machine's. -/
def Linked (F : List IFun) : Prop := ∀ f k, C.fn f = some k → ∃ fn ifn, P.funcs[k]? = some fn ∧ F[f]? = some ifn ∧ chkFun P C fn ifn = true
end

section
variable {P : Program} {C : Cfg} {G : List (List V)} {F : List IFun}

theorem Linked.fns (h : Linked P C F) : FnsOk P C := by
  intro f k hk
  obtain ⟨fn, ifn, h1, h2, h3⟩ := h f k hk
  simp only [chkFun, Bool.and_eq_true, Bool.not_eq_true'] at h3
  refine ⟨fn, h1, ?_, h3.2⟩
  cases hb : fn.body with
  | none => rw [hb] at h3; simp at h3
  | some c => rfl

/-- A result, as the model reads it. -/
def res1 (tmps : Array Value) : ResultVar → Sem Value
  | .tmp t => pure (tmps.getD t undef)
  | .cell a t => do loadVar t (← asAddr (tmps.getD a undef))

theorem results_eq (fn : Func) (tmps : Array Value) : results fn tmps = (do let vs ← fn.results.mapM (res1 tmps); pure (if h : vs.size = 1 then vs[0] else .tuple vs)) := by
  rfl

/-- One result. -/
theorem res_one {g : Gh} {s : St} {a : Act} {w : World} (hfr : FRel C G g s a w) {r : ResultVar} {x : IRes} (hc : chkRes P r x = true) {v : V} (h : resOf s x = some v) :
    ∃ u, (res1 a.tmps r).run P w = .ok u w ∧ VRel C g s.σ w v u := by
  have hget : ∀ n, s.tm.getD n .any ≠ .any → VRel C g s.σ w (s.tm.getD n .any) (a.tmps.getD n undef) := by
    intro n hn
    rw [List.getD_eq_getElem?_getD] at hn ⊢
    cases hv : s.tm[n]? with
    | none => rw [hv] at hn; exact absurd rfl hn
    | some y =>
      obtain ⟨u, hu, hr⟩ := hfr.tm.get hv
      have : a.tmps[n]? = some u := by simpa using hu
      rw [Array.getD_eq_getD_getElem?, this]
      exact hr
  cases r <;> cases x <;> simp only [chkRes, Bool.false_eq_true, Bool.and_eq_true, beq_iff_eq] at hc
  · rename_i t n
    subst hc
    simp only [resOf] at h
    split at h
    · cases h
    · cases h
    · rename_i y h1 h2
      simp only [Option.some.injEq] at h
      subst h
      exact ⟨_, rfl, hget t h1⟩
  · rename_i b t b' ag n
    obtain ⟨⟨⟨rfl, hag⟩, hsz⟩, hn⟩ := hc
    simp only [resOf] at h
    split at h
    rotate_left
    · cases h
    rename_i cs hl
    have hne : s.tm.getD b .any ≠ .any := by
      intro e
      rw [e] at hl
      simp [loadAt] at hl
    obtain ⟨p, us, e, hrel, hul, hcl, hcell⟩ := load_cells hfr.inv (hget b hne) hl
    cases ag
    · have hn1 : n = 1 := by simpa using hn
      subst hn1
      simp only [Bool.false_eq_true, if_false] at h
      split at h
      rotate_left
      · cases h
      simp only [Option.some.injEq] at h
      subst h
      obtain ⟨u, rfl, hr⟩ := hrel.one
      have h0 := hcell 0 u (by simp)
      have e0 : p.add 0 = p := by simp [Addr.add]
      rw [e0] at h0
      exact ⟨u, by simp [res1, e, asAddr, loadVar, run_isAgg hag, h0], hr⟩
    · simp only [if_true, Option.some.injEq] at h
      subst h
      have hl := run_loadCells_list (P := P) w p us hcell
      rw [hul] at hl
      exact ⟨.agg us.toArray, by simp [res1, e, asAddr, loadVar, run_isAgg hag, szIs_size hsz, hl], .agg _ _ hrel⟩

theorem res_all {g : Gh} {s : St} {a : Act} {w : World} (hfr : FRel C G g s a w) : ∀ (rs : List ResultVar) (xs : List IRes) (vs : List V), chkRess P rs xs = true → optAll (resOf s) xs = some vs →
    ∃ us, (rs.mapM (res1 a.tmps)).run P w = .ok us w ∧ VRels C g s.σ w vs us
  | [], [], vs, _, h => by
    simp only [optAll, Option.some.injEq] at h
    subst h
    exact ⟨[], by simp, .nil⟩
  | r :: rs, x :: xs, vs, hc, h => by
    simp only [chkRess, Bool.and_eq_true] at hc
    simp only [optAll] at h
    split at h
    rotate_left
    · cases h
    rename_i v hv
    split at h
    rotate_left
    · cases h
    rename_i ys hys
    simp only [Option.some.injEq] at h
    subst h
    obtain ⟨u, h1, h2⟩ := res_one hfr hc.1 hv
    obtain ⟨us, h3, h4⟩ := res_all hfr rs xs ys hc.2 hys
    refine ⟨u :: us, ?_, .cons h2 h4⟩
    rw [List.mapM_cons]
    simp only [Sem.run_bind, h1, Result.andThen_ok, h3, Sem.run_pure]

theorem res_ok {g : Gh} {s : St} {a : Act} {w : World} (hfr : FRel C G g s a w) {fn : Func} {xs : List IRes} {v : V} (hc : chkRess P fn.results.toList xs = true) (h : resV s xs = some v) :
    ∃ u, (results fn a.tmps).run P w = .ok u w ∧ VRel C g s.σ w v u := by
  unfold resV at h
  cases ho : optAll (resOf s) xs with
  | none => rw [ho] at h; cases h
  | some vs =>
    obtain ⟨us, h1, h2⟩ := res_all hfr _ _ vs hc ho
    have hm : (results fn a.tmps).run P w = .ok (if h : us.toArray.size = 1 then us.toArray[0] else .tuple us.toArray) w := by
      rw [results_eq, Array.mapM_eq_mapM_toList]
      simp only [Sem.run_bind, Sem.run_map, h1, Result.andThen_ok, Sem.run_pure]
    rw [ho] at h
    refine ⟨_, hm, ?_⟩
    have hl := h2.length
    split at h
    · rename_i v' e
      simp only [Option.some.injEq] at e h
      subst e h
      obtain ⟨u, rfl, hr⟩ := h2.one
      simpa using hr
    · rename_i vs' hne e
      simp only [Option.some.injEq] at e h
      subst e h
      have hsz : ¬ us.toArray.size = 1 := by
        intro e1
        have : vs.length = 1 := by rw [hl]; simpa using e1
        obtain ⟨y, rfl⟩ := List.length_eq_one_iff.1 this
        exact hne y rfl
      rw [dif_neg hsz]
      exact .tup _ _ h2
    · cases h

theorem broken_filter {e : Esc} {n b : Nat} (hb : b ≤ n) (h : broken (e.filter fun p => p.1 < n) b = false) : broken e b = false := by
  unfold broken at *
  rw [List.any_eq_false] at *
  intro p hp hx
  simp only [Bool.and_eq_true, decide_eq_true_eq] at hx
  refine h p (List.mem_filter.2 ⟨hp, by simp; omega⟩) ?_
  simpa using hx

theorem Closed.take {σ : Store} {n b : Nat} (h : Closed σ b) : Closed (σ.take n) b := by
  intro id o hid ho
  rw [List.getElem?_take] at ho
  split at ho
  · exact h id o hid ho
  · cases ho

/-- What is left behind a call. -/
theorem leave_ok (hG : GOk G) {keep : Bool} {σ : Store} {mk : V → End} {v : V} {s : St} {e : End} {σ' : Store} {ec : Esc} (h : leave keep σ.length mk v s = some (.done e σ' ec))
    {g g1 : Gh} {w w1 : World} {u : Value} (hI0 : Inv C g σ w G) (hI : Inv C g1 s.σ w1 G) (hle : Le g σ w g1 s.σ w1) (hk : Keeps σ s.σ s.esc) (hv : VRel C g1 s.σ w1 v u) :
    ∃ v' g', e = mk v' ∧ Inv C g' σ' w1 G ∧ Le g σ w g' σ' w1 ∧ VRel C g' σ' w1 v' u ∧ Keeps σ σ' ec := by
  unfold leave at h
  split at h
  · simp only [Option.some.injEq, Res.done.injEq] at h
    obtain ⟨rfl, rfl, rfl⟩ := h
    exact ⟨v, g1, rfl, hI, hle, hv, hk⟩
  · split at h
    · cases h
    rename_i v' hs
    have hR : Raise s.σ (frz DEEP v s.σ) := Raise.frz DEEP v s.σ
    have hI2 : Inv C (g1.frozen (frz DEEP v s.σ)) (frz DEEP v s.σ) w1 G := inv_frozen hI hR
    have hle2 := hle.trans (le_frozen (C := C) (G := G) hI hR)
    have hv2 := snap_rel hI hR DEEP hs (.inr ⟨s.σ, Raise.refl _, Raise.refl _⟩) hv
    have hk2 : Keeps σ (frz DEEP v s.σ) s.esc := by simpa using hk.trans (.raise hR)
    simp only at h
    split at h
    · rename_i hc
      simp only [Bool.and_eq_true, Bool.not_eq_true'] at hc
      simp only [Option.some.injEq, Res.done.injEq] at h
      obtain ⟨rfl, rfl, rfl⟩ := h
      have hcl := hk2.cl σ.length (Nat.le_refl _) hI0.closed hc.2
      refine ⟨v', _, rfl, inv_take hG hI2 hcl, le_take hle2 (Nat.le_refl _), ?_, ?_, fun b hb hcb hbr => ?_⟩
      · exact hv2.cut (fun _ _ h => h) (fun _ _ => ⟨rfl, rfl⟩) (fun id h => take_get h) hc.1
      · have := hk2.len
        simp only [List.length_take]
        omega
      · exact (hk2.cl b hb hcb (broken_filter hb hbr)).take
    · simp only [Option.some.injEq, Res.done.injEq] at h
      obtain ⟨rfl, rfl, rfl⟩ := h
      exact ⟨v', _, rfl, hI2, hle2, hv2, hk2⟩

theorem sameObjs_eq : ∀ {a b : Store}, sameObjs a b = true → a = b
  | [], [], _ => rfl
  | [], _ :: _, h => by cases h
  | _ :: _, [], h => by cases h
  | x :: a, y :: b, h => by
    simp only [sameObjs, Bool.and_eq_true] at h
    rw [Obj.same_eq h.1, sameObjs_eq h.2]

theorem join_inv {a b : Option Res} {e : End} {s : Store} {ec : Esc} (h : join a b = some (.done e s ec)) :
    ∃ v u x, a = some (.done (.ret v) s ec) ∧ b = some (.done (.ret u) s ec) ∧ jn v u = some x ∧ e = .ret x := by
  unfold join at h
  split at h
  rotate_left
  · cases h
  rename_i v s1 e1 u s2 e2
  split at h
  rotate_left
  · cases h
  rename_i hc
  simp only [Bool.and_eq_true, beq_iff_eq] at hc
  split at h
  rotate_left
  · cases h
  rename_i x hx
  simp only [Option.some.injEq, Res.done.injEq] at h
  obtain ⟨rfl, rfl, rfl⟩ := h
  exact ⟨v, u, x, rfl, by rw [sameObjs_eq hc.1, hc.2], hx, rfl⟩

theorem jn_rel {v u x : V} (h : jn v u = some x) {g : Gh} {σ : Store} {w : World} {y : Value} : (VRel C g σ w v y → VRel C g σ w x y) ∧ (VRel C g σ w u y → VRel C g σ w x y) := by
  unfold jn at h
  split at h
  · rename_i hs
    simp only [Option.some.injEq] at h
    subst h
    rw [V.same_eq hs]
    exact ⟨fun h => h, fun h => h⟩
  · split at h
    · simp only [Option.some.injEq] at h
      subst h
      exact ⟨VRel.noMode, VRel.noMode⟩
    · cases h

theorem both_inv {fn : IFun} {args a1 a2 : List V} (h : both fn args = some (a1, a2)) : ∃ r, args = .sl .any [] :: r ∧ a1 = .sl .nil [] :: r ∧ a2 = .sl .some [] :: r := by
  unfold both at h
  split at h
  · unfold ambi at h
    split at h
    · simp only [Option.some.injEq, Prod.mk.injEq] at h
      exact ⟨_, rfl, h.1.symm, h.2.symm⟩
    · cases h
  · cases h

theorem run_ok (hT : C.tys.Nodup) (hL : Linked P C F) (hG : GOk G) (hM : P.follows .mixedOrders = true) : ∀ n, CallOk P C G (evB F G n) ∧
    ∀ lv ic s x s', evB F G n (.loop lv ic s) = some (.code x s') → ∀ c, chkCode P C c ic = true → ∀ g a w Q, FRel C G g s a w → (∀ e a' w', Post C G g s w x s' e a' w' → Q e a' w') → Code.rounds P c Q n a w
  | 0 => ⟨fun f args σ keep e σ' ec h => by simp [evB] at h, fun lv ic s x s' h => by simp [evB] at h⟩
  | n + 1 => by
    obtain ⟨ih1, ih2⟩ := run_ok hT hL hG hM n
    have hlo : LoopOk P C G (evB F G n) := fun lv ic s x s' h c hc g a w Q hfr hQ => wp_loop_rounds n (ih2 lv ic s x s' h c hc g a w Q hfr hQ)
    constructor
    · intro f args σ keep e σ' ec h K g w us hK hI hargs
      obtain ⟨fn, ifn, h1, h2, h3⟩ := hL f K hK
      simp only [chkFun, Bool.and_eq_true, beq_iff_eq] at h3
      obtain ⟨⟨⟨hnt, hbody⟩, hres⟩, -⟩ := h3
      cases hb : fn.body with
      | none => rw [hb] at hbody; cases hbody
      | some c =>
      rw [hb] at hbody
      simp only [evB, h2] at h
      split at h
      · cases h
      split at h
      · rename_i a1 a2 hbo
        obtain ⟨r, rfl, rfl, rfl⟩ := both_inv hbo
        obtain ⟨v, u, x, ha, hb', hx, rfl⟩ := join_inv h
        have fin2 : ∀ (z : V), (∀ {g : Gh} {σ : Store} {w : World} {y : Value}, VRel C g σ w z y → VRel C g σ w x y) → ∀ as, VRels C g σ w as us → evB F G n (.call f as σ keep) = some (.done (.ret z) σ' ec) →
            Calls P K us.toArray w (CallPost C G g σ w (.ret x) σ' ec) := fun z hz as has hgo =>
          Calls.weaken (ih1 f as σ keep (.ret z) σ' ec hgo K g w us hK hI has) fun E w' ⟨g', q1, q2, ⟨y, q3, q4⟩, q5⟩ => ⟨g', q1, q2, ⟨y, q3, hz q4⟩, q5⟩
        cases hargs with
        | cons hv hs =>
          cases hv with
          | slnil m hm => exact fin2 v (jn_rel hx).1 _ (.cons (.slnil .nil (.inl rfl)) hs) ha
          | sl m xs p c k us' hn hm hf hc hx' hu => exact fin2 u (jn_rel hx).2 _ (.cons (.sl .some [] p c k us' hn (by simp) (by simp) hc hx' hu) hs) hb'
      refine calls_of_wp h1 hb ?_
      have hfr : FRel C G g ⟨args ++ List.replicate (ifn.ntmps - args.length) .skip, σ, []⟩ { tmps := us.toArray ++ Array.replicate (fn.ntmps - us.toArray.size) undef, defers := [] } w := by
        refine ⟨hI, ?_, rfl⟩
        have hl := hargs.length
        simp only [Array.toList_append, Array.toList_replicate, List.size_toArray, hnt, hl]
        exact hargs.append (.replicate .skip _)
      have fin : ∀ (s : St) (a' : Act) (g1 : Gh) (w1 : World) (e1 : Esc), FRel C G g1 s a' w1 → Le g σ w g1 s.σ w1 → s.esc = [] ++ e1 → Keeps σ s.σ e1 →
          (match resV s ifn.res with | some v => leave keep σ.length .ret v s | none => none) = some (.done e σ' ec) →
          a'.defers = [] ∧ ∃ v, (results fn a'.tmps).run P w1 = .ok v w1 ∧ CallPost C G g σ w e σ' ec (.returned v) w1 := by
        intro s a' g1 w1 e1 hf1 hle he hk h
        split at h
        rotate_left
        · cases h
        rename_i v hv
        obtain ⟨u, hu, hr⟩ := res_ok hf1 hres hv
        rw [List.nil_append] at he
        subst he
        obtain ⟨v', g', rfl, q1, q2, q3, q4⟩ := leave_ok hG h hI hf1.inv hle hk hr
        exact ⟨hf1.dfs, u, hu, g', q1, q2, ⟨u, rfl, q3⟩, q4⟩
      split at h
      · rename_i s hev
        refine code_ok hT hL.fns hG hM ih1 hlo _ c _ _ _ hev hbody hfr fun x a' w1 hp => ?_
        obtain ⟨g1, e1, hf1, hle, hx, he, hk⟩ := hp
        cases x <;> simp only [ExRel] at hx
        exact fin s a' g1 w1 e1 hf1 hle he hk h
      · rename_i s hev
        refine code_ok hT hL.fns hG hM ih1 hlo _ c _ _ _ hev hbody hfr fun x a' w1 hp => ?_
        obtain ⟨g1, e1, hf1, hle, hx, he, hk⟩ := hp
        cases x <;> simp only [ExRel] at hx
        exact fin s a' g1 w1 e1 hf1 hle he hk h
      · rename_i v s hev
        refine code_ok hT hL.fns hG hM ih1 hlo _ c _ _ _ hev hbody hfr fun x a' w1 hp => ?_
        obtain ⟨g1, e1, hf1, hle, hx, he, hk⟩ := hp
        cases x <;> simp only [ExRel] at hx
        obtain ⟨u, rfl, hv⟩ := hx
        rw [List.nil_append] at he
        subst he
        obtain ⟨v', g', rfl, q1, q2, q3, q4⟩ := leave_ok hG h hI hf1.inv hle hk hv
        exact ⟨hf1.dfs, g', q1, q2, ⟨u, rfl, q3⟩, q4⟩
      · cases h
    · intro lv ic s x s' h c hc g a w Q hfr hQ
      simp only [evB] at h
      rw [rounds_succ]
      split at h
      · rename_i s1 hev
        refine code_ok hT hL.fns hG hM ih1 hlo _ c _ _ _ hev hc hfr fun e a1 w1 hp => ?_
        obtain ⟨g1, e1, hf1, hle, hx, he, hk⟩ := hp
        cases e <;> simp only [ExRel] at hx
        simp only [Exit.then]
        have hf2 := hf1.live lv
        have key : FRel C G g1 ((s1.live lv).tidy s.σ.length) a1 w1 ∧ Le g s.σ w g1 ((s1.live lv).tidy s.σ.length).σ w1 ∧ ((s1.live lv).tidy s.σ.length).esc = s.esc ++ e1 ∧ Keeps s.σ ((s1.live lv).tidy s.σ.length).σ e1 := by
          unfold St.tidy
          split
          · rename_i ht
            simp only [Bool.and_eq_true, Bool.not_eq_true', decide_eq_true_eq] at ht
            obtain ⟨⟨ht1, ht2⟩, ht3⟩ := ht
            have hbr : broken e1 s.σ.length = false := by
              have h2 : broken s1.esc s.σ.length = false := ht2
              rw [he] at h2
              exact (broken_append.1 h2).2
            have hcl : Closed s1.σ s.σ.length := hk.cl _ (Nat.le_refl _) hfr.inv.closed hbr
            refine ⟨⟨inv_take hG hf1.inv hcl, ?_, hf1.dfs⟩, le_take hle (Nat.le_refl _), he, ?_, fun b hb hcb hbr => (hk.cl b hb hcb hbr).take⟩
            · exact hf2.tm.cut (fun _ _ h => h) (fun _ _ => ⟨rfl, rfl⟩) (fun id h => take_get h) ht3
            · have := hk.len
              simp only [St.live, List.length_take]
              omega
          · exact ⟨hf2, hle, he, hk⟩
        obtain ⟨k1, k2, k3, k4⟩ := key
        exact ih2 lv ic _ x s' h c hc g1 a1 w1 Q k1 fun e a2 w2 hp => hQ e a2 w2 (Post.trans k2 k3 k4 hp)
      · rename_i x0 s0 hne hev
        simp only [Option.some.injEq, Res.code.injEq] at h
        obtain ⟨rfl, rfl⟩ := h
        refine code_ok hT hL.fns hG hM ih1 hlo _ c _ _ _ hev hc hfr fun e a1 w1 hp => ?_
        have hp2 := hp
        obtain ⟨g1, e1, hf1, hle, hx, he, hk⟩ := hp
        cases e with
        | normal => 
          exfalso
          cases x0 <;> simp only [ExRel] at hx
          exact hne rfl
        | _ => exact hQ _ a1 w1 hp2
      · cases h

theorem evB_ok (hT : C.tys.Nodup) (hL : Linked P C F) (hG : GOk G) (hM : P.follows .mixedOrders = true) (n : Nat) : CallOk P C G (evB F G n) := (run_ok hT hL hG hM n).1
end
end Go.Ev
