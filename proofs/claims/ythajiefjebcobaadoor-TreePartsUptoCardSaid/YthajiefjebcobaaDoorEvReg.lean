/-
  Plain regions.
-/
import Derived.Test.YthajiefjebcobaaDoorEvCall
set_option linter.all false
set_option linter.unusedSimpArgs false
set_option linter.unusedVariables false
namespace Go.Ev
open Go

section
variable (P : Program) (C : Cfg)

/-- A guard: whether an earlier operation's yield is as it should be. -/
def chkGd (ops : Array Oper) : Option (Nat × Bool) → Option (Nat × Bool) → Bool
  | none, none => true
  | some (j, b), some (t, b') => b == b' && (ops[j]?).bind (·.dst) == some t
  | _, _ => false

def chkOper (ops : Array Oper) (o : Oper) (x : IOper) : Bool := o.dst == x.dst && chkGd ops o.guard x.gd && chkOp P C o.op x.op

def chkOpers (ops : Array Oper) : List Oper → List IOper → Bool
  | [], [] => true
  | o :: os, x :: xs => chkOper P C ops o x && chkOpers ops os xs
  | _, _ => false

/-- The functions that are meant are there. -/
def FnsOk : Prop := ∀ f F, C.fn f = some F → ∃ fn, P.funcs[F]? = some fn ∧ fn.body.isSome = true ∧ (fn.name == "runtime.NumGoroutine") = false
end

section
variable {P : Program} {C : Cfg} {G : List (List V)} {g : Gh} {σ : Store} {w : World} {a : Act} {tm : List V}

theorem wanted_rel {ops : Array Oper} {o : Oper} {x : IOper} (hg : chkGd ops o.guard x.gd = true) (ht : VRels C g σ w tm a.tmps.toList) {b : Bool} (h : wanted tm x.gd = some b) : Region.wanted o (yielded ops a.tmps) = b := by
  cases hgd : o.guard with
  | none =>
    cases hx : x.gd with
    | none =>
      rw [hx] at h
      simp only [wanted, Option.some.injEq] at h
      simp [Region.wanted, hgd, h]
    | some p => rw [hgd, hx] at hg; cases hg
  | some p =>
    obtain ⟨j, want⟩ := p
    cases hx : x.gd with
    | none => rw [hgd, hx] at hg; cases hg
    | some q =>
      obtain ⟨t, want'⟩ := q
      rw [hgd, hx] at hg
      simp only [chkGd, Bool.and_eq_true, beq_iff_eq] at hg
      obtain ⟨rfl, hdst⟩ := hg
      rw [hx] at h
      simp only [wanted] at h
      simp only [Region.wanted, hgd, yielded, hdst, Option.bind_some]
      cases hv : tm[t]? with
      | none =>
        rw [List.getD_eq_getElem?_getD, hv] at h
        cases h
      | some v =>
        rw [List.getD_eq_getElem?_getD, hv] at h
        obtain ⟨u, hu, hr⟩ := ht.get hv
        rw [Array.getElem?_toList] at hu
        rw [hu]
        simp only [Option.getD_some] at h
        cases v <;> simp only [reduceCtorEq, Option.some.injEq] at h
        · subst h
          cases hr
          cases want <;> rfl
        · subst h
          rw [inv_bool hr]
          rename_i c
          cases c <;> cases want <;> rfl

theorem put_rel (ht : VRels C g σ w tm a.tmps.toList) {v : V} {u : Value} (h : VRel C g σ w v u) (d : Option Nat) : VRels C g σ w (putT tm d v) (a.put d u).tmps.toList := by
  cases d with
  | none => exact ht
  | some k =>
    simp only [putT, Act.put, Array.toList_setIfInBounds]
    exact ht.set k h

theorem put_defers (a : Act) (d : Option Nat) (u : Value) : (a.put d u).defers = a.defers := by cases d <;> rfl

/-- An operation that is no call. -/
theorem op_ok (hT : C.tys.Nodup) (hI : Inv C g σ w G) (ht : VRels C g σ w tm a.tmps.toList) {dr : Bool} {nid : Nat} {σ' : Store} {o : Oper} {x : IOper} {v : V} (hr : allocs x.op = true → Room σ nid)
    (hd : o.dst = x.dst) (hc : chkOp P C o.op x.op = true) (h : ev1 (rdV G tm) dr σ nid x.op = some (v, σ')) {K : Act → World → Prop} {Q : Exit → Act → World → Prop}
    (hK : ∀ u w' g', Inv C g' σ' w' G → Le g σ w g' σ' w' → VRels C g' σ' w' (putT tm x.dst v) (a.put x.dst u).tmps.toList → K (a.put x.dst u) w') : o.wp P a w K Q := by
  obtain ⟨u, w', g', hrun, hI', hle, hv⟩ := s_all hT hI ht dr hr hc h
  have hk := hK u w' g' hI' hle (put_rel (VRels.mono hle ht) hv x.dst)
  unfold Oper.wp
  rcases hrun with hrun | ⟨hrun, rfl⟩
  · rw [hrun, Oper.upon_value, hd]; exact hk
  · rw [hrun, Oper.upon_skip, hd]; exact hk

/-- A call. -/
theorem op_call (hF : FnsOk P C) (hG : GOk G) {go : Job → Option Res} (hgo : CallOk P C G go) (hI : Inv C g σ w G) (ht : VRels C g σ w tm a.tmps.toList) {o : Oper} {x : IOper} {deep keep dr dp : Bool} {f : Rd} {args : List Rd} {e : End} {σ' : Store} {ec : Esc}
    (hop : x.op = .call deep keep f args) (hd : o.dst = x.dst) (hc : chkOp P C o.op x.op = true) (h : evCall go deep keep (rdV G tm f) (args.map (rdV G tm)) dr σ = some (e, σ', ec, dp)) {K : Act → World → Prop} {Q : Exit → Act → World → Prop}
    (hR : ∀ v u w' g', e = .ret v → Inv C g' σ' w' G → Le g σ w g' σ' w' → Keeps σ σ' ec → VRels C g' σ' w' (putT tm x.dst v) (a.put x.dst u).tmps.toList → K (a.put x.dst u) w')
    (hX : ∀ v u w' g', e = .pan v → Inv C g' σ' w' G → Le g σ w g' σ' w' → Keeps σ σ' ec → VRel C g' σ' w' v u → Q (.panic [{ v := u, recovered := false }]) a w') : o.wp P a w K Q := by
  rw [hop] at hc
  simp only [chkOp] at hc
  split at hc
  rotate_left
  · cases hc
  rename_i f' as ats hoo
  simp only [Bool.and_eq_true] at hc
  have hfr := chkRd_rel hI ht hc.1
  have har := chkRds_rel hI ht hc.2
  obtain ⟨F, caps, euf, ⟨fi, hfi⟩, hcalls⟩ := call_ok (P := P) hG hgo h hI hfr har
  obtain ⟨fn, hfn, hbody, hname⟩ := hF fi F hfi
  have hrun : (execOp a.eval o).run P w = .ok (.enter F ((as.toList.map a.eval).toArray ++ caps)) w := by
    obtain ⟨body, hb⟩ := Option.isSome_iff_exists.1 hbody
    have hme : (as.map a.eval) = (as.toList.map a.eval).toArray := by apply Array.ext'; simp
    have hn : ¬ fn.name = "runtime.NumGoroutine" := by simpa using hname
    simp [execOp, hoo, resolve, euf, Deferred.ofValue, invoke, callFunc, hfn, hn, hb, hme]
  unfold Oper.wp
  rw [hrun, Oper.upon_enter]
  refine Calls.weaken hcalls fun y w' hp => ?_
  obtain ⟨g', hI', hle, hx, hk⟩ := hp
  cases e with
  | ret v =>
    obtain ⟨u, rfl, hv⟩ := hx
    rw [hd]
    exact hR v u w' g' rfl hI' hle hk (put_rel (VRels.mono hle ht) hv x.dst)
  | pan v =>
    obtain ⟨u, rfl, hv⟩ := hx
    exact hX v u w' g' rfl hI' hle hk hv

/-- How code's end stands for the model's. -/
def ExRel (C : Cfg) (g : Gh) (σ : Store) (w : World) : X → Exit → Prop
  | .norm, .normal => True
  | .exit k, .exit k' => k = k'
  | .ret, .ret => True
  | .pan v, .panic ch => ∃ u, ch = [{ v := u, recovered := false }] ∧ VRel C g σ w v u
  | _, _ => False

/-- The frame as the machine sees it. -/
structure FRel (C : Cfg) (G : List (List V)) (g : Gh) (s : St) (a : Act) (w : World) : Prop where
  inv : Inv C g s.σ w G
  tm : VRels C g s.σ w s.tm a.tmps.toList
  dfs : a.defers = []

/-- What code comes to. -/
def Post (C : Cfg) (G : List (List V)) (g : Gh) (s : St) (w : World) (x : X) (s' : St) (e : Exit) (a' : Act) (w' : World) : Prop :=
  ∃ g' ec, FRel C G g' s' a' w' ∧ Le g s.σ w g' s'.σ w' ∧ ExRel C g' s'.σ w' x e ∧ s'.esc = s.esc ++ ec ∧ Keeps s.σ s'.σ ec

theorem Post.trans {s s1 s2 : St} {g g1 : Gh} {w w1 w2 : World} {x : X} {e : Exit} {a2 : Act} {ec : Esc} (hle : Le g s.σ w g1 s1.σ w1) (he : s1.esc = s.esc ++ ec) (hk : Keeps s.σ s1.σ ec) (h : Post C G g1 s1 w1 x s2 e a2 w2) : Post C G g s w x s2 e a2 w2 := by
  obtain ⟨g2, ec2, h1, h2, h3, h4, h5⟩ := h
  exact ⟨g2, ec ++ ec2, h1, hle.trans h2, h3, by rw [h4, he, List.append_assoc], hk.trans h5⟩

theorem range_drop (n k : Nat) (h : k < n) : (List.range n).drop k = k :: (List.range n).drop (k + 1) := by
  rw [List.drop_eq_getElem_cons (by simpa using h)]
  simp

theorem ops_ok (hT : C.tys.Nodup) (hF : FnsOk P C) (hG : GOk G) {go : Job → Option Res} (hgo : CallOk P C G go) {ops : Array Oper} : ∀ (l : List IOper) (k : Nat) (s s' : St) (x : X), chkOpers P C ops (ops.toList.drop k) l = true → evOps go G l s = some (x, s') →
    ∀ {g : Gh} {a : Act} {w : World} {Q : Exit → Act → World → Prop}, FRel C G g s a w → (∀ e a' w', Post C G g s w x s' e a' w' → Q e a' w') → wpOps P ops Q ((List.range ops.size).drop k) a w
  | [], k, s, s', x, hc, h, g, a, w, Q, hfr, hQ => by
    have hk : ops.toList.drop k = [] := by
      cases hd : ops.toList.drop k with
      | nil => rfl
      | cons => rw [hd] at hc; cases hc
    have hk : ops.size ≤ k := by simpa using hk
    have : (List.range ops.size).drop k = [] := by simp [hk]
    rw [this]
    simp only [evOps, Option.some.injEq, Prod.mk.injEq] at h
    obtain ⟨rfl, rfl⟩ := h
    exact hQ .normal a w ⟨g, [], hfr, Le.refl _ _ _, trivial, by simp, .refl _⟩
  | y :: l, k, s, s', x, hc, h, g, a, w, Q, hfr, hQ => by
    obtain ⟨o, os, hd⟩ : ∃ o os, ops.toList.drop k = o :: os := by
      cases hd : ops.toList.drop k with
      | nil => rw [hd] at hc; cases hc
      | cons o os => exact ⟨o, os, rfl⟩
    rw [hd] at hc
    simp only [chkOpers, chkOper, Bool.and_eq_true, beq_iff_eq] at hc
    obtain ⟨⟨⟨hdst, hgd⟩, hop⟩, hrest⟩ := hc
    have hok : ops[k]? = some o := by
      have : (ops.toList.drop k)[0]? = some o := by rw [hd]; rfl
      rw [List.getElem?_drop] at this
      simpa using this
    have hos : os = ops.toList.drop (k + 1) := by
      have : (ops.toList.drop k).drop 1 = os := by rw [hd]; rfl
      rw [List.drop_drop] at this
      exact this.symm
    have hlt : k < ops.size := (Array.getElem?_eq_some_iff.1 hok).1
    rw [hos] at hrest
    rw [range_drop _ _ hlt]
    simp only [wpOps, hok]
    have next : ∀ (s1 : St) (g1 : Gh) (a1 : Act) (w1 : World) (ec : Esc), evOps go G l s1 = some (x, s') → FRel C G g1 s1 a1 w1 → Le g s.σ w g1 s1.σ w1 → s1.esc = s.esc ++ ec → Keeps s.σ s1.σ ec →
        wpOps P ops Q ((List.range ops.size).drop (k + 1)) a1 w1 := fun s1 g1 a1 w1 ec h1 hf1 hle he hk =>
      ops_ok hT hF hG hgo l (k + 1) s1 s' x hrest h1 hf1 fun e a' w' hp => hQ e a' w' (Post.trans hle he hk hp)
    simp only [evOps] at h
    split at h
    · cases h
    · rename_i hw
      have hwr := wanted_rel (ops := ops) hgd hfr.tm hw
      rw [if_neg (by rw [hwr]; exact Bool.false_ne_true)]
      refine next _ g _ w [] h ⟨hfr.inv, ?_, by rw [put_defers]; exact hfr.dfs⟩ (Le.refl _ _ _) (by simp) (.refl _)
      rw [hdst]
      exact put_rel hfr.tm .skip y.dst
    · rename_i hw
      have hwr := wanted_rel (ops := ops) hgd hfr.tm hw
      rw [if_pos hwr]
      left
      split at h
      · rename_i deep keep f args hyo
        split at h
        · rename_i v σ' ec dp hcall
          refine op_call hF hG hgo hfr.inv hfr.tm hyo hdst hop hcall (fun v' u w' g' e hI' hle hk htm => ?_) (fun v' u w' g' e => by cases e)
          cases e
          exact next _ g' _ w' ec h ⟨hI', htm, by rw [put_defers]; exact hfr.dfs⟩ hle rfl hk
        · rename_i v σ' ec dp hcall
          simp only [Option.some.injEq, Prod.mk.injEq] at h
          obtain ⟨rfl, rfl⟩ := h
          refine op_call hF hG hgo hfr.inv hfr.tm hyo hdst hop hcall (fun v' u w' g' e => by cases e) (fun v' u w' g' e hI' hle hk hv => ?_)
          cases e
          exact hQ _ _ _ ⟨g', ec, ⟨hI', VRels.mono hle hfr.tm, hfr.dfs⟩, hle, ⟨u, rfl, hv⟩, rfl, hk⟩
        · cases h
      · rename_i px hyo
        split at h
        rotate_left
        · cases h
        rename_i t v hpx
        simp only [Option.some.injEq, Prod.mk.injEq] at h
        obtain ⟨rfl, rfl⟩ := h
        rw [hyo] at hop
        cases hoo : o.op <;> simp only [chkOp, hoo, Bool.false_eq_true] at hop
        rename_i px'
        have hr := chkRd_rel hfr.inv hfr.tm hop
        rw [hpx] at hr
        obtain ⟨T, z, hu, hTt, hz⟩ := inv_ifc hr
        have hrun : (execOp a.eval o).run P w = .halt (.panic (.iface T z)) w := by
          simp [execOp, hoo, hu, Instr.panic, goPanic]
        unfold Oper.wp
        rw [hrun, Oper.upon_panic]
        exact hQ _ _ _ ⟨g, [], hfr, Le.refl _ _ _, ⟨_, rfl, by rw [← hu, ← hpx]; exact chkRd_rel hfr.inv hfr.tm hop⟩, by simp, .refl _⟩
      · split at h
        rotate_left
        · cases h
        rename_i v σ' hev
        refine op_ok (Q := Q) (K := wpOps P ops Q ((List.range ops.size).drop (k + 1))) (nid := s.σ.length) hT hfr.inv hfr.tm (fun _ => .inl rfl) hdst hop hev (fun u w' g' hI' hle htm => ?_)
        exact next _ g' _ w' _ h ⟨hI', htm, by rw [put_defers]; exact hfr.dfs⟩ hle rfl ⟨ev1_grow (fun _ => Nat.le_refl _) hev, fun b hb hcl hbr => ev1_keeps hcl (fun _ => Nat.le_refl _) hbr hev⟩
end
end Go.Ev
