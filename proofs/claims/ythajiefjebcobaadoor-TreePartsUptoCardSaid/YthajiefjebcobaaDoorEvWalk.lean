/-
  Rules for walking through code by rewriting.
-/
import Derived.Test.YthajiefjebcobaaDoorEvLim
set_option linter.all false
set_option linter.unusedSimpArgs false
set_option linter.unusedVariables false
namespace Go.Ev
open Go

/-- Whatever a value is called, what comes next. -/
def kv (go : Job → Option Res) (G : List (List V)) (d : Option Nat) (v : Option V) (r : List IOper) (s : St) : Option (X × St) :=
  match v with
  | some v => evOps go G r ⟨putT s.tm d v, s.σ, s.esc⟩
  | none => none

/-- One operation, and what comes next. -/
def so (go : Job → Option Res) (G : List (List V)) (d : Option Nat) (op : IOp) (r : List IOper) (s : St) : Option (X × St) :=
  match op with
  | .call deep keep f args => match evCall go deep keep (rdV G s.tm f) (args.map (rdV G s.tm)) false s.σ with
    | some (.ret v, σ', ec, _) => evOps go G r ⟨putT s.tm d v, σ', s.esc ++ ec⟩
    | some (.pan v, σ', ec, _) => some (.pan v, ⟨s.tm, σ', s.esc ++ ec⟩)
    | none => none
  | .panic x => match rdV G s.tm x with
    | .ifc t v => some (.pan (.ifc t v), s)
    | _ => none
  | op => match ev1 (rdV G s.tm) false s.σ s.σ.length op with
    | some (v, σ') => evOps go G r ⟨putT s.tm d v, σ', s.esc ++ escOf (rdV G s.tm) s.σ s.σ.length op⟩
    | none => none

/-- What comes next, behind a way's question. -/
def cs (go : Job → Option Res) (G : List (List V)) (b : IC) (x : Option (X × St)) : Option (X × St) :=
  match x with
  | some (.norm, s) => evCode go G b s
  | r => r
def cb (id : Nat) (x : Option (X × St)) : Option (X × St) :=
  match x with
  | some (.exit k, s) => if k = id then some (.norm, s) else some (.exit k, s)
  | r => r
def cl (x : Option Res) : Option (X × St) :=
  match x with
  | some (.code x s) => some (x, s)
  | _ => none
def lo (go : Job → Option Res) (lv : List Nat) (c : IC) (n : Nat) (x : Option (X × St)) : Option Res :=
  match x with
  | some (.norm, s) => go (.loop lv c ((s.live lv).tidy n))
  | some (x, s) => some (.code x s)
  | none => none
/-- A question's answer. -/
def cd (go : Job → Option Res) (G : List (List V)) (v : V) (a b : IC) (s : St) : Option (X × St) :=
  match v with
  | .bool t => if t = true then evCode go G a s else evCode go G b s
  | _ => none
def gv (go : Job → Option Res) (G : List (List V)) (v : V) (b : Bool) (d : Option Nat) (op : IOp) (r : List IOper) (s : St) : Option (X × St) :=
  match v with
  | .bool c => if c = b then so go G d op r s else evOps go G r ⟨putT s.tm d .skip, s.σ, s.esc⟩
  | .skip => evOps go G r ⟨putT s.tm d .skip, s.σ, s.esc⟩
  | _ => none
def cx (go : Job → Option Res) (G : List (List V)) (d : Option Nat) (deep keep : Bool) (fv : V) (as : List V) (r : List IOper) (s : St) : Option (X × St) :=
  match evCall go deep keep fv as false s.σ with
  | some (.ret v, σ', ec, _) => evOps go G r ⟨putT s.tm d v, σ', s.esc ++ ec⟩
  | some (.pan v, σ', ec, _) => some (.pan v, ⟨s.tm, σ', s.esc ++ ec⟩)
  | none => none
/-- What comes next behind a call with plain arguments. -/
def ca (go : Job → Option Res) (G : List (List V)) (d : Option Nat) (r : List IOper) (s : St) (x : Option Res) : Option (X × St) :=
  match x with
  | some (.done (.ret v) _ _) => if v.under 0 then evOps go G r ⟨putT s.tm d v, s.σ, s.esc⟩ else none
  | some (.done (.pan v) _ _) => if v.under 0 then some (.pan v, s) else none
  | _ => none
mutual
theorem under_of_pure : ∀ (v : V), v.pure = true → v.under 0 = true
  | .any, h | .skip, h | .row .., h | .ptr .., h | .rptr .., h | .iptr _, h | .mref _, h => by cases h
  | .int .., _ | .bool _, _ | .str _, _ | .nilp, _ | .nilf, _ | .nili, _ => rfl
  | .sl m xs, h => by
    simp only [V.pure, Bool.and_eq_true] at h
    exact underL_of_pure xs h.2
  | .fn f cs, h => underL_of_pure cs h
  | .ifc t v, h => under_of_pure v h
  | .agg cs, h => underL_of_pure cs h
  | .tup cs, h => underL_of_pure cs h
theorem underL_of_pure : ∀ (l : List V), V.pureL l = true → V.underL 0 l = true
  | [], _ => rfl
  | v :: l, h => by
    simp only [V.pureL, Bool.and_eq_true] at h
    simp only [V.underL, Bool.and_eq_true]
    exact ⟨under_of_pure v h.1, underL_of_pure l h.2⟩
end
def fi (res : List IRes) (keep : Bool) (n : Nat) (x : Option (X × St)) : Option Res :=
  match x with
  | some (.norm, s) | some (.ret, s) => match resV s res with
    | some v => leave keep n .ret v s
    | none => none
  | some (.pan v, s) => leave false n .pan v s
  | _ => none

/-- What waits: code behind code, a block's end. -/
inductive Fr where
  | cs (b : IC)
  | cb (id : Nat)
/-- What waits last: a function's end, a loop's round. -/
inductive Bs where
  | fi (res : List IRes) (keep : Bool) (n : Nat)
  | lo (lv : List Nat) (c : IC) (n : Nat)
def fr (go : Job → Option Res) (G : List (List V)) (f : Fr) (x : Option (X × St)) : Option (X × St) :=
  match f with
  | .cs b => cs go G b x
  | .cb id => cb id x
def bs0 (go : Job → Option Res) (B : Bs) (x : Option (X × St)) : Option Res :=
  match B with
  | .fi res keep n => fi res keep n x
  | .lo lv c n => lo go lv c n x
/-- Code, and all that waits. -/
def ex (go : Job → Option Res) (G : List (List V)) (B : Bs) : List Fr → Option (X × St) → Option Res
  | [], x => bs0 go B x
  | f :: K, x => ex go G B K (fr go G f x)

section
variable {go : Job → Option Res} {G : List (List V)}

theorem lim_fun {F : List IFun} {f : Nat} {fn : IFun} (h : F[f]? = some fn) (hd : (fn.defers || fn.split) = false) (args : List V) (σ : Store) (keep : Bool) :
    lim F G (.call f args σ keep) = ex (lim F G) G (.fi fn.res keep σ.length) [] (evCode (lim F G) G fn.body ⟨args ++ List.replicate (fn.ntmps - args.length) .skip, σ, []⟩) := by
  rw [Bool.or_eq_false_iff] at hd
  rw [lim_call, callOf, h]
  simp only [hd.1, both, hd.2, Bool.false_eq_true, if_false, ex, bs0, fi]
  rfl

/-- A function that is looked at both ways. -/
theorem lim_both {F : List IFun} {f : Nat} {fn : IFun} (h : F[f]? = some fn) (hd : fn.defers = false) (hs : fn.split = true) (r : List V) (σ : Store) (keep : Bool) :
    lim F G (.call f (.sl .any [] :: r) σ keep) = join (lim F G (.call f (.sl .nil [] :: r) σ keep)) (lim F G (.call f (.sl .some [] :: r) σ keep)) := by
  rw [lim_call, callOf, h]
  simp only [hd, both, hs, ambi, Bool.false_eq_true, if_false, if_true]
theorem lim_fun' {F : List IFun} {f : Nat} {fn : IFun} (h : F[f]? = some fn) (hd : fn.defers = false) {args : List V} (ha : ambi args = none) (σ : Store) (keep : Bool) :
    lim F G (.call f args σ keep) = ex (lim F G) G (.fi fn.res keep σ.length) [] (evCode (lim F G) G fn.body ⟨args ++ List.replicate (fn.ntmps - args.length) .skip, σ, []⟩) := by
  have hb : both fn args = none := by simp only [both, ha, ite_self]
  rw [lim_call, callOf, h]
  simp only [hd, hb, Bool.false_eq_true, if_false, ex, bs0, fi]
  rfl

theorem lim_round {F : List IFun} {c c' : IC} (h : c = c') (lv : List Nat) (tm : List V) (σ : Store) (e : Esc) :
    lim F G (.loop lv c ⟨tm, σ, e⟩) = ex (lim F G) G (.lo lv c σ.length) [] (evCode (lim F G) G c' ⟨tm, σ, e⟩) := by
  subst h
  rw [lim_loop, loopOf]
  rfl

/-- Code. -/
theorem wc : (∀ B f K x, ex go G B (f :: K) (some x) = ex go G B K (fr go G f (some x))) ∧ (∀ B K a b (s : St), ex go G B K (evCode go G (.seq a b) s) = ex go G B (.cs b :: K) (evCode go G a s)) ∧
    (∀ B K id c (s : St), ex go G B K (evCode go G (.block id c) s) = ex go G B (.cb id :: K) (evCode go G c s)) ∧
    (∀ s : St, evCode go G .skip s = some (.norm, s)) ∧ (∀ s : St, evCode go G .ret s = some (.ret, s)) ∧ (∀ k (s : St), evCode go G (.exit k) s = some (.exit k, s)) ∧
    (∀ l (s : St), evCode go G (.reg l) s = evOps go G l s) ∧ (∀ lv c tm σ e, evCode go G (.loop lv c) ⟨tm, σ, e⟩ = cl (go (.loop lv c ⟨keepLive lv 0 tm, σ, e⟩))) ∧
    (∀ ds c tm σ e, evCode go G (.kill ds c) ⟨tm, σ, e⟩ = evCode go G c ⟨killT ds tm, σ, e⟩) ∧
    (∀ b s, fr go G (.cs b) (some (.norm, s)) = evCode go G b s) ∧ (∀ b s, fr go G (.cs b) (some (.ret, s)) = some (.ret, s)) ∧ (∀ b k s, fr go G (.cs b) (some (.exit k, s)) = some (.exit k, s)) ∧ (∀ b v s, fr go G (.cs b) (some (.pan v, s)) = some (.pan v, s)) ∧
    (∀ id s, fr go G (.cb id) (some (.norm, s)) = some (.norm, s)) ∧ (∀ id s, fr go G (.cb id) (some (.ret, s)) = some (.ret, s)) ∧ (∀ id v s, fr go G (.cb id) (some (.pan v, s)) = some (.pan v, s)) ∧
    (∀ id k s, fr go G (.cb id) (some (.exit k, s)) = if k = id then some (.norm, s) else some (.exit k, s)) ∧
    (∀ res keep n x, ex go G (.fi res keep n) [] (some x) = fi res keep n (some x)) ∧
    (∀ lv c n tm σ e, ex go G (.lo lv c n) [] (some (.norm, ⟨tm, σ, e⟩)) = go (.loop lv c ((⟨keepLive lv 0 tm, σ, e⟩ : St).tidy n))) ∧
    (∀ lv c n s, ex go G (.lo lv c n) [] (some (.ret, s)) = some (.code .ret s)) ∧ (∀ lv c n k s, ex go G (.lo lv c n) [] (some (.exit k, s)) = some (.code (.exit k) s)) ∧ (∀ lv c n v s, ex go G (.lo lv c n) [] (some (.pan v, s)) = some (.code (.pan v) s)) := by
  refine ⟨?_, ?_, ?_, ?_, ?_, ?_, ?_, ?_, ?_, ?_, ?_, ?_, ?_, ?_, ?_, ?_, ?_, ?_, ?_, ?_, ?_, ?_⟩ <;> intros <;> rfl
theorem wb : (∀ x s, cl (some (.code x s)) = some (x, s)) ∧
    (∀ res keep n s, fi res keep n (some (.ret, s)) = (match resV s res with | some v => leave keep n .ret v s | none => none)) ∧
    (∀ res keep n s, fi res keep n (some (.norm, s)) = (match resV s res with | some v => leave keep n .ret v s | none => none)) := by
  refine ⟨?_, ?_, ?_⟩ <;> intros <;> rfl

/-- A question that is not decided. -/
theorem cd_go {B : Bs} {K : List Fr} {t : Bool} {a b : IC} {s : St} {R : Option Res} (h : t = true → ex go G B K (evCode go G a s) = R) (h' : t = false → ex go G B K (evCode go G b s) = R) : ex go G B K (cd go G (.bool t) a b s) = R := by
  cases t
  · exact h' rfl
  · exact h rfl
theorem gv_go {B : Bs} {K : List Fr} {c b : Bool} {d : Option Nat} {op : IOp} {r : List IOper} {s : St} {R : Option Res} (h : c = true → ex go G B K (gv go G (.bool true) b d op r s) = R) (h' : c = false → ex go G B K (gv go G (.bool false) b d op r s) = R) :
    ex go G B K (gv go G (.bool c) b d op r s) = R := by
  cases c
  · exact h' rfl
  · exact h rfl

theorem w_cond (c : Rd) (a b : IC) (tm : List V) (σ : Store) (e : Esc) : evCode go G (.cond c a b) ⟨tm, σ, e⟩ = cd go G (rdV G tm c) a b ⟨tm, σ, e⟩ := by
  simp only [evCode, cd]
  cases rdV G tm c <;> try rfl
  rename_i t; cases t <;> rfl
/-- Operations in a row. -/
theorem wo : (∀ s : St, evOps go G [] s = some (.norm, s)) ∧ (∀ d op r (s : St), evOps go G (⟨d, op, none⟩ :: r) s = so go G d op r s) ∧
    (∀ d v r tm σ e, kv go G d (some v) r ⟨tm, σ, e⟩ = evOps go G r ⟨putT tm d v, σ, e⟩) ∧
    (∀ d x r tm σ e, so go G d (.mov x) r ⟨tm, σ, e⟩ = evOps go G r ⟨putT tm d (rdV G tm x), σ, e⟩) := by
  refine ⟨?_, ?_, ?_, ?_⟩
  · intros; rfl
  · intro d op r s
    cases op <;> rfl
  · intros; rfl
  · intros; simp [so, ev1, escOf]

/-- A guard. -/
theorem w_gd (t : Nat) (b : Bool) (tm : List V) (d : Option Nat) (op : IOp) (r : List IOper) (σ : Store) (e : Esc) :
    evOps go G (⟨d, op, some (t, b)⟩ :: r) ⟨tm, σ, e⟩ = gv go G (rdV G tm (.t t)) b d op r ⟨tm, σ, e⟩ := by
  rw [evOps]
  simp only [wanted, gv, rdV]
  cases h : tm.getD t .any <;> try rfl
  rename_i c
  simp only
  by_cases hc : c = b
  · subst hc
    simp only [BEq.rfl, if_true]
    cases op <;> rfl
  · have : (c == b) = false := by simpa using hc
    simp only [this, hc, if_false]
/-! ### Calls -/
theorem wz : (∀ a b (s : St), cd go G (.bool true) a b s = evCode go G a s) ∧ (∀ a b (s : St), cd go G (.bool false) a b s = evCode go G b s) ∧
    (∀ d op r tm σ e, gv go G (.bool true) true d op r ⟨tm, σ, e⟩ = so go G d op r ⟨tm, σ, e⟩) ∧ (∀ d op r tm σ e, gv go G (.bool false) false d op r ⟨tm, σ, e⟩ = so go G d op r ⟨tm, σ, e⟩) ∧
    (∀ d op r tm σ e, gv go G (.bool true) false d op r ⟨tm, σ, e⟩ = evOps go G r ⟨putT tm d .skip, σ, e⟩) ∧ (∀ d op r tm σ e, gv go G (.bool false) true d op r ⟨tm, σ, e⟩ = evOps go G r ⟨putT tm d .skip, σ, e⟩) ∧
    (∀ b d op r tm σ e, gv go G .skip b d op r ⟨tm, σ, e⟩ = evOps go G r ⟨putT tm d .skip, σ, e⟩) ∧
    (∀ d deep keep f args r tm σ e, so go G d (.call deep keep f args) r ⟨tm, σ, e⟩ = cx go G d deep keep (rdV G tm f) (args.map (rdV G tm)) r ⟨tm, σ, e⟩) := by
  refine ⟨?_, ?_, ?_, ?_, ?_, ?_, ?_, ?_⟩ <;> intros <;> rfl
theorem cx_pure {as caps : List V} (h : V.pureL (as ++ caps) = true) (d : Option Nat) (deep : Bool) (k : Nat) (r : List IOper) (tm : List V) (σ : Store) (e : Esc) :
    cx go G d deep false (.fn k caps) as r ⟨tm, σ, e⟩ = ca go G d r ⟨tm, σ, e⟩ (go (.call k (as ++ caps) [] false)) := by
  have hu : V.underL 0 (as ++ caps) = true := underL_of_pure _ h
  have hh : handOn DEEP σ (as ++ caps) = some (as ++ caps, σ) := by simp only [handOn, h, if_true]
  simp only [cx, evCall, Bool.false_eq_true, if_false, hh, hu, Bool.not_false, Bool.and_self, if_true]
  cases hg : go (.call k (as ++ caps) [] false) with
  | none => rfl
  | some x =>
    cases x with
    | code _ _ => rfl
    | done en _ _ =>
      cases en with
      | ret v =>
        simp only [ca]
        by_cases hv : v.under 0 = true
        · simp [hv]
        · simp [hv]
      | pan v =>
        simp only [ca]
        by_cases hv : v.under 0 = true
        · simp [hv]
        · simp [hv]
theorem ca_ret {v : V} (h : v.pure = true) (d : Option Nat) (r : List IOper) (tm : List V) (σ : Store) (e e' : Esc) (σ' : Store) :
    ca go G d r ⟨tm, σ, e⟩ (some (.done (.ret v) σ' e')) = evOps go G r ⟨putT tm d v, σ, e⟩ := by
  simp only [ca, under_of_pure v h, if_true]
end

/-! ### Values -/
def pickV (c a b : V) : Option V := match c with
  | .bool t => some (if t then a else b)
  | _ => none
def eqW (ng : Bool) (k : EqK) (x y : V) : Option V := match eqV k x y with
  | some b => some (.bool (if ng then !b else b))
  | none => none
def convV (k : IntKind) (x : V) : Option V := match x with
  | .int _ n => some (.int k (k.wrap n))
  | _ => none
def asrtV (tag : Nat) (z x : V) : Option V := match x with
  | .nili => some (.tup [z, .bool false])
  | .ifc t v => if t = tag then some (.tup [v, .bool true]) else some (.tup [z, .bool false])
  | _ => none
def asrt1V (tag : Nat) (x : V) : Option V := match x with
  | .ifc t v => if t = tag then some v else none
  | _ => none
def slcsV (x : V) (lo hi : Option V) : Option V := match x with
  | .str s => match bnd 0 lo, bnd s.length hi with
    | some l, some h => if l ≤ h ∧ h ≤ s.length then some (.str ((s.drop l).take (h - l))) else none
    | _, _ => none
  | _ => none
def faddrV (off : Nat) (x : V) : Option V := match x with
  | .ptr id o => some (.ptr id (o + off))
  | .rptr id g i fo => some (.rptr id g i (fo + off))
  | .iptr cs => some (.iptr (cs.drop off))
  | _ => none
def fldV (ag : Bool) (n off : Nat) (x : V) : Option V := match x with
  | .agg cs => if off + n ≤ cs.length then
      if ag then some (.agg ((cs.drop off).take n)) else cs[off]?
    else none
  | _ => none
def idxsV (x i : V) : Option V := match x, i with
  | .str s, .int _ k => if 0 ≤ k then match s[k.toNat]? with
      | some b => some (.int .u8 b)
      | none => none
    else none
  | _, _ => none
def aaddrV (len esz : Nat) (x i : V) : Option V := match x, i with
  | .iptr cs, .int _ k => if 0 ≤ k ∧ k < len then some (.iptr (cs.drop (k.toNat * esz))) else none
  | .ptr id o, .int _ k => if 0 ≤ k ∧ k < len then some (.ptr id (o + k.toNat * esz)) else none
  | _, _ => none
def extV (x : V) (i : Nat) : Option V := match x with
  | .tup vs => vs[i]?
  | _ => none
def lenV (σ : Store) (st : Bool) (x : V) : Option V := match st, x with
  | true, .str s => some (.int .i64 s.length)
  | false, .sl _ xs => some (.int .i64 xs.length)
  | false, .row id g _ n => match σ[id]? with
    | some (.row gen _ _ _) => if g = gen then some (.int .i64 n) else none
    | _ => none
  | _, _ => none
def mnV (xs : List V) : Option V := match xs with
  | .int k a :: l => (foldMn a l).map (.int k)
  | _ => none
def mxV (xs : List V) : Option V := match xs with
  | .int k a :: l => (foldMx a l).map (.int k)
  | _ => none
def nilckV (x : V) : Option V := match isNil x with
  | some false => some x
  | _ => none
def loadV (ag : Bool) (cs : Option (List V)) : Option V := match cs with
  | some cs => if ag then some (.agg cs) else match cs with
    | [c] => some c
    | _ => none
  | none => none
def iaddrV (σ : Store) (esz : Nat) (x i : V) : Option V := match x, i with
  | .sl _ xs, .int _ k => if 0 ≤ k then match xs[k.toNat]? with
      | some v => if v.cells.length = esz then some (.iptr v.cells) else none
      | none => none
    else none
  | .row id g off n, .int _ k => match σ[id]? with
    | some (.row gen es _ xs) => if g = gen ∧ es = esz ∧ 0 ≤ k ∧ k < n ∧ off + n ≤ xs.length then some (.rptr id g (off + k.toNat) 0) else none
    | _ => none
  | _, _ => none
def lkV (σ : Store) (kk : CK) (ok : Bool) (z m k : V) : Option V := match m with
  | .mref id => match σ[id]? with
    | some (.mp es) => match mpFind kk k es with
      | some (some v) => some (if ok then .tup [v, .bool true] else v)
      | some none => some (if ok then .tup [z, .bool false] else z)
      | none => none
    | _ => none
  | _ => none
/-- A slice of what is known. -/
def slcV (esz : Nat) (m : Md) (xs : List V) (lo hi mx : Option V) : Option V := match bnd 0 lo, bnd xs.length hi, bnd xs.length mx with
  | some l, some h, some y =>
    if l ≤ h ∧ h ≤ y ∧ y ≤ xs.length ∧ (m = .nil → xs.length = 0) ∧ firstIs esz xs then
      some (.sl (slcMode m h xs.length (if mx.isSome then some y else none)) ((xs.drop l).take (h - l)))
    else none
  | _, _, _ => none

section
variable {go : Job → Option Res} {G : List (List V)}

theorem so_val {d : Option Nat} {op : IOp} {r : List IOper} {tm : List V} {σ : Store} {e : Esc} {ov : Option V} (hc : ∀ a b c l, op ≠ .call a b c l) (hp : ∀ x, op ≠ .panic x)
    (h : ev1 (rdV G tm) false σ σ.length op = okV σ ov) (he : escOf (rdV G tm) σ σ.length op = []) : so go G d op r ⟨tm, σ, e⟩ = kv go G d ov r ⟨tm, σ, e⟩ := by
  have : so go G d op r ⟨tm, σ, e⟩ = (match ev1 (rdV G tm) false σ σ.length op with
    | some (v, σ') => evOps go G r ⟨putT tm d v, σ', e ++ escOf (rdV G tm) σ σ.length op⟩
    | none => none) := by
    cases op <;> first | rfl | exact absurd rfl (hc _ _ _ _) | exact absurd rfl (hp _)
  rw [this, h, he]
  cases ov <;> simp [okV, kv]

variable {r : Rd → V} {dr : Bool} {σ : Store} {nid : Nat}
theorem e_pick (c a b : Rd) : ev1 r dr σ nid (.pick c a b) = okV σ (pickV (r c) (r a) (r b)) := by
  simp only [ev1, pickV]; cases r c <;> try rfl
  rename_i t; cases t <;> rfl
theorem e_eq (ng : Bool) (k : EqK) (x y : Rd) : ev1 r dr σ nid (.eq ng k x y) = okV σ (eqW ng k (r x) (r y)) := by
  simp only [ev1, eqW]; cases eqV k (r x) (r y) <;> rfl
theorem e_conv (k : IntKind) (x : Rd) : ev1 r dr σ nid (.conv k x) = okV σ (convV k (r x)) := by
  simp only [ev1, convV]; cases r x <;> rfl
theorem e_asrt (t : Nat) (z : V) (x : Rd) : ev1 r dr σ nid (.asrt t z x) = okV σ (asrtV t z (r x)) := by
  simp only [ev1, asrtV]; cases r x <;> try rfl
  simp only; split <;> rfl
theorem e_asrt1 (t : Nat) (x : Rd) : ev1 r dr σ nid (.asrt1 t x) = okV σ (asrt1V t (r x)) := by
  simp only [ev1, asrt1V]; cases r x <;> try rfl
  simp only; split <;> rfl
theorem e_slcs (x : Rd) (lo hi : Option Rd) : ev1 r dr σ nid (.slcs x lo hi) = okV σ (slcsV (r x) (lo.map r) (hi.map r)) := by
  simp only [ev1, slcsV]; cases r x <;> try rfl
  rename_i s
  cases h1 : bnd 0 (lo.map r) <;> cases h2 : bnd s.length (hi.map r) <;> simp only [h1, h2] <;> try rfl
  split <;> rfl
theorem e_faddr (o : Nat) (x : Rd) : ev1 r dr σ nid (.faddr o x) = okV σ (faddrV o (r x)) := by
  simp only [ev1, faddrV]; cases r x <;> rfl
theorem e_fld (ag : Bool) (n o : Nat) (x : Rd) : ev1 r dr σ nid (.fld ag n o x) = okV σ (fldV ag n o (r x)) := by
  simp only [ev1, fldV]; cases r x <;> try rfl
  rename_i cs
  simp only; split
  · cases ag
    · cases cs[o]? <;> rfl
    · rfl
  · rfl
theorem e_idxs (x i : Rd) : ev1 r dr σ nid (.idxs x i) = okV σ (idxsV (r x) (r i)) := by
  simp only [ev1, idxsV]; cases r x <;> try rfl
  cases r i <;> try rfl
  rename_i s _ k
  simp only; split
  · cases s[k.toNat]? <;> rfl
  · rfl
theorem e_aaddr (n z : Nat) (x i : Rd) : ev1 r dr σ nid (.aaddr n z x i) = okV σ (aaddrV n z (r x) (r i)) := by
  simp only [ev1, aaddrV]; cases r x <;> try rfl
  all_goals cases r i <;> try rfl
  all_goals (simp only; split <;> rfl)
theorem e_ext (x : Rd) (i : Nat) : ev1 r dr σ nid (.ext x i) = okV σ (extV (r x) i) := by
  simp only [ev1, extV]; cases r x <;> rfl
theorem e_len (b : Bool) (x : Rd) : ev1 r dr σ nid (.len b x) = okV σ (lenV σ b (r x)) := by
  simp only [ev1, lenV]; cases b <;> cases r x <;> try rfl
  rename_i id g _ n
  simp only; cases σ[id]? <;> try rfl
  rename_i o; cases o <;> try rfl
  simp only; split <;> rfl
theorem e_mn (xs : List Rd) : ev1 r dr σ nid (.mn xs) = okV σ (mnV (xs.map r)) := by
  simp only [ev1, mnV]; cases xs.map r <;> first | rfl | (rename_i a _; cases a <;> rfl)
theorem e_mx (xs : List Rd) : ev1 r dr σ nid (.mx xs) = okV σ (mxV (xs.map r)) := by
  simp only [ev1, mxV]; cases xs.map r <;> first | rfl | (rename_i a _; cases a <;> rfl)
theorem e_nilck (x : Rd) : ev1 r dr σ nid (.nilck x) = okV σ (nilckV (r x)) := by
  simp only [ev1, nilckV]; cases isNil (r x) <;> try rfl
  rename_i b; cases b <;> rfl
theorem e_load (ag : Bool) (n : Nat) (a : Rd) : ev1 r dr σ nid (.load ag n a) = okV σ (loadV ag (loadAt σ n (r a))) := by
  simp only [ev1, loadV]; cases loadAt σ n (r a) <;> try rfl
  rename_i l; cases ag <;> try rfl
  cases l <;> try rfl
  rename_i _ t; cases t <;> rfl
theorem e_iaddr (z : Nat) (x i : Rd) : ev1 r dr σ nid (.iaddr z x i) = okV σ (iaddrV σ z (r x) (r i)) := by
  simp only [ev1, iaddrV]; cases r x <;> try rfl
  · cases r i <;> try rfl
    rename_i xs _ k
    simp only; split
    · cases xs[k.toNat]? <;> try rfl
      simp only; split <;> rfl
    · rfl
  · cases r i <;> try rfl
    rename_i id _ _ _ _ _
    simp only; cases σ[id]? <;> try rfl
    rename_i o; cases o <;> try rfl
    simp only; split <;> rfl
theorem e_lkup (kk : CK) (ok : Bool) (z : V) (m k : Rd) : ev1 r dr σ nid (.lkup kk ok z m k) = okV σ (lkV σ kk ok z (r m) (r k)) := by
  simp only [ev1, lkV]; cases r m <;> try rfl
  rename_i id
  simp only; cases σ[id]? <;> try rfl
  rename_i o; cases o <;> try rfl
  rename_i es
  simp only; cases mpFind kk (r k) es <;> try rfl
  rename_i q; cases q <;> rfl
theorem e_slc (esz : Nat) (x : Rd) (lo hi mx : Option Rd) (m : Md) (xs : List V) (h : r x = .sl m xs) : ev1 r dr σ nid (.slc esz x lo hi mx) = okV σ (slcV esz m xs (lo.map r) (hi.map r) (mx.map r)) := by
  simp only [ev1, slcV, h]
  cases h1 : bnd 0 (lo.map r) <;> cases h2 : bnd xs.length (hi.map r) <;> cases h3 : bnd xs.length (mx.map r) <;> simp only [h1, h2, h3] <;> try rfl
  simp only [Option.isSome_map]
  split <;> rfl
end
section
variable {go : Job → Option Res} {G : List (List V)}
theorem wv : (∀ d c a b r tm σ e, so go G d (.pick c a b) r ⟨tm, σ, e⟩ = kv go G d (pickV (rdV G tm c) (rdV G tm a) (rdV G tm b)) r ⟨tm, σ, e⟩) ∧
    (∀ d op x y r tm σ e, so go G d (.ari op x y) r ⟨tm, σ, e⟩ = kv go G d (ari op (rdV G tm x) (rdV G tm y)) r ⟨tm, σ, e⟩) ∧
    (∀ d ng k x y r tm σ e, so go G d (.eq ng k x y) r ⟨tm, σ, e⟩ = kv go G d (eqW ng k (rdV G tm x) (rdV G tm y)) r ⟨tm, σ, e⟩) ∧
    (∀ d op x r tm σ e, so go G d (.un op x) r ⟨tm, σ, e⟩ = kv go G d (unV op (rdV G tm x)) r ⟨tm, σ, e⟩) ∧
    (∀ d k x r tm σ e, so go G d (.conv k x) r ⟨tm, σ, e⟩ = kv go G d (convV k (rdV G tm x)) r ⟨tm, σ, e⟩) ∧
    (∀ d t x r tm σ e, so go G d (.mki t x) r ⟨tm, σ, e⟩ = kv go G d (some (.ifc t (rdV G tm x))) r ⟨tm, σ, e⟩) ∧
    (∀ d t z x r tm σ e, so go G d (.asrt t z x) r ⟨tm, σ, e⟩ = kv go G d (asrtV t z (rdV G tm x)) r ⟨tm, σ, e⟩) ∧
    (∀ d t x r tm σ e, so go G d (.asrt1 t x) r ⟨tm, σ, e⟩ = kv go G d (asrt1V t (rdV G tm x)) r ⟨tm, σ, e⟩) ∧
    (∀ d f cs r tm σ e, so go G d (.mkf f cs) r ⟨tm, σ, e⟩ = kv go G d (some (.fn f (cs.map (rdV G tm)))) r ⟨tm, σ, e⟩) ∧
    (∀ d x lo hi r tm σ e, so go G d (.slcs x lo hi) r ⟨tm, σ, e⟩ = kv go G d (slcsV (rdV G tm x) (lo.map (rdV G tm)) (hi.map (rdV G tm))) r ⟨tm, σ, e⟩) ∧
    (∀ d o x r tm σ e, so go G d (.faddr o x) r ⟨tm, σ, e⟩ = kv go G d (faddrV o (rdV G tm x)) r ⟨tm, σ, e⟩) ∧
    (∀ d ag n o x r tm σ e, so go G d (.fld ag n o x) r ⟨tm, σ, e⟩ = kv go G d (fldV ag n o (rdV G tm x)) r ⟨tm, σ, e⟩) ∧
    (∀ d x i r tm σ e, so go G d (.idxs x i) r ⟨tm, σ, e⟩ = kv go G d (idxsV (rdV G tm x) (rdV G tm i)) r ⟨tm, σ, e⟩) ∧
    (∀ d n z x i r tm σ e, so go G d (.aaddr n z x i) r ⟨tm, σ, e⟩ = kv go G d (aaddrV n z (rdV G tm x) (rdV G tm i)) r ⟨tm, σ, e⟩) ∧
    (∀ d x i r tm σ e, so go G d (.ext x i) r ⟨tm, σ, e⟩ = kv go G d (extV (rdV G tm x) i) r ⟨tm, σ, e⟩) ∧
    (∀ d b x r tm σ e, so go G d (.len b x) r ⟨tm, σ, e⟩ = kv go G d (lenV σ b (rdV G tm x)) r ⟨tm, σ, e⟩) ∧
    (∀ d xs r tm σ e, so go G d (.mn xs) r ⟨tm, σ, e⟩ = kv go G d (mnV (xs.map (rdV G tm))) r ⟨tm, σ, e⟩) ∧
    (∀ d xs r tm σ e, so go G d (.mx xs) r ⟨tm, σ, e⟩ = kv go G d (mxV (xs.map (rdV G tm))) r ⟨tm, σ, e⟩) ∧
    (∀ d x r tm σ e, so go G d (.nilck x) r ⟨tm, σ, e⟩ = kv go G d (nilckV (rdV G tm x)) r ⟨tm, σ, e⟩) ∧
    (∀ d ag n a r tm σ e, so go G d (.load ag n a) r ⟨tm, σ, e⟩ = kv go G d (loadV ag (loadAt σ n (rdV G tm a))) r ⟨tm, σ, e⟩) ∧
    (∀ d z x i r tm σ e, so go G d (.iaddr z x i) r ⟨tm, σ, e⟩ = kv go G d (iaddrV σ z (rdV G tm x) (rdV G tm i)) r ⟨tm, σ, e⟩) ∧
    (∀ d kk ok z m k r tm σ e, so go G d (.lkup kk ok z m k) r ⟨tm, σ, e⟩ = kv go G d (lkV σ kk ok z (rdV G tm m) (rdV G tm k)) r ⟨tm, σ, e⟩) := by
  refine ⟨?_, ?_, ?_, ?_, ?_, ?_, ?_, ?_, ?_, ?_, ?_, ?_, ?_, ?_, ?_, ?_, ?_, ?_, ?_, ?_, ?_, ?_⟩ <;> intros <;> refine so_val (by intros; simp) (by intros; simp) ?_ rfl
  · exact e_pick _ _ _
  · rfl
  · exact e_eq _ _ _ _
  · rfl
  · exact e_conv _ _
  · rfl
  · exact e_asrt _ _ _
  · exact e_asrt1 _ _
  · rfl
  · exact e_slcs _ _ _
  · exact e_faddr _ _
  · exact e_fld _ _ _ _
  · exact e_idxs _ _
  · exact e_aaddr _ _ _ _
  · exact e_ext _ _
  · exact e_len _ _
  · exact e_mn _
  · exact e_mx _
  · exact e_nilck _
  · exact e_load _ _ _
  · exact e_iaddr _ _ _
  · exact e_lkup _ _ _ _ _
theorem w_slc {d : Option Nat} {esz : Nat} {x : Rd} {lo hi mx : Option Rd} {r : List IOper} {tm : List V} {σ : Store} {e : Esc} {m : Md} {xs : List V} (h : rdV G tm x = .sl m xs) :
    so go G d (.slc esz x lo hi mx) r ⟨tm, σ, e⟩ = kv go G d (slcV esz m xs (lo.map (rdV G tm)) (hi.map (rdV G tm)) (mx.map (rdV G tm))) r ⟨tm, σ, e⟩ :=
  so_val (by intros; simp) (by intros; simp) (e_slc esz x lo hi mx m xs h) rfl
end
end Go.Ev
