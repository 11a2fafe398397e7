/-
  Rules for walking: regions that draw their order.
-/
import Derived.Test.YthajiefjebcobaaDoorEvMemo
set_option linter.all false
set_option linter.unusedSimpArgs false
set_option linter.unusedVariables false
namespace Go.Ev
open Go

def clashes (cx : List Nat) (fp : Fp) (log : List (Fp × Esc)) : Bool := cx.any fun k => clash fp (log.getD k (Fp.nil, [])).1

/-- Behind an operation. -/
def dn (go : Job → Option Res) (G : List (List V)) (b0 i : Nat) (cx : List Nat) (d : Option Nat) (x : Option (V × Store)) (fp : Fp) (ec : Esc) (r : List (IOper × Ord)) (D : DSt) : Option DSt :=
  match x with
  | some (v, σ') => if clashes cx fp D.log then none else dsteps go G b0 (i + 1) r ⟨putT D.tm d v, σ', D.log.set i (fp, ec)⟩
  | none => none

def dk (go : Job → Option Res) (G : List (List V)) (b0 i : Nat) (cx : List Nat) (d : Option Nat) (v : Option V) (fp : Fp) (r : List (IOper × Ord)) (D : DSt) : Option DSt :=
  dn go G b0 i cx d (okV D.σ v) fp [] r D

/-- An operation that is carried out. -/
def dop (go : Job → Option Res) (G : List (List V)) (b0 i : Nat) (o : Ord) (d : Option Nat) (op : IOp) (r : List (IOper × Ord)) (D : DSt) : Option DSt :=
  match op with
  | .call deep keep f args => match evCall go deep keep (rdV G D.tm f) (args.map (rdV G D.tm)) (!o.cx.isEmpty) D.σ with
    | some (.ret v, σ', ec, dp) =>
      if σ'.length = D.σ.length then
        let ids := (args.map (rdV G D.tm)).flatMap V.ids ++ (match rdV G D.tm f with | .fn _ caps => caps.flatMap V.ids | _ => [])
        dn go G b0 i o.cx d (some (v, σ')) (if dp then ⟨true, [], changed 0 D.σ σ'⟩ else ⟨false, ids, if v.flat then [] else ids⟩) ec r D
      else none
    | _ => none
  | op =>
    if allocs op && !isFree D.σ[b0 + o.slot.getD 0]? then none
    else dn go G b0 i o.cx d (ev1 (rdV G D.tm) (!o.cx.isEmpty) D.σ (b0 + o.slot.getD 0) op) (foot (rdV G D.tm) (b0 + o.slot.getD 0) op) (escOf (rdV G D.tm) D.σ (b0 + o.slot.getD 0) op) r D

def dgv (go : Job → Option Res) (G : List (List V)) (b0 i : Nat) (o : Ord) (v : V) (b : Bool) (d : Option Nat) (op : IOp) (r : List (IOper × Ord)) (D : DSt) : Option DSt :=
  match v with
  | .bool c => if c = b then dop go G b0 i o d op r D else dn go G b0 i o.cx d (some (.skip, D.σ)) Fp.nil [] r D
  | .skip => dn go G b0 i o.cx d (some (.skip, D.σ)) Fp.nil [] r D
  | _ => none

/-- Behind a region. -/
def de (m : Nat) (e : Esc) (x : Option DSt) : Option (X × St) :=
  match x with
  | some D => some (.norm, ⟨D.tm, D.σ.trim m, e ++ D.log.flatMap (·.2)⟩)
  | none => none

/-- Behind a call with plain arguments. -/
def dca (go : Job → Option Res) (G : List (List V)) (b0 i : Nat) (cx : List Nat) (d : Option Nat) (ids : List Nat) (r : List (IOper × Ord)) (D : DSt) (x : Option Res) : Option DSt :=
  match x with
  | some (.done (.ret v) _ _) => if v.under 0 then dn go G b0 i cx d (some (v, D.σ)) ⟨false, ids, if v.flat then [] else ids⟩ [] r D else none
  | _ => none

def dcx (go : Job → Option Res) (G : List (List V)) (b0 i : Nat) (o : Ord) (d : Option Nat) (deep keep : Bool) (fv : V) (as : List V) (r : List (IOper × Ord)) (D : DSt) : Option DSt :=
  match evCall go deep keep fv as (!o.cx.isEmpty) D.σ with
  | some (.ret v, σ', ec, dp) =>
    if σ'.length = D.σ.length then
      let ids := as.flatMap V.ids ++ (match fv with | .fn _ caps => caps.flatMap V.ids | _ => [])
      dn go G b0 i o.cx d (some (v, σ')) (if dp then ⟨true, [], changed 0 D.σ σ'⟩ else ⟨false, ids, if v.flat then [] else ids⟩) ec r D
    else none
  | _ => none

section
variable {go : Job → Option Res} {G : List (List V)}

theorem w_dreg (m : Nat) (l : List (IOper × Ord)) (tm : List V) (σ : Store) (e : Esc) :
    evCode go G (.dreg m l) ⟨tm, σ, e⟩ = de m e (dsteps go G σ.length 0 l ⟨tm, σ ++ List.replicate m .free, List.replicate l.length (Fp.nil, [])⟩) := by
  simp only [evCode, evDreg, de]
  cases dsteps go G σ.length 0 l _ <;> rfl

theorem d_cons (b0 i : Nat) (o : IOper) (d : Ord) (r : List (IOper × Ord)) (D : DSt) : dsteps go G b0 i ((o, d) :: r) D =
    match draw1 go G b0 o d D.tm D.σ with
    | none => none
    | some (v, σ', fp, ec) => if clashes d.cx fp D.log then none else dsteps go G b0 (i + 1) r ⟨putT D.tm o.dst v, σ', D.log.set i (fp, ec)⟩ := by
  simp only [dsteps, dstep]
  cases draw1 go G b0 o d D.tm D.σ with
  | none => rfl
  | some q =>
    obtain ⟨v, σ', fp, ec⟩ := q
    simp only
    by_cases hc : (d.cx.any fun k => clash fp (D.log.getD k (Fp.nil, [])).fst) = true
    · have hc' : clashes d.cx fp D.log = true := hc
      rw [if_pos hc, if_pos hc']
    · have hc' : ¬ clashes d.cx fp D.log = true := hc
      rw [if_neg hc, if_neg hc']

theorem d_op1 (b0 : Nat) (o : Ord) (d : Option Nat) (op : IOp) (D : DSt) (h : ∀ a b c l, op ≠ .call a b c l) : draw1 go G b0 ⟨d, op, none⟩ o D.tm D.σ =
    if allocs op && !isFree D.σ[b0 + o.slot.getD 0]? then none
    else match ev1 (rdV G D.tm) (!o.cx.isEmpty) D.σ (b0 + o.slot.getD 0) op with
      | some (v, σ') => some (v, σ', foot (rdV G D.tm) (b0 + o.slot.getD 0) op, escOf (rdV G D.tm) D.σ (b0 + o.slot.getD 0) op)
      | none => none := by
  cases op <;> first | rfl | exact absurd rfl (h _ _ _ _)

theorem d_op (b0 i : Nat) (d : Option Nat) (op : IOp) (o : Ord) (r : List (IOper × Ord)) (D : DSt) : dsteps go G b0 i ((⟨d, op, none⟩, o) :: r) D = dop go G b0 i o d op r D := by
  rw [d_cons]
  by_cases h : ∃ a b c l, op = .call a b c l
  · obtain ⟨deep, keep, f, args, rfl⟩ := h
    simp only [draw1, wanted, dop]
    generalize evCall go deep keep (rdV G D.tm f) (List.map (rdV G D.tm) args) (!List.isEmpty o.cx) D.σ = q
    match q with
    | none => rfl
    | some (.pan v, σ', ec, dp) => rfl
    | some (.ret v, σ', ec, dp) =>
      simp only
      by_cases hl : σ'.length = D.σ.length
      · simp only [hl, if_true, dn]
        rfl
      · simp only [hl, if_false]
  · have h' : ∀ a b c l, op ≠ .call a b c l := fun a b c l e => h ⟨a, b, c, l, e⟩
    rw [d_op1 _ _ _ _ _ h']
    have e1 : dop go G b0 i o d op r D = if allocs op && !isFree D.σ[b0 + o.slot.getD 0]? then none
        else dn go G b0 i o.cx d (ev1 (rdV G D.tm) (!o.cx.isEmpty) D.σ (b0 + o.slot.getD 0) op) (foot (rdV G D.tm) (b0 + o.slot.getD 0) op) (escOf (rdV G D.tm) D.σ (b0 + o.slot.getD 0) op) r D := by
      cases op <;> first | rfl | exact absurd rfl (h' _ _ _ _)
    rw [e1]
    by_cases hal : (allocs op && !isFree D.σ[b0 + o.slot.getD 0]?) = true
    · rw [if_pos hal, if_pos hal]
    · rw [if_neg hal, if_neg hal]
      cases ev1 (rdV G D.tm) (!o.cx.isEmpty) D.σ (b0 + o.slot.getD 0) op with
      | none => rfl
      | some q => rfl

theorem d_gd (b0 i t : Nat) (b : Bool) (d : Option Nat) (op : IOp) (o : Ord) (r : List (IOper × Ord)) (D : DSt) :
    dsteps go G b0 i ((⟨d, op, some (t, b)⟩, o) :: r) D = dgv go G b0 i o (rdV G D.tm (.t t)) b d op r D := by
  have key : ∀ x : Option Bool, wanted D.tm (some (t, b)) = x → dsteps go G b0 i ((⟨d, op, some (t, b)⟩, o) :: r) D = match x with
      | none => none
      | some false => dn go G b0 i o.cx d (some (.skip, D.σ)) Fp.nil [] r D
      | some true => dop go G b0 i o d op r D := by
    intro x hx
    cases x with
    | none => rw [d_cons]; simp only [draw1, hx]
    | some c =>
      cases c with
      | false => rw [d_cons]; simp only [draw1, hx, dn]
      | true =>
        rw [← d_op, d_cons, d_cons]
        have hn : wanted D.tm none = some true := rfl
        simp only [draw1, hx, hn]
  cases h : D.tm.getD t .any with
  | bool c =>
    rw [key (some (c == b)) (by simp only [wanted, h])]
    simp only [dgv, rdV, h]
    cases b <;> cases c <;> rfl
  | skip =>
    rw [key (some false) (by simp only [wanted, h])]
    simp only [dgv, rdV, h]
  | _ =>
    rw [key none (by simp only [wanted, h])]
    simp only [dgv, rdV, h]

theorem dgv_go {B : Bs} {K : List Fr} {m : Nat} {e : Esc} {b0 i : Nat} {o : Ord} {c b : Bool} {d : Option Nat} {op : IOp} {r : List (IOper × Ord)} {D : DSt} {R : Option Res}
    (h : c = true → ex go G B K (de m e (dgv go G b0 i o (.bool true) b d op r D)) = R) (h' : c = false → ex go G B K (de m e (dgv go G b0 i o (.bool false) b d op r D)) = R) :
    ex go G B K (de m e (dgv go G b0 i o (.bool c) b d op r D)) = R := by
  cases c
  · exact h' rfl
  · exact h rfl
theorem dn_ok {cx : List Nat} {fp : Fp} {log : List (Fp × Esc)} (h : clashes cx fp log = false) (b0 i : Nat) (d : Option Nat) (v : V) (σ' σ : Store) (ec : Esc) (r : List (IOper × Ord)) (tm : List V) :
    dn go G b0 i cx d (some (v, σ')) fp ec r ⟨tm, σ, log⟩ = dsteps go G b0 (i + 1) r ⟨putT tm d v, σ', log.set i (fp, ec)⟩ := by
  simp only [dn, h, Bool.false_eq_true, if_false]
theorem dop_val {b0 i : Nat} {o : Ord} {d : Option Nat} {op : IOp} {r : List (IOper × Ord)} {tm : List V} {σ : Store} {log : List (Fp × Esc)} {ov : Option V} {fp : Fp} (hc : ∀ a b c l, op ≠ .call a b c l) (ha : allocs op = false)
    (h : ev1 (rdV G tm) (!o.cx.isEmpty) σ (b0 + o.slot.getD 0) op = okV σ ov) (hf : foot (rdV G tm) (b0 + o.slot.getD 0) op = fp) (he : escOf (rdV G tm) σ (b0 + o.slot.getD 0) op = []) :
    dop go G b0 i o d op r ⟨tm, σ, log⟩ = dk go G b0 i o.cx d ov fp r ⟨tm, σ, log⟩ := by
  have e1 : dop go G b0 i o d op r ⟨tm, σ, log⟩ = if allocs op && !isFree σ[b0 + o.slot.getD 0]? then none
        else dn go G b0 i o.cx d (ev1 (rdV G tm) (!o.cx.isEmpty) σ (b0 + o.slot.getD 0) op) (foot (rdV G tm) (b0 + o.slot.getD 0) op) (escOf (rdV G tm) σ (b0 + o.slot.getD 0) op) r ⟨tm, σ, log⟩ := by
    cases op <;> first | rfl | exact absurd rfl (hc _ _ _ _)
  rw [e1, ha, h, hf, he]
  rfl

theorem dv : (∀ b0 i o d c a b r tm σ log, dop go G b0 i o d (.pick c a b) r ⟨tm, σ, log⟩ = dk go G b0 i o.cx d (pickV (rdV G tm c) (rdV G tm a) (rdV G tm b)) (Fp.nil) r ⟨tm, σ, log⟩) ∧
    (∀ b0 i o d x r tm σ log, dop go G b0 i o d (.mov x) r ⟨tm, σ, log⟩ = dk go G b0 i o.cx d (some (rdV G tm x)) (Fp.nil) r ⟨tm, σ, log⟩) ∧
    (∀ b0 i o d op x y r tm σ log, dop go G b0 i o d (.ari op x y) r ⟨tm, σ, log⟩ = dk go G b0 i o.cx d (ari op (rdV G tm x) (rdV G tm y)) (Fp.nil) r ⟨tm, σ, log⟩) ∧
    (∀ b0 i o d ng k x y r tm σ log, dop go G b0 i o d (.eq ng k x y) r ⟨tm, σ, log⟩ = dk go G b0 i o.cx d (eqW ng k (rdV G tm x) (rdV G tm y)) (Fp.nil) r ⟨tm, σ, log⟩) ∧
    (∀ b0 i o d op x r tm σ log, dop go G b0 i o d (.un op x) r ⟨tm, σ, log⟩ = dk go G b0 i o.cx d (unV op (rdV G tm x)) (Fp.nil) r ⟨tm, σ, log⟩) ∧
    (∀ b0 i o d k x r tm σ log, dop go G b0 i o d (.conv k x) r ⟨tm, σ, log⟩ = dk go G b0 i o.cx d (convV k (rdV G tm x)) (Fp.nil) r ⟨tm, σ, log⟩) ∧
    (∀ b0 i o d t x r tm σ log, dop go G b0 i o d (.mki t x) r ⟨tm, σ, log⟩ = dk go G b0 i o.cx d (some (.ifc t (rdV G tm x))) (Fp.nil) r ⟨tm, σ, log⟩) ∧
    (∀ b0 i o d t z x r tm σ log, dop go G b0 i o d (.asrt t z x) r ⟨tm, σ, log⟩ = dk go G b0 i o.cx d (asrtV t z (rdV G tm x)) (Fp.nil) r ⟨tm, σ, log⟩) ∧
    (∀ b0 i o d t x r tm σ log, dop go G b0 i o d (.asrt1 t x) r ⟨tm, σ, log⟩ = dk go G b0 i o.cx d (asrt1V t (rdV G tm x)) (Fp.nil) r ⟨tm, σ, log⟩) ∧
    (∀ b0 i o d f cs r tm σ log, dop go G b0 i o d (.mkf f cs) r ⟨tm, σ, log⟩ = dk go G b0 i o.cx d (some (.fn f (cs.map (rdV G tm)))) (Fp.nil) r ⟨tm, σ, log⟩) ∧
    (∀ b0 i o d x lo hi r tm σ log, dop go G b0 i o d (.slcs x lo hi) r ⟨tm, σ, log⟩ = dk go G b0 i o.cx d (slcsV (rdV G tm x) (lo.map (rdV G tm)) (hi.map (rdV G tm))) (Fp.nil) r ⟨tm, σ, log⟩) ∧
    (∀ b0 i o d p x r tm σ log, dop go G b0 i o d (.faddr p x) r ⟨tm, σ, log⟩ = dk go G b0 i o.cx d (faddrV p (rdV G tm x)) (Fp.nil) r ⟨tm, σ, log⟩) ∧
    (∀ b0 i o d ag n p x r tm σ log, dop go G b0 i o d (.fld ag n p x) r ⟨tm, σ, log⟩ = dk go G b0 i o.cx d (fldV ag n p (rdV G tm x)) (Fp.nil) r ⟨tm, σ, log⟩) ∧
    (∀ b0 i o d x j r tm σ log, dop go G b0 i o d (.idxs x j) r ⟨tm, σ, log⟩ = dk go G b0 i o.cx d (idxsV (rdV G tm x) (rdV G tm j)) (Fp.nil) r ⟨tm, σ, log⟩) ∧
    (∀ b0 i o d n z x j r tm σ log, dop go G b0 i o d (.aaddr n z x j) r ⟨tm, σ, log⟩ = dk go G b0 i o.cx d (aaddrV n z (rdV G tm x) (rdV G tm j)) (Fp.nil) r ⟨tm, σ, log⟩) ∧
    (∀ b0 i o d x j r tm σ log, dop go G b0 i o d (.ext x j) r ⟨tm, σ, log⟩ = dk go G b0 i o.cx d (extV (rdV G tm x) j) (Fp.nil) r ⟨tm, σ, log⟩) ∧
    (∀ b0 i o d b x r tm σ log, dop go G b0 i o d (.len b x) r ⟨tm, σ, log⟩ = dk go G b0 i o.cx d (lenV σ b (rdV G tm x)) (⟨false, (rdV G tm x).ids, []⟩) r ⟨tm, σ, log⟩) ∧
    (∀ b0 i o d xs r tm σ log, dop go G b0 i o d (.mn xs) r ⟨tm, σ, log⟩ = dk go G b0 i o.cx d (mnV (xs.map (rdV G tm))) (Fp.nil) r ⟨tm, σ, log⟩) ∧
    (∀ b0 i o d xs r tm σ log, dop go G b0 i o d (.mx xs) r ⟨tm, σ, log⟩ = dk go G b0 i o.cx d (mxV (xs.map (rdV G tm))) (Fp.nil) r ⟨tm, σ, log⟩) ∧
    (∀ b0 i o d x r tm σ log, dop go G b0 i o d (.nilck x) r ⟨tm, σ, log⟩ = dk go G b0 i o.cx d (nilckV (rdV G tm x)) (Fp.nil) r ⟨tm, σ, log⟩) ∧
    (∀ b0 i o d ag n a r tm σ log, dop go G b0 i o d (.load ag n a) r ⟨tm, σ, log⟩ = dk go G b0 i o.cx d (loadV ag (loadAt σ n (rdV G tm a))) (⟨false, (rdV G tm a).ids, []⟩) r ⟨tm, σ, log⟩) ∧
    (∀ b0 i o d z x j r tm σ log, dop go G b0 i o d (.iaddr z x j) r ⟨tm, σ, log⟩ = dk go G b0 i o.cx d (iaddrV σ z (rdV G tm x) (rdV G tm j)) (⟨false, (rdV G tm x).ids, []⟩) r ⟨tm, σ, log⟩) ∧
    (∀ b0 i o d kk ok z m k r tm σ log, dop go G b0 i o d (.lkup kk ok z m k) r ⟨tm, σ, log⟩ = dk go G b0 i o.cx d (lkV σ kk ok z (rdV G tm m) (rdV G tm k)) (⟨false, (rdV G tm m).ids, []⟩) r ⟨tm, σ, log⟩) := by
  refine ⟨?_, ?_, ?_, ?_, ?_, ?_, ?_, ?_, ?_, ?_, ?_, ?_, ?_, ?_, ?_, ?_, ?_, ?_, ?_, ?_, ?_, ?_, ?_⟩ <;> intros <;> refine dop_val (by intros; simp) rfl ?_ rfl rfl
  · exact e_pick _ _ _
  · exact rfl
  · exact rfl
  · exact e_eq _ _ _ _
  · exact rfl
  · exact e_conv _ _
  · exact rfl
  · exact e_asrt _ _ _
  · exact e_asrt1 _ _
  · exact rfl
  · exact e_slcs _ _ _
  · exact e_faddr _ _
  · exact e_fld _ _ _ _
  · exact e_idxs _ _
  · exact e_aaddr _ _ _ _
  · exact e_ext _ _
  · exact e_len _ _
  · exact e_mn _
  · exact e_mx _
  · exact e_nilck _
  · exact e_load _ _ _
  · exact e_iaddr _ _ _
  · exact e_lkup _ _ _ _ _


theorem dz : (∀ b0 i D, dsteps go G b0 i [] D = some D) ∧
    (∀ b0 i o d op r tm σ log, dgv go G b0 i o (.bool true) true d op r ⟨tm, σ, log⟩ = dop go G b0 i o d op r ⟨tm, σ, log⟩) ∧
    (∀ b0 i o d op r tm σ log, dgv go G b0 i o (.bool false) false d op r ⟨tm, σ, log⟩ = dop go G b0 i o d op r ⟨tm, σ, log⟩) ∧
    (∀ b0 i o d op r tm σ log, dgv go G b0 i o (.bool true) false d op r ⟨tm, σ, log⟩ = dn go G b0 i o.cx d (some (.skip, σ)) Fp.nil [] r ⟨tm, σ, log⟩) ∧
    (∀ b0 i o d op r tm σ log, dgv go G b0 i o (.bool false) true d op r ⟨tm, σ, log⟩ = dn go G b0 i o.cx d (some (.skip, σ)) Fp.nil [] r ⟨tm, σ, log⟩) ∧
    (∀ b0 i o b d op r tm σ log, dgv go G b0 i o .skip b d op r ⟨tm, σ, log⟩ = dn go G b0 i o.cx d (some (.skip, σ)) Fp.nil [] r ⟨tm, σ, log⟩) ∧
    (∀ b0 i cx d v fp r tm σ log, dk go G b0 i cx d (some v) fp r ⟨tm, σ, log⟩ = dn go G b0 i cx d (some (v, σ)) fp [] r ⟨tm, σ, log⟩) ∧
    (∀ b0 i o d deep keep f args r tm σ log, dop go G b0 i o d (.call deep keep f args) r ⟨tm, σ, log⟩ = dcx go G b0 i o d deep keep (rdV G tm f) (args.map (rdV G tm)) r ⟨tm, σ, log⟩) := by
  refine ⟨?_, ?_, ?_, ?_, ?_, ?_, ?_, ?_⟩ <;> intros <;> rfl

theorem dcx_pure {as caps : List V} (h : V.pureL (as ++ caps) = true) (b0 i : Nat) (o : Ord) (d : Option Nat) (deep : Bool) (k : Nat) (r : List (IOper × Ord)) (tm : List V) (σ : Store) (log : List (Fp × Esc)) :
    dcx go G b0 i o d deep false (.fn k caps) as r ⟨tm, σ, log⟩ = dca go G b0 i o.cx d [] r ⟨tm, σ, log⟩ (go (.call k (as ++ caps) [] false)) := by
  have hu : V.underL 0 (as ++ caps) = true := underL_of_pure _ h
  have hh : ∀ n, handOn n σ (as ++ caps) = some (as ++ caps, σ) := fun n => by simp only [handOn, h, if_true]
  have hids : ∀ l : List V, V.pureL l = true → l.flatMap V.ids = [] := by
    intro l
    induction l with
    | nil => intro _; rfl
    | cons v l ih =>
      intro hl
      simp only [V.pureL, Bool.and_eq_true] at hl
      rw [List.flatMap_cons, ih hl.2, List.append_nil]
      cases v <;> first | rfl | exact absurd hl.1 Bool.false_ne_true
  rw [pureL_append, Bool.and_eq_true] at h
  simp only [dcx, evCall, hh, hu, Bool.not_false, Bool.and_self, if_true]
  cases hg : go (.call k (as ++ caps) [] false) with
  | none => rfl
  | some x =>
    cases x with
    | code _ _ => rfl
    | done en _ _ =>
      cases en with
      | ret v =>
        simp only [dca]
        by_cases hv : v.under 0 = true
        · simp [hv, hids _ h.1, hids _ h.2]
        · simp [hv]
      | pan v =>
        simp only [dca]
        by_cases hv : v.under 0 = true
        · simp [hv]
        · simp [hv]
theorem dca_ret {v : V} (h : v.pure = true) (b0 i : Nat) (cx : List Nat) (d : Option Nat) (r : List (IOper × Ord)) (tm : List V) (σ : Store) (log : List (Fp × Esc)) (e' : Esc) (σ' : Store) :
    dca go G b0 i cx d [] r ⟨tm, σ, log⟩ (some (.done (.ret v) σ' e')) = dn go G b0 i cx d (some (v, σ)) Fp.nil [] r ⟨tm, σ, log⟩ := by
  simp only [dca, under_of_pure v h, if_true, Fp.nil, ite_self]
end
end Go.Ev
