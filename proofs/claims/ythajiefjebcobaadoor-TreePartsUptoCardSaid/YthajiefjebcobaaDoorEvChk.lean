/-
  When the small machine's code is the model's code, by a check that computes.
-/
import Derived.Test.YthajiefjebcobaaDoorEvRel
set_option linter.all false
namespace Go.Ev
open Go

section
variable (P : Program) (C : Cfg)

mutual
def chkV : V → Value → Bool
  | .int k n, .int k' n' => k == k' && n == n'
  | .bool b, .bool b' => b == b'
  | .str l, .string s => s.data.toList.map UInt8.toNat == l
  | .sl m [], .slice none 0 0 => m == .nil
  | .nilp, .pointer none => true
  | .nilf, .nilFunc => true
  | .nili, .nilIface => true
  | .skip, .tuple us => us.isEmpty
  | .agg cs, .agg us => chkVs cs us.toList
  | _, _ => false
def chkVs : List V → List Value → Bool
  | [], [] => true
  | v :: vs, u :: us => chkV v u && chkVs vs us
  | _, _ => false
end

def chkRd : Operand → Rd → Bool
  | .tmp t, .t n => t == n
  | .const u, .c v => chkV v u
  | .func f, .f k => C.fn k == some f
  | .global b, .g n => b == n
  | _, _ => false

def chkRds : List Operand → List Rd → Bool
  | [], [] => true
  | x :: xs, y :: ys => chkRd C x y && chkRds xs ys
  | _, _ => false

def chkRdO : Option Operand → Option Rd → Bool
  | none, none => true
  | some x, some y => chkRd C x y
  | _, _ => false

/-- A nil of the kind of a type. -/
def isConstNil (P : Program) (t : TypeId) : Rd → Bool
  | .c .nilp => match P.underlying t with | some (.pointer _) => true | _ => false
  | .c .nilf => match P.underlying t with | some (.func ..) => true | _ => false
  | .c .nili => match P.underlying t with | some (.interface _) => true | _ => false
  | .c (.sl .nil []) => match P.underlying t with | some (.slice _) => true | _ => false
  | _ => false

def szIs (t : TypeId) (n : Nat) : Bool := match P.info? t with
  | some i => i.size == n
  | none => false
def zeroIs (t : TypeId) (z : List V) : Bool := match P.info? t with
  | some i => match i.zero with
    | some u => chkVs z u.cells.toList && z.all V.isCell && u.cells.size == i.size
    | none => false
  | none => false
/-- The zero value itself. -/
def zeroV (t : TypeId) (z : V) : Bool := match P.info? t with
  | some i => match i.zero with
    | some u => chkV z u
    | none => false
  | none => false
def isAggT (t : TypeId) : Option Bool := match P.underlying t with
  | some (.struct _) | some (.array _ _) => some true
  | some _ => some false
  | none => none
def elemT (t : TypeId) : Option TypeId := match P.underlying t with
  | some (.slice e) => some e
  | _ => none
def notIface (t : TypeId) : Bool := match P.underlying t with
  | some (.interface _) => false
  | some _ => true
  | none => false

def ckIs (t : TypeId) : CK → Bool
  | .int => match P.underlying t with | some (.int _) => true | _ => false
  | .bool => match P.underlying t with | some .bool => true | _ => false
  | .str => match P.underlying t with | some .string => true | _ => false

/-- A struct of numbers, bools and texts alone. -/
def flatFields : Nat → List CK → List Field → Bool
  | _, [], [] => true
  | i, k :: ks, f :: r => f.name != "_" && f.offset == i && ckIs P f.type k && flatFields (i + 1) ks r
  | _, _, _ => false

/-- The places of a build's parts. -/
def placeOf (t : TypeId) (i : Nat) : Option (Nat × Nat) := match P.underlying t with
  | some (.struct fs) => match fs[i]? with
    | some f => match P.info? f.type with
      | some j => some (f.offset, j.size)
      | none => none
    | none => none
  | _ => none

def chkParts (t : TypeId) : List (Nat × Operand) → List (Nat × Nat × Rd) → Bool
  | [], [] => true
  | (i, x) :: r, (o, s, y) :: q => placeOf P t i == some (o, s) && chkRd C x y && chkParts t r q
  | _, _ => false

def chkElems : List (Nat × Operand) → List (Nat × Rd) → Bool
  | [], [] => true
  | (i, x) :: r, (j, y) :: q => i == j && chkRd C x y && chkElems r q
  | _, _ => false

/-- A call of a built-in. -/
def bcall : Op → Option (Builtin × List Operand × List TypeId)
  | .call { callee := .builtin b, args := as, argTypes := ts } => some (b, as.toList, ts.toList)
  | _ => none

def noDup : List Nat → Bool
  | [] => true
  | x :: r => !r.contains x && noDup r

def chkOp (o : Op) : IOp → Bool
  | .mov x => match o with
    | .move y | .assign y => chkRd C y x
    | _ => false
  | .pick c a b => match o with
    | .pick c' a' b' => chkRd C c' c && chkRd C a' a && chkRd C b' b
    | _ => false
  | .alloc cs => match o with
    | .alloc e => zeroIs P e cs
    | _ => false
  | .box _ x => match o with
    | .box _ y => chkRd C y x
    | _ => false
  | .build z ps => match o with
    | .build t qs => zeroIs P t z && (match P.underlying t with
        | some (.struct fs) => fs.toList.all fun f => (P.info? f.type).isSome
        | _ => false) && chkParts P C t qs.toList ps
    | _ => false
  | .bslice _ n esz ag z ps => match o with
    | .buildSlice t m qs => n == m && (match elemT P t with
        | some e => szIs P e esz && zeroIs P e z && isAggT P e == some ag && (0 < esz) && (ag || esz == 1) && chkElems C qs.toList ps && noDup (ps.map (·.1)) && ps.all fun p => p.1 < n
        | none => false)
    | _ => false
  | .load ag n a => match o with
    | .load t y => isAggT P t == some ag && szIs P t n && chkRd C y a && (ag || n == 1)
    | _ => false
  | .store n a v => match o with
    | .store t y z => szIs P t n && chkRd C y a && chkRd C z v
    | _ => false
  | .nilck x => match o with
    | .nilCheck y => chkRd C y x
    | _ => false
  | .ari op x y => match o with
    | .binOp op' _ x' y' _ => op == op' && chkRd C x' x && chkRd C y' y
    | _ => false
  | .eq ng .bool x y => match o with
    | .binOp op t x' y' _ => (op == (if ng then .neq else .eql)) && (match P.underlying t with | some .bool => true | _ => false) && chkRd C x' x && chkRd C y' y
    | _ => false
  | .eq ng .nil x y => match o with
    | .binOp op t x' y' _ => (op == (if ng then .neq else .eql)) && isConstNil P t y && ((chkRd C x' x && chkRd C y' y) || (chkRd C y' x && chkRd C x' y))
    | _ => false
  | .eq ng (.cells ks) x y => match o with
    | .binOp op t x' y' _ => (op == (if ng then .neq else .eql)) && !P.stoodInHeld t && !P.eqGuardType P.depth t && (match P.underlying t with
        | some (.struct fs) => flatFields P 0 ks fs.toList
        | _ => false) && chkRd C x' x && chkRd C y' y
    | _ => false
  | .un op x => match o with
    | .unOp op' _ y => op == op' && chkRd C y x
    | _ => false
  | .conv k x => match o with
    | .convert s d y => (P.underlying s).isSome && (match P.underlying d with | some (.int k') => k == k' | _ => false) && chkRd C y x
    | _ => false
  | .mki tag x => match o with
    | .makeInterface t y => C.tys[tag]? == some t && notIface P t && chkRd C y x
    | _ => false
  | .asrt tag z x => match o with
    | .typeAssert y _ t true => C.tys[tag]? == some t && notIface P t && zeroV P t z && chkRd C y x
    | _ => false
  | .asrt1 tag x => match o with
    | .typeAssert y _ t false => C.tys[tag]? == some t && notIface P t && chkRd C y x
    | _ => false
  | .mkf f cs => match o with
    | .makeFunc (.func F) first caps => C.fn f == some F && first.isEmpty && chkRds C caps.toList cs
    | _ => false
  | .slc esz x lo hi mx => match o with
    | .slice t y l h m => (match elemT P t with
        | some e => szIs P e esz
        | none => false) && chkRd C y x && chkRdO C l lo && chkRdO C h hi && chkRdO C m mx && (mx.isNone || hi.isSome)
    | _ => false
  | .slcs x lo hi => match o with
    | .slice t y l h none => (match P.underlying t with | some .string => true | _ => false) && chkRd C y x && chkRdO C l lo && chkRdO C h hi
    | _ => false
  | .faddr off x => match o with
    | .fieldAddr t y f => (match P.underlying t with
        | some (.struct fs) => match fs[f]? with
          | some fd => fd.offset == off && (match P.info? fd.type with | some i => i.size != 0 | none => false)
          | none => false
        | _ => false) && chkRd C y x
    | _ => false
  | .fld ag n off x => match o with
    | .field t y f => (match P.underlying t with
        | some (.struct fs) => match fs[f]? with
          | some fd => fd.offset == off && szIs P fd.type n && isAggT P fd.type == some ag && (ag || n == 1)
          | none => false
        | _ => false) && chkRd C y x
    | _ => false
  | .iaddr esz x i => match o with
    | .indexAddr t y j => (match elemT P t with
        | some e => szIs P e esz
        | none => false) && chkRd C y x && chkRd C j i
    | _ => false
  | .aaddr len esz x i => match o with
    | .indexAddr t y j => (match P.underlying t with
        | some (.array n e) => n == len && szIs P e esz
        | _ => false) && chkRd C y x && chkRd C j i
    | _ => false
  | .idxs x i => match o with
    | .index t y j => (match P.underlying t with | some .string => true | _ => false) && chkRd C y x && chkRd C j i
    | _ => false
  | .idxa len ag esz x i => match o with
    | .index t y j => (match P.underlying t with
        | some (.array n e) => n == len && szIs P e esz && isAggT P e == some ag && (ag || esz == 1)
        | _ => false) && chkRd C y x && chkRd C j i
    | _ => false
  | .ext x i => match o with
    | .extract y j => i == j && chkRd C y x
    | _ => false
  | .app esz bytes x y => match bcall o with
    | some (.append, [x', y'], [t, t']) => (match elemT P t with
          | some e => (match P.info? e with
            | some i => i.size == esz && i.bytes == bytes && 0 < esz && 0 < bytes && (match i.zero with | some z => z.cells.size == esz | none => false)
            | none => false)
          | none => false) && (elemT P t').isSome && chkRd C x' x && chkRd C y' y
    | _ => false
  | .len s x => match bcall o with
    | some (.len, [x'], [t]) => (match P.underlying t with | some .string => s | some (.slice _) => !s | _ => false) && chkRd C x' x
    | _ => false
  | .mn xs => match bcall o with
    | some (.min, as, _) => chkRds C as xs
    | _ => false
  | .mx xs => match bcall o with
    | some (.max, as, _) => chkRds C as xs
    | _ => false
  | .clr z x => match bcall o with
    | some (.clear, [x'], [t]) => (match elemT P t with
          | some e => zeroV P e z && szIs P e z.cells.length
          | none => false) && chkRd C x' x
    | _ => false
  | .mkmap => match o with
    | .makeMap t r => match r with
      | none => true
      | some (.const (.int _ _)) => (match P.underlying t with | some (.map _ _) => true | _ => false)
      | _ => false
    | _ => false
  | .rng x => match o with
    | .range t y => (match P.underlying t with | some .string => true | _ => false) && chkRd C y x
    | _ => false
  | .nxt it => match o with
    | .next y true => chkRd C y it
    | _ => false
  | .ins kk m k v => match o with
    | .insert t m' k' v' | .mapUpdate t m' k' v' => (match P.underlying t with
        | some (.map kt _) => ckIs P kt kk
        | _ => false) && chkRd C m' m && chkRd C k' k && chkRd C v' v
    | _ => false
  | .lkup kk ok z m k => match o with
    | .lookup t m' k' ok' => ok == ok' && (match P.underlying t with
        | some (.map kt e) => zeroV P e z && ckIs P kt kk
        | _ => false) && chkRd C m' m && chkRd C k' k
    | _ => false
  | .call _ _ f args => match o with
    | .call { callee := .value f', args := as, .. } => chkRd C f' f && chkRds C as.toList args
    | _ => false
  | .panic x => match o with
    | .panic y => chkRd C y x
    | _ => false
  | _ => false
end

/-! ### What the checks say -/
theorem bcall_eq {o : Op} {b : Builtin} {as : List Operand} {ts : List TypeId} (h : bcall o = some (b, as, ts)) :
    o = .call { callee := .builtin b, args := as.toArray, argTypes := ts.toArray } := by
  unfold bcall at h
  split at h
  · simp only [Option.some.injEq, Prod.mk.injEq] at h
    obtain ⟨rfl, rfl, rfl⟩ := h
    simp
  · cases h

section
variable {P : Program} {C : Cfg} {g : Gh} {σ : Store} {w : World}

mutual
theorem chkV_rel : ∀ {v : V} {u : Value}, chkV v u = true → VRel C g σ w v u
  | .int k n, .int k' n', h => by simp [chkV] at h; obtain ⟨rfl, rfl⟩ := h; exact .int _ _
  | .bool b, .bool b', h => by simp [chkV] at h; subst h; exact .bool _
  | .str l, .string s, h => by simp only [chkV, beq_iff_eq] at h; exact .str l s h
  | .sl m [], .slice none 0 0, h => by simp [chkV] at h; subst h; exact .slnil _ (.inl rfl)
  | .nilp, .pointer none, _ => .nilp
  | .nilf, .nilFunc, _ => .nilf
  | .nili, .nilIface, _ => .nili
  | .skip, .tuple us, h => by
    have : us = #[] := by simpa [chkV] using h
    subst this
    exact .skip
  | .agg cs, .agg us, h => by
    have h' : chkVs cs us.toList = true := by simpa [chkV] using h
    have := VRel.agg cs us.toList (chkVs_rel h')
    simpa using this
theorem chkVs_rel : ∀ {vs : List V} {us : List Value}, chkVs vs us = true → VRels C g σ w vs us
  | [], [], _ => .nil
  | v :: vs, u :: us, h => by
    simp only [chkVs, Bool.and_eq_true] at h
    exact .cons (chkV_rel h.1) (chkVs_rel h.2)
end

variable {G : List (List V)}

theorem chkRd_rel (hI : Inv C g σ w G) {tm : List V} {a : Act} (ht : VRels C g σ w tm a.tmps.toList) {x : Operand} {y : Rd} (h : chkRd C x y = true) :
    VRel C g σ w (rdV G tm y) (a.eval x) := by
  cases x <;> cases y <;> simp only [chkRd, Bool.false_eq_true] at h
  · rename_i t n
    have e : t = n := by simpa using h
    subst e
    simp only [rdV, Act.eval, List.getD_eq_getElem?_getD, Array.getD_eq_getD_getElem?]
    cases hv : tm[t]? with
    | none => exact .any _
    | some v =>
      obtain ⟨u, hu, hr⟩ := ht.get hv
      have : a.tmps[t]? = some u := by simpa using hu
      simp only [this, Option.getD_some]
      exact hr
  · exact chkV_rel h
  · rename_i b n
    have e : b = n := by simpa using h
    subst e
    simp only [rdV, Act.eval, List.getD_eq_getElem?_getD]
    cases hc : G[b]? with
    | none => exact .iptr [] _ [] .nil (fun j u hj => by simp at hj)
    | some cs => exact hI.glob b cs hc
  · rename_i f k
    have e : C.fn k = some f := by simpa using h
    exact .fn k [] f [] e .nil

theorem chkRds_rel (hI : Inv C g σ w G) {tm : List V} {a : Act} (ht : VRels C g σ w tm a.tmps.toList) : ∀ {xs : List Operand} {ys : List Rd}, chkRds C xs ys = true →
    VRels C g σ w (ys.map (rdV G tm)) (xs.map a.eval)
  | [], [], _ => .nil
  | x :: xs, y :: ys, h => by
    simp only [chkRds, Bool.and_eq_true] at h
    exact .cons (chkRd_rel hI ht h.1) (chkRds_rel hI ht h.2)
end
end Go.Ev
