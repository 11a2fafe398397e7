/-
  A small machine over plain data (slices are lists), and its fuelled interpreter: values, objects, operations, code.
-/
import GoSem.Core.View
import GoSem.Core.Ast
import GoSem.Core.Utf8
set_option linter.all false
namespace Go.Ev

/-- What is known of a slice beside its elements: nothing; nil; not nil; not nil, its capacity its length; its capacity its length, or nil. -/
inductive Md where | any | nil | some | full | lim
  deriving DecidableEq, Repr, Inhabited

inductive V where
  | any
  | skip
  | int (k : IntKind) (n : Int)
  | bool (b : Bool)
  | str (s : List Nat)
  | sl (m : Md) (xs : List V)
  | row (id gen off len : Nat)
  | ptr (id off : Nat)
  | rptr (id gen idx fo : Nat)
  | iptr (cs : List V)
  | nilp
  | fn (f : Nat) (caps : List V)
  | nilf
  | ifc (tag : Nat) (v : V)
  | nili
  | agg (cs : List V)
  | tup (vs : List V)
  | mref (id : Nat)
  deriving Repr, Inhabited

inductive Obj where
  | free
  | box (cs : List V)
  | row (gen esz frz : Nat) (xs : List V)
  | mp (es : List (V × V))
  | iter (s : List Nat) (pos : Nat)
  deriving Repr, Inhabited

abbrev Store := List Obj

def V.cells : V → List V
  | .agg cs => cs
  | v => [v]

def V.isCell : V → Bool
  | .agg _ | .tup _ | .any | .skip => false
  | _ => true

mutual
/-- No reference, no mode: the same in every state. -/
def V.pure : V → Bool
  | .any | .skip | .row .. | .ptr .. | .rptr .. | .iptr _ | .mref _ => false
  | .sl m xs => m == .any && V.pureL xs
  | .fn _ cs => V.pureL cs
  | .ifc _ v => v.pure
  | .agg cs => V.pureL cs
  | .tup cs => V.pureL cs
  | _ => true
def V.pureL : List V → Bool
  | [] => true
  | v :: l => v.pure && V.pureL l
end

mutual
/-- Every reference is to an object below n. -/
def V.under (n : Nat) : V → Bool
  | .row id .. | .ptr id _ | .rptr id .. | .mref id => id < n
  | .sl _ xs => V.underL n xs
  | .iptr cs => V.underL n cs
  | .fn _ cs => V.underL n cs
  | .ifc _ v => v.under n
  | .agg cs => V.underL n cs
  | .tup cs => V.underL n cs
  | _ => true
def V.underL (n : Nat) : List V → Bool
  | [] => true
  | v :: l => v.under n && V.underL n l
end

mutual
/-- No row within. -/
def V.norow : V → Bool
  | .row .. => false
  | .sl _ xs => V.norowL xs
  | .fn _ cs => V.norowL cs
  | .ifc _ v => v.norow
  | .agg cs => V.norowL cs
  | .tup cs => V.norowL cs
  | _ => true
def V.norowL : List V → Bool
  | [] => true
  | v :: l => v.norow && V.norowL l
end

mutual
/-- No slice within, known or not. -/
def V.flat : V → Bool
  | .any | .row .. | .iptr _ | .sl .. => false
  | .fn _ cs => V.flatL cs
  | .ifc _ v => v.flat
  | .agg cs => V.flatL cs
  | .tup cs => V.flatL cs
  | _ => true
def V.flatL : List V → Bool
  | [] => true
  | v :: l => v.flat && V.flatL l
end

/-- All of a list turned, or nothing. -/
def optAll {α β : Type} (f : α → Option β) : List α → Option (List β)
  | [] => some []
  | x :: l => match f x with
    | some y => match optAll f l with
      | some ys => some (y :: ys)
      | none => none
    | none => none

/-- A value as it is handed on: rows as they stand, modes forgotten. -/
def snap : Nat → Store → V → Option V
  | 0, _, v => if v.pure then some v else none
  | n + 1, σ, v => if v.pure then some v else match v with
    | .row id g off len => match σ[id]? with
      | some (.row gen _ _ xs) =>
        if g = gen then
          match (if V.pureL ((xs.drop off).take len) then some ((xs.drop off).take len) else optAll (snap n σ) ((xs.drop off).take len)) with
          | some ys => some (.sl .any ys)
          | none => none
        else none
      | _ => none
    | .sl _ xs => some (.sl .any xs)
    | .agg cs => match optAll (snap n σ) cs with | some l => some (.agg l) | none => none
    | .tup cs => match optAll (snap n σ) cs with | some l => some (.tup l) | none => none
    | .ifc t u => match snap n σ u with | some u => some (.ifc t u) | none => none
    | .fn f cs => match optAll (snap n σ) cs with | some l => some (.fn f l) | none => none
    | .any | .skip => none
    | v => some v

/-- Rows that were handed on may no longer be written, as far as they were seen. -/
def frzRow (id upto : Nat) (σ : Store) : Store :=
  match σ[id]? with
  | some (.row gen esz frz xs) => σ.set id (.row gen esz (max frz (min upto xs.length)) xs)
  | _ => σ

def frz : Nat → V → Store → Store
  | 0, _, σ => σ
  | n + 1, v, σ => if v.norow then σ else match v with
    | .row id _ off len =>
      let σ' := frzRow id (off + len) σ
      match σ[id]? with
      | some (.row _ _ _ xs) => if V.norowL xs then σ' else xs.foldl (fun s x => frz n x s) σ'
      | _ => σ'
    | .sl _ xs => xs.foldl (fun s x => frz n x s) σ
    | .agg cs | .tup cs | .fn _ cs => cs.foldl (fun s x => frz n x s) σ
    | .ifc _ u => frz n u σ
    | _ => σ

/-- How deep rows of rows are. -/
abbrev DEEP : Nat := 12

/-- The most elements that a slice may have, the most bytes of a text. -/
abbrev LIM : Nat := 1099511627776

inductive Rd where
  | t (n : Nat)
  | c (v : V)
  | f (n : Nat)
  | g (n : Nat)
  deriving Repr, Inhabited

/-- The kind of a cell of a struct that is compared. -/
inductive CK where | int | bool | str
  deriving DecidableEq, Repr, Inhabited

/-- What '==' holds against each other. -/
inductive EqK where | bool | nil | cells (ks : List CK)
  deriving DecidableEq, Repr, Inhabited

inductive IOp where
  | mov (x : Rd)
  | pick (c a b : Rd)
  | alloc (cs : List V)
  | box (n : Nat) (x : Rd)
  | build (zero : List V) (parts : List (Nat × Nat × Rd))
  | bslice (mu : Bool) (n esz : Nat) (ag : Bool) (zero : List V) (parts : List (Nat × Rd))
  | load (ag : Bool) (n : Nat) (a : Rd)
  | store (n : Nat) (a v : Rd)
  | nilck (x : Rd)
  | ari (op : BinOp) (x y : Rd)
  | eq (ng : Bool) (k : EqK) (x y : Rd)
  | un (op : UnOp) (x : Rd)
  | conv (k : IntKind) (x : Rd)
  | mki (tag : Nat) (x : Rd)
  | asrt (tag : Nat) (zero : V) (x : Rd)
  | asrt1 (tag : Nat) (x : Rd)
  | mkf (f : Nat) (caps : List Rd)
  | slc (esz : Nat) (x : Rd) (lo hi mx : Option Rd)
  | slcs (x : Rd) (lo hi : Option Rd)
  | faddr (off : Nat) (x : Rd)
  | fld (ag : Bool) (n off : Nat) (x : Rd)
  | iaddr (esz : Nat) (x i : Rd)
  | aaddr (len esz : Nat) (x i : Rd)
  | idxs (x i : Rd)
  | idxa (len : Nat) (ag : Bool) (esz : Nat) (x i : Rd)
  | ext (x : Rd) (i : Nat)
  | app (esz bytes : Nat) (x y : Rd)
  | len (s : Bool) (x : Rd)
  | mn (xs : List Rd)
  | mx (xs : List Rd)
  | clr (zero : V) (x : Rd)
  | mkmap
  | ins (kk : CK) (m k v : Rd)
  | lkup (kk : CK) (ok : Bool) (zero : V) (m k : Rd)
  | rng (x : Rd)
  | nxt (it : Rd)
  | call (deep keep : Bool) (f : Rd) (args : List Rd)
  | panic (x : Rd)
  | defer (f : Rd) (args : List Rd)
  | recover
  deriving Repr, Inhabited

def IOp.rds : IOp → List Rd
  | .mov x | .box _ x | .load _ _ x | .nilck x | .un _ x | .conv _ x | .mki _ x | .asrt _ _ x | .asrt1 _ x | .faddr _ x | .fld _ _ _ x | .ext x _ | .len _ x | .clr _ x | .rng x | .nxt x | .panic x => [x]
  | .pick a b d => [a, b, d]
  | .alloc _ | .mkmap | .recover => []
  | .build _ ps => ps.map fun p => p.2.2
  | .bslice _ _ _ _ _ ps => ps.map fun p => p.2
  | .store _ a b | .ari _ a b | .eq _ _ a b | .iaddr _ a b | .aaddr _ _ a b | .idxs a b | .idxa _ _ _ a b | .app _ _ a b | .lkup _ _ _ a b => [a, b]
  | .mkf _ cs => cs
  | .slc _ x a b d => x :: (a.toList ++ b.toList ++ d.toList)
  | .slcs x a b => x :: (a.toList ++ b.toList)
  | .mn xs | .mx xs => xs
  | .ins _ a b d => [a, b, d]
  | .call _ _ x as | .defer x as => x :: as

structure IOper where
  dst : Option Nat
  op : IOp
  gd : Option (Nat × Bool) := none
  deriving Repr, Inhabited

/-- Of an operation of a region that draws its order: which ones are ahead of it for sure; with which it may collide; the place of what it makes. -/
structure Ord where
  aft : List Nat
  cx : List Nat
  slot : Option Nat
  deriving Repr, Inhabited

inductive IC where
  | skip
  | reg (ops : List IOper)
  | dreg (m : Nat) (ops : List (IOper × Ord))
  | seq (a b : IC)
  | cond (c : Rd) (a b : IC)
  | block (id : Nat) (c : IC)
  | loop (lv : List Nat) (c : IC)
  | exit (id : Nat)
  | ret
  | kill (ds : List Nat) (c : IC)
  deriving Repr, Inhabited

inductive IRes where
  | t (n : Nat)
  | cell (a : Nat) (ag : Bool) (n : Nat)
  deriving Repr, Inhabited

/-- A function; defers: it defers calls; split: an empty slice may be nil or not, it's looked at both ways. -/
structure IFun where
  ntmps : Nat
  res : List IRes
  body : IC
  defers : Bool := false
  split : Bool := false
  deriving Repr, Inhabited

def rdV (G : List (List V)) (tm : List V) : Rd → V
  | .t n => tm.getD n .any
  | .c v => v
  | .f n => .fn n []
  | .g n => .iptr (G.getD n [])

/-! ### Plain helpers -/

def setCells {α : Type} (cs : List α) (off : Nat) (vs : List α) : List α :=
  match vs with
  | [] => cs
  | v :: r => setCells (cs.set off v) (off + 1) r

def grp (ag : Bool) (cs : List V) : V :=
  if ag then .agg cs else cs.headD .any

def fillParts (cs : List V) : List (Nat × Nat × V) → Option (List V)
  | [] => some cs
  | (off, sz, v) :: r => if v.cells.length = sz ∧ off + sz ≤ cs.length ∧ v.cells.all V.isCell then fillParts (setCells cs off v.cells) r else none

def ariI (op : BinOp) (k : IntKind) (a b : Int) : Option V :=
  match op with
  | .add => some (.int k (k.wrap (a + b)))
  | .sub => some (.int k (k.wrap (a - b)))
  | .mul => some (.int k (k.wrap (a * b)))
  | .quo => if b = 0 then none else some (.int k (k.wrap (a.tdiv b)))
  | .rem => if b = 0 then none else some (.int k (a.tmod b))
  | .and => some (.int k (k.wrap (BitVec.ofInt k.bits a &&& BitVec.ofInt k.bits b).toNat))
  | .or => some (.int k (k.wrap (BitVec.ofInt k.bits a ||| BitVec.ofInt k.bits b).toNat))
  | .xor => some (.int k (k.wrap (BitVec.ofInt k.bits a ^^^ BitVec.ofInt k.bits b).toNat))
  | .andNot => some (.int k (k.wrap (BitVec.ofInt k.bits a &&& ~~~BitVec.ofInt k.bits b).toNat))
  | .eql => some (.bool (a == b))
  | .neq => some (.bool (a != b))
  | .lss => some (.bool (a < b))
  | .leq => some (.bool (a ≤ b))
  | .gtr => some (.bool (a > b))
  | .geq => some (.bool (a ≥ b))
  | _ => none

def ltS : List Nat → List Nat → Bool
  | _, [] => false
  | [], _ :: _ => true
  | a :: x, b :: y => a < b || (a == b && ltS x y)

def ariS (op : BinOp) (a b : List Nat) : Option V :=
  match op with
  | .add => if a.length + b.length < LIM then some (.str (a ++ b)) else none
  | .eql => some (.bool (a == b))
  | .neq => some (.bool (!(a == b)))
  | .lss => some (.bool (ltS a b))
  | .leq => some (.bool (ltS a b || a == b))
  | .gtr => some (.bool (!(ltS a b || a == b)))
  | .geq => some (.bool (!(ltS a b)))
  | _ => none

def ari (op : BinOp) : V → V → Option V
  | .int k a, .int k' b =>
    match op with
    | .shl => if b < 0 then none else some (.int k (k.wrap (a * 2 ^ (min b.toNat k.bits))))
    | .shr => if b < 0 then none else some (.int k (a.fdiv (2 ^ (min b.toNat k.bits))))
    | _ => if k = k' then ariI op k a b else none
  | .str a, .str b => ariS op a b
  | _, _ => none

/-- Cells of one kind each. -/
def eqCells : List CK → List V → List V → Option Bool
  | [], [], [] => some true
  | .int :: ks, .int k a :: r, .int k' b :: s => if k = k' then (match eqCells ks r s with | some x => some (a == b && x) | none => none) else none
  | .bool :: ks, .bool a :: r, .bool b :: s => match eqCells ks r s with | some x => some (a == b && x) | none => none
  | .str :: ks, .str a :: r, .str b :: s => match eqCells ks r s with | some x => some (a == b && x) | none => none
  | _, _, _ => none

def isNil : V → Option Bool
  | .nilp | .nilf | .nili => some true
  | .ptr .. | .rptr .. | .iptr _ | .fn .. | .ifc .. | .mref _ | .row .. => some false
  | .sl m xs => match m with
    | .nil => some true
    | .any | .lim => if xs.isEmpty then none else some false
    | _ => some false
  | _ => none

def eqV (k : EqK) (x y : V) : Option Bool :=
  match k with
  | .bool => match x, y with
    | .bool a, .bool b => some (a == b)
    | _, _ => none
  | .nil => match y, x with
    | .nilp, .nilp | .nilf, .nilf | .nili, .nili => some true
    | .nilp, .ptr .. | .nilp, .rptr .. | .nilp, .iptr _ | .nilf, .fn .. | .nili, .ifc .. | .sl .nil [], .row .. => some false
    | .sl .nil [], .sl m xs => isNil (.sl m xs)
    | _, _ => none
  | .cells ks => match x, y with
    | .agg cs, .agg ds => eqCells ks cs ds
    | _, _ => none

def unV (op : UnOp) : V → Option V
  | .int k n => match op with
    | .neg => some (.int k (k.wrap (0 - n)))
    | _ => none
  | .bool b => match op with
    | .not => some (.bool (!b))
    | _ => none
  | _ => none

/-- A bound of a slice, or what stands for it. -/
def bnd (d : Nat) : Option V → Option Nat
  | none => some d
  | some (.int _ i) => if 0 ≤ i then some i.toNat else none
  | _ => none

def slcMode (m : Md) (hi n : Nat) (mx : Option Nat) : Md :=
  match m with
  | .nil => .nil
  | .any => match mx with
    | some x => if x = hi then .lim else .any
    | none => .any
  | .lim => if hi = n then .lim else match mx with
    | some x => if x = hi then .lim else .any
    | none => .any
  | .full => if hi = n then .full else match mx with
    | some x => if x = hi then .full else .some
    | none => .some
  | .some => match mx with
    | some x => if x = hi then .full else .some
    | none => .some

/-- Into an object's cells: what stands at a pointer. -/
def loadAt (σ : Store) (n : Nat) : V → Option (List V)
  | .ptr id off => match σ[id]? with
    | some (.box cs) => if off + n ≤ cs.length then some ((cs.drop off).take n) else none
    | _ => none
  | .rptr id g idx fo => match σ[id]? with
    | some (.row gen _ _ xs) => if g = gen then
        match xs[idx]? with
        | some x => if fo + n ≤ x.cells.length then some ((x.cells.drop fo).take n) else none
        | none => none
      else none
    | _ => none
  | .iptr cs => if n ≤ cs.length then some (cs.take n) else none
  | _ => none

def putElem (x : V) (fo : Nat) (vs : List V) : V :=
  match x with
  | .agg cs => .agg (setCells cs fo vs)
  | _ => vs.headD x

def storeAt (σ : Store) (n : Nat) (a v : V) : Option (Nat × Obj) :=
  if v.cells.length = n ∧ v.cells.all V.isCell then
    match a with
    | .ptr id off => match σ[id]? with
      | some (.box cs) => if off + n ≤ cs.length then some (id, .box (setCells cs off v.cells)) else none
      | _ => none
    | .rptr id g idx fo => match σ[id]? with
      | some (.row gen esz fz xs) => if g = gen ∧ fz ≤ idx then
          match xs[idx]? with
          | some x => if fo + n ≤ x.cells.length then some (id, .row gen esz fz (xs.set idx (putElem x fo v.cells))) else none
          | none => none
        else none
      | _ => none
    | _ => none
  else none

def kEq : CK → V → V → Option Bool
  | .int, .int k a, .int k' b => if k = k' then some (a == b) else none
  | .str, .str a, .str b => some (a == b)
  | .bool, .bool a, .bool b => some (a == b)
  | _, _, _ => none

def mpFind (kk : CK) (k : V) : List (V × V) → Option (Option V)
  | [] => some none
  | (x, v) :: r => match kEq kk k x with
    | some true => some (some v)
    | some false => mpFind kk k r
    | none => none

def ones (l : List V) (e : Nat) : Bool := l.all fun v => v.cells.length == e && v.cells.all V.isCell

/-- Elements that are handed on into a row or a slice: rows in them as they stand. -/
def elemsOf (σ : Store) : V → Option (List V)
  | .sl _ xs => some xs
  | .row id g off len => match σ[id]? with
    | some (.row gen _ _ xs) => if g = gen then some ((xs.drop off).take len) else none
    | _ => none
  | _ => none

/-- Where a new object goes. -/
def Store.put (σ : Store) (id : Nat) (o : Obj) : Store := if id = σ.length then σ ++ [o] else σ.set id o

def foldMn : Int → List V → Option Int
  | m, [] => some m
  | m, .int _ y :: r => foldMn (if y < m then y else m) r
  | _, _ => none
def foldMx : Int → List V → Option Int
  | m, [] => some m
  | m, .int _ y :: r => foldMx (if y > m then y else m) r
  | _, _ => none

/-- A row of what has no rows within, or no row at all. -/
def oneRow (σ : Store) : V → Bool
  | .row id .. => match σ[id]? with
    | some (.row _ _ _ xs) => V.norowL xs
    | _ => false
  | v => v.norow

/-- Hand values on: as they stand, and what is frozen by it; d: how deep rows may be (0: none; 1: one). -/
def handOn (d : Nat) (σ : Store) (vs : List V) : Option (List V × Store) :=
  if V.pureL vs then some (vs, σ)
  else if (d == 0 && !V.norowL vs) || (d == 1 && !vs.all (oneRow σ)) then none
  else match optAll (snap DEEP σ) vs with
    | some l => some (l, vs.foldl (fun s x => frz DEEP x s) σ)
    | none => none

/-- A value and the store behind it. -/
def okV (σ : Store) : Option V → Option (V × Store)
  | some v => some (v, σ)
  | none => none

def firstIs (esz : Nat) : List V → Bool
  | [] => true
  | x :: _ => x.cells.length == esz

/-- The rune that stands at a place of a text, how many bytes it takes. -/
def runeAt (s : List Nat) (i : Nat) : Nat × Nat := Utf8.decode ⟨(s.map UInt8.ofNat).toArray⟩ i

/-- One operation that is no call: dr: in a region that draws; nid: the number of what it makes. -/
def ev1 (r : Rd → V) (dr : Bool) (σ : Store) (nid : Nat) : IOp → Option (V × Store)
  | .mov x => some (r x, σ)
  | .pick c a b => match r c with
    | .bool true => some (r a, σ)
    | .bool false => some (r b, σ)
    | _ => none
  | .alloc cs => some (.ptr nid 0, σ.put nid (.box cs))
  | .box n x => if (r x).cells.length = n ∧ (r x).cells.all V.isCell then some (.ptr nid 0, σ.put nid (.box (r x).cells)) else none
  | .build z ps => okV σ ((fillParts z (ps.map fun (o, s, x) => (o, s, r x))).map .agg)
  | .bslice mu n esz ag z ps =>
    let vs := ps.foldl (fun l p => l.set p.1 (r p.2)) (List.replicate n (grp ag z))
    if ones vs esz && n * esz < 16777216 then
      if mu then some (.row nid 0 0 n, σ.put nid (.row 0 esz 0 vs))
      else match handOn (if dr then 0 else DEEP) σ vs with
        | some (l, σ') => some (.sl .full l, σ')
        | none => none
    else none
  | .load ag n a => match loadAt σ n (r a) with
    | some cs => if ag then some (.agg cs, σ) else match cs with
      | [c] => some (c, σ)
      | _ => none
    | none => none
  | .store n a v => match storeAt σ n (r a) (r v) with
    | some (id, o) => some (.skip, σ.set id o)
    | none => none
  | .nilck x => match isNil (r x) with
    | some false => some (r x, σ)
    | _ => none
  | .ari op x y => okV σ (ari op (r x) (r y))
  | .eq ng k x y => match eqV k (r x) (r y) with
    | some b => some (.bool (if ng then !b else b), σ)
    | none => none
  | .un op x => okV σ (unV op (r x))
  | .conv k x => match r x with
    | .int _ n => some (.int k (k.wrap n), σ)
    | _ => none
  | .mki tag x => some (.ifc tag (r x), σ)
  | .asrt tag z x => match r x with
    | .nili => some (.tup [z, .bool false], σ)
    | .ifc t v => if t = tag then some (.tup [v, .bool true], σ) else some (.tup [z, .bool false], σ)
    | _ => none
  | .asrt1 tag x => match r x with
    | .ifc t v => if t = tag then some (v, σ) else none
    | _ => none
  | .mkf f cs => some (.fn f (cs.map r), σ)
  | .slc esz x lo hi mx => match r x with
    | .sl m xs => match bnd 0 (lo.map r), bnd xs.length (hi.map r), bnd xs.length (mx.map r) with
      | some l, some h, some y =>
        if l ≤ h ∧ h ≤ y ∧ y ≤ xs.length ∧ (m = .nil → xs.length = 0) ∧ firstIs esz xs then
          some (.sl (slcMode m h xs.length (if mx.isSome then some y else none)) ((xs.drop l).take (h - l)), σ)
        else none
      | _, _, _ => none
    | .row id g off n => match σ[id]? with
      | some (.row gen es _ xs) => match bnd 0 (lo.map r), bnd n (hi.map r), bnd n (mx.map r) with
        | some l, some h, some y =>
          if g = gen ∧ es = esz ∧ l ≤ h ∧ h ≤ y ∧ y ≤ n ∧ off + n ≤ xs.length then
            if mx.isSome then
              if y = h then
                match handOn (if dr then 1 else DEEP) σ [.row id g (off + l) (h - l)] with
                | some ([.sl _ ys], σ') => some (.sl .full ys, σ')
                | _ => none
              else none
            else if l < n then some (.row id g (off + l) (h - l), σ)
            else some (.sl .some [], σ)
          else none
        | _, _, _ => none
      | _ => none
    | _ => none
  | .slcs x lo hi => match r x with
    | .str s => match bnd 0 (lo.map r), bnd s.length (hi.map r) with
      | some l, some h => if l ≤ h ∧ h ≤ s.length then some (.str ((s.drop l).take (h - l)), σ) else none
      | _, _ => none
    | _ => none
  | .faddr off x => match r x with
    | .ptr id o => some (.ptr id (o + off), σ)
    | .rptr id g i fo => some (.rptr id g i (fo + off), σ)
    | .iptr cs => some (.iptr (cs.drop off), σ)
    | _ => none
  | .fld ag n off x => match r x with
    | .agg cs => if off + n ≤ cs.length then
        if ag then some (.agg ((cs.drop off).take n), σ) else match cs[off]? with
          | some v => some (v, σ)
          | none => none
      else none
    | _ => none
  | .iaddr esz x i => match r x, r i with
    | .sl _ xs, .int _ k => if 0 ≤ k then match xs[k.toNat]? with
        | some v => if v.cells.length = esz then some (.iptr v.cells, σ) else none
        | none => none
      else none
    | .row id g off n, .int _ k => match σ[id]? with
      | some (.row gen es _ xs) => if g = gen ∧ es = esz ∧ 0 ≤ k ∧ k < n ∧ off + n ≤ xs.length then some (.rptr id g (off + k.toNat) 0, σ) else none
      | _ => none
    | _, _ => none
  | .aaddr len esz x i => match r x, r i with
    | .iptr cs, .int _ k => if 0 ≤ k ∧ k < len then some (.iptr (cs.drop (k.toNat * esz)), σ) else none
    | .ptr id o, .int _ k => if 0 ≤ k ∧ k < len then some (.ptr id (o + k.toNat * esz), σ) else none
    | _, _ => none
  | .idxs x i => match r x, r i with
    | .str s, .int _ k => if 0 ≤ k then match s[k.toNat]? with
        | some b => some (.int .u8 b, σ)
        | none => none
      else none
    | _, _ => none
  | .idxa len ag esz x i => match r x, r i with
    | .agg cs, .int _ k => if 0 ≤ k ∧ k < len ∧ k.toNat * esz + esz ≤ cs.length then
        if ag then some (.agg ((cs.drop (k.toNat * esz)).take esz), σ) else match cs[k.toNat * esz]? with
          | some v => some (v, σ)
          | none => none
      else none
    | _, _ => none
  | .ext x i => match r x with
    | .tup vs => match vs[i]? with
      | some v => some (v, σ)
      | none => none
    | _ => none
  | .app esz bytes x y => match elemsOf σ (r y) with
    | none => none
    | some es => match handOn (if dr then 0 else DEEP) σ es with
      | none => none
      | some (ns, σ1) =>
        if ones ns esz then
          match r x with
          | .row id g off n => match σ1[id]? with
            | some (.row gen es fz xs) =>
              if g = gen ∧ es = esz ∧ off = 0 ∧ n ≤ xs.length ∧ (n + ns.length) * bytes < LIM then
                if ns.isEmpty then some (.row id g 0 n, σ1)
                else if n + ns.length ≤ xs.length then
                  if fz ≤ n then some (.row id g 0 (n + ns.length), σ1.set id (.row gen es fz (xs.take n ++ ns ++ xs.drop (n + ns.length)))) else none
                else if n = xs.length then some (.row id (gen + 1) 0 (n + ns.length), σ1.set id (.row (gen + 1) es fz (xs ++ ns)))
                else none
              else none
            | _ => none
          | .sl m xs =>
            if (m = .nil ∧ xs.length = 0 ∨ m = .full ∨ m = .lim) ∧ (xs.length + ns.length) * bytes < LIM then
              if ns.isEmpty then some (.sl m xs, σ1)
              else if ones xs esz then some (.row nid 0 0 (xs.length + ns.length), σ1.put nid (.row 0 esz 0 (xs ++ ns)))
              else none
            else none
          | _ => none
        else none
  | .len st x => match st, r x with
    | true, .str s => some (.int .i64 s.length, σ)
    | false, .sl _ xs => some (.int .i64 xs.length, σ)
    | false, .row id g off n => match σ[id]? with
      | some (.row gen _ _ _) => if g = gen then some (.int .i64 n, σ) else none
      | _ => none
    | _, _ => none
  | .mn xs => match xs.map r with
    | .int k a :: l => okV σ ((foldMn a l).map (.int k))
    | _ => none
  | .mx xs => match xs.map r with
    | .int k a :: l => okV σ ((foldMx a l).map (.int k))
    | _ => none
  | .clr z x => match r x with
    | .sl _ [] => some (.tup [], σ)
    | .row id g off n => match σ[id]? with
      | some (.row gen es fz xs) =>
        if g = gen ∧ fz ≤ off ∧ off + n ≤ xs.length ∧ z.cells.length = es ∧ z.cells.all V.isCell then
          some (.tup [], σ.set id (.row gen es fz (xs.take off ++ List.replicate n z ++ xs.drop (off + n))))
        else none
      | _ => none
    | _ => none
  | .mkmap => some (.mref nid, σ.put nid (.mp []))
  | .ins kk m k v => match r m with
    | .mref id => match σ[id]? with
      | some (.mp es) => match mpFind kk (r k) es with
        | some none => some (.skip, σ.set id (.mp (es ++ [(r k, r v)])))
        | _ => none
      | _ => none
    | _ => none
  | .lkup kk ok z m k => match r m with
    | .mref id => match σ[id]? with
      | some (.mp es) => match mpFind kk (r k) es with
        | some (some v) => some (if ok then .tup [v, .bool true] else v, σ)
        | some none => some (if ok then .tup [z, .bool false] else z, σ)
        | none => none
      | _ => none
    | _ => none
  | .rng x => match r x with
    | .str s => some (.mref nid, σ.put nid (.iter s 0))
    | _ => none
  | .nxt it => match r it with
    | .mref id => match σ[id]? with
      | some (.iter s pos) =>
        if pos < s.length then some (.tup [.bool true, .int .i64 pos, .int .i32 (runeAt s pos).1], σ.set id (.iter s (pos + (runeAt s pos).2)))
        else some (.tup [.bool false], σ)
      | _ => none
    | _ => none
  | _ => none

mutual
/-- Every reference is to an object below this. -/
def V.top : V → Nat
  | .row id .. | .ptr id _ | .rptr id .. | .mref id => id + 1
  | .sl _ xs => V.topL xs
  | .iptr cs => V.topL cs
  | .fn _ cs => V.topL cs
  | .ifc _ v => v.top
  | .agg cs => V.topL cs
  | .tup cs => V.topL cs
  | _ => 0
def V.topL : List V → Nat
  | [] => 0
  | v :: l => max v.top (V.topL l)
end

/-- References into younger objects: from where, to below where. -/
abbrev Esc := List (Nat × Nat)

def esc1 (id t : Nat) : Esc := if t ≤ id + 1 then [] else [(id, t)]

def broken (e : Esc) (b : Nat) : Bool := e.any fun p => p.1 < b && b < p.2

def Obj.under (n : Nat) : Obj → Bool
  | .free => true
  | .box cs => V.underL n cs
  | .row _ _ _ xs => V.underL n xs
  | .mp es => es.all fun (k, v) => k.under n && v.under n
  | .iter .. => true

def V.ids : V → List Nat
  | .row id .. | .ptr id _ | .rptr id .. | .mref id => [id]
  | _ => []

/-- What an operation puts where. -/
def escOf (r : Rd → V) (σ : Store) (nid : Nat) : IOp → Esc
  | .alloc cs => esc1 nid (V.topL cs)
  | .box _ x => esc1 nid (r x).top
  | .bslice mu _ _ _ z ps => if mu then esc1 nid (max (V.topL z) (V.topL (ps.map fun p => r p.2))) else []
  | .store _ a v => match (r a).ids with
    | [id] => esc1 id (r v).top
    | _ => []
  | .app _ _ x y =>
    let t := match elemsOf σ (r y) with
      | some es => if V.norowL es then V.topL es else max σ.length (V.topL es)
      | none => 0
    match r x with
    | .row id .. => esc1 id t
    | .sl _ xs => esc1 nid (max t (V.topL xs))
    | _ => []
  | .clr z x => match (r x).ids with
    | [id] => esc1 id z.top
    | _ => []
  | .ins _ m k v => match (r m).ids with
    | [id] => esc1 id (max (r k).top (r v).top)
    | _ => []
  | _ => []

/-- How code ends. -/
inductive X where
  | norm | exit (id : Nat) | ret | pan (v : V)
  deriving Repr, Inhabited

/-- How a call ends. -/
inductive End where
  | ret (v : V)
  | pan (v : V)
  deriving Repr, Inhabited

structure St where
  tm : List V
  σ : Store
  esc : Esc
  deriving Repr, Inhabited

def putT (tm : List V) (d : Option Nat) (v : V) : List V :=
  match d with
  | none => tm
  | some d => tm.set d v

inductive Job where
  | call (f : Nat) (args : List V) (σ : Store) (keep : Bool)
  | loop (lv : List Nat) (c : IC) (s : St)

inductive Res where
  | done (e : End) (σ : Store) (esc : Esc)
  | code (x : X) (s : St)
  deriving Repr, Inhabited

/-- Is an operation carried out? (none: not known) -/
def wanted (tm : List V) : Option (Nat × Bool) → Option Bool
  | none => some true
  | some (t, b) => match tm.getD t .any with
    | .bool c => some (c == b)
    | .skip => some false
    | _ => none

/-- What a call comes to: the result, the store behind it, what it put where; was the store handed to it? -/
def evCall (go : Job → Option Res) (deep keep : Bool) (fv : V) (args : List V) (dr : Bool) (σ : Store) : Option (End × Store × Esc × Bool) :=
  match fv with
  | .fn f caps => match handOn (if dr then 1 else DEEP) σ (args ++ caps) with
      | none => none
      | some (as, σ1) =>
        if V.underL 0 as && !keep then
          match go (.call f as [] false) with
          | some (.done (.ret v) _ _) => if v.under 0 then some (.ret v, if v.flat then σ else σ1, [], false) else none
          | some (.done (.pan v) _ _) => if v.under 0 then some (.pan v, σ1, [], false) else none
          | _ => none
        else if deep then
          match go (.call f as σ1 keep) with
          | some (.done e σ2 ec) => some (e, σ2, ec, true)
          | _ => none
        else none
  | _ => none

def evOps (go : Job → Option Res) (G : List (List V)) : List IOper → St → Option (X × St)
  | [], s => some (.norm, s)
  | o :: rest, s => match wanted s.tm o.gd with
    | none => none
    | some false => evOps go G rest { s with tm := putT s.tm o.dst .skip }
    | some true => match o.op with
      | .call deep keep f args => match evCall go deep keep (rdV G s.tm f) (args.map (rdV G s.tm)) false s.σ with
        | some (.ret v, σ', ec, _) => evOps go G rest ⟨putT s.tm o.dst v, σ', s.esc ++ ec⟩
        | some (.pan v, σ', ec, _) => some (.pan v, ⟨s.tm, σ', s.esc ++ ec⟩)
        | none => none
      | .panic x => match rdV G s.tm x with
        | .ifc t v => some (.pan (.ifc t v), s)
        | _ => none
      | op => match ev1 (rdV G s.tm) false s.σ s.σ.length op with
        | some (v, σ') => evOps go G rest ⟨putT s.tm o.dst v, σ', s.esc ++ escOf (rdV G s.tm) s.σ s.σ.length op⟩
        | none => none

/-! ### Regions that draw their order -/

mutual
def V.same : V → V → Bool
  | .any, .any | .skip, .skip | .nilp, .nilp | .nilf, .nilf | .nili, .nili => true
  | .int k a, .int k' b => k == k' && a == b
  | .bool a, .bool b => a == b
  | .str a, .str b => a == b
  | .sl m xs, .sl m' ys => m == m' && V.sameL xs ys
  | .row a b c d, .row a' b' c' d' => a == a' && b == b' && c == c' && d == d'
  | .ptr a b, .ptr a' b' => a == a' && b == b'
  | .rptr a b c d, .rptr a' b' c' d' => a == a' && b == b' && c == c' && d == d'
  | .iptr xs, .iptr ys => V.sameL xs ys
  | .fn f xs, .fn g ys => f == g && V.sameL xs ys
  | .ifc t v, .ifc u w => t == u && V.same v w
  | .agg xs, .agg ys => V.sameL xs ys
  | .tup xs, .tup ys => V.sameL xs ys
  | .mref a, .mref b => a == b
  | _, _ => false
def V.sameL : List V → List V → Bool
  | [], [] => true
  | x :: xs, y :: ys => V.same x y && V.sameL xs ys
  | _, _ => false
end

def Obj.same : Obj → Obj → Bool
  | .free, .free => true
  | .box a, .box b => V.sameL a b
  | .row a b c xs, .row a' b' c' ys => a == a' && b == b' && c == c' && V.sameL xs ys
  | _, _ => false

/-- Which objects something looks at (all: every one), which it changes. -/
structure Fp where
  all : Bool
  R : List Nat
  W : List Nat
  deriving Repr, Inhabited

def Fp.nil : Fp := ⟨false, [], []⟩

def foot (r : Rd → V) (nid : Nat) : IOp → Fp
  | .load _ _ a => ⟨false, (r a).ids, []⟩
  | .store _ a _ => ⟨false, [], (r a).ids⟩
  | .app _ _ x y => ⟨false, (r y).ids, nid :: (r x).ids⟩
  | .slc _ x _ _ mx => ⟨false, (r x).ids, if mx.isSome then (r x).ids else []⟩
  | .iaddr _ x _ | .len _ x => ⟨false, (r x).ids, []⟩
  | .clr _ x => ⟨false, [], (r x).ids⟩
  | .ins _ m _ _ => ⟨false, [], (r m).ids⟩
  | .lkup _ _ _ m _ => ⟨false, (r m).ids, []⟩
  | .alloc _ | .box _ _ | .mkmap | .rng _ => ⟨false, [], [nid]⟩
  | .nxt it => ⟨false, [], (r it).ids⟩
  | .bslice mu .. => if mu then ⟨false, [], [nid]⟩ else Fp.nil
  | _ => Fp.nil

def meets (a b : List Nat) : Bool := a.any fun x => b.contains x

def clash (a b : Fp) : Bool := meets a.W b.R || meets a.W b.W || meets a.R b.W || (a.all && !b.W.isEmpty) || (b.all && !a.W.isEmpty)

/-- Objects that are no longer the same. -/
def changed : Nat → Store → Store → List Nat
  | k, a :: as, b :: bs => if Obj.same a b then changed (k + 1) as bs else k :: changed (k + 1) as bs
  | _, _, _ => []

def isFree : Option Obj → Bool
  | some .free => true
  | _ => false

def allocs : IOp → Bool
  | .alloc _ | .box .. | .mkmap | .app .. | .rng _ => true
  | .bslice mu .. => mu
  | _ => false

structure DSt where
  tm : List V
  σ : Store
  log : List (Fp × Esc)

/-- One operation in a region that draws: what it yields, the store behind it, what it touches; b0: the store's length ahead of the region. -/
def draw1 (go : Job → Option Res) (G : List (List V)) (b0 : Nat) (o : IOper) (d : Ord) (tm : List V) (σ : Store) : Option (V × Store × Fp × Esc) :=
  match wanted tm o.gd with
  | none => none
  | some false => some (.skip, σ, Fp.nil, [])
  | some true => match o.op with
    | .call deep keep f args => match evCall go deep keep (rdV G tm f) (args.map (rdV G tm)) (!d.cx.isEmpty) σ with
      | some (.ret v, σ', ec, dp) =>
        if σ'.length = σ.length then
          let ids := (args.map (rdV G tm)).flatMap V.ids ++ (match rdV G tm f with | .fn _ caps => caps.flatMap V.ids | _ => [])
          some (v, σ', if dp then ⟨true, [], changed 0 σ σ'⟩ else ⟨false, ids, if v.flat then [] else ids⟩, ec)
        else none
      | _ => none
    | op =>
      if allocs op && !isFree σ[b0 + d.slot.getD 0]? then none
      else match ev1 (rdV G tm) (!d.cx.isEmpty) σ (b0 + d.slot.getD 0) op with
        | some (v, σ') => some (v, σ', foot (rdV G tm) (b0 + d.slot.getD 0) op, escOf (rdV G tm) σ (b0 + d.slot.getD 0) op)
        | none => none

/-- The step, noted, if it meets nothing. -/
def dstep (go : Job → Option Res) (G : List (List V)) (b0 : Nat) (i : Nat) (o : IOper) (d : Ord) (D : DSt) : Option DSt :=
  match draw1 go G b0 o d D.tm D.σ with
  | none => none
  | some (v, σ', fp, ec) =>
    if d.cx.any (fun k => clash fp (D.log.getD k (Fp.nil, [])).1) then none
    else some ⟨putT D.tm o.dst v, σ', D.log.set i (fp, ec)⟩

def dsteps (go : Job → Option Res) (G : List (List V)) (b0 : Nat) : Nat → List (IOper × Ord) → DSt → Option DSt
  | _, [], D => some D
  | i, (o, d) :: r, D => match dstep go G b0 i o d D with
    | some D' => dsteps go G b0 (i + 1) r D'
    | none => none

/-- What was held ready and not used goes. -/
def Store.trim (σ : Store) : Nat → Store
  | 0 => σ
  | n + 1 => match σ.getLast? with
    | some .free => Store.trim σ.dropLast n
    | _ => σ

def evDreg (go : Job → Option Res) (G : List (List V)) (m : Nat) (ops : List (IOper × Ord)) (s : St) : Option (X × St) :=
  match dsteps go G s.σ.length 0 ops ⟨s.tm, s.σ ++ List.replicate m .free, List.replicate ops.length (Fp.nil, [])⟩ with
  | some D => some (.norm, ⟨D.tm, D.σ.trim m, s.esc ++ D.log.flatMap (·.2)⟩)
  | none => none

/-! ### Code -/

def keepLive (lv : List Nat) : Nat → List V → List V
  | _, [] => []
  | i, v :: r => (if lv.contains i then v else .any) :: keepLive lv (i + 1) r

/-- Behind a loop's round: what was made in it goes, if nothing leads to it. -/
def St.tidy (s : St) (n : Nat) : St :=
  if n ≤ s.σ.length && !broken s.esc n && V.underL n s.tm then { s with σ := s.σ.take n } else s

def St.live (s : St) (lv : List Nat) : St := { s with tm := keepLive lv 0 s.tm }

/-- What is no longer needed is forgotten. -/
def killT : List Nat → List V → List V
  | [], tm => tm
  | d :: ds, tm => killT ds (tm.set d .any)

def evCode (go : Job → Option Res) (G : List (List V)) : IC → St → Option (X × St)
  | .skip, s => some (.norm, s)
  | .reg ops, s => evOps go G ops s
  | .dreg m ops, s => evDreg go G m ops s
  | .seq a b, s => match evCode go G a s with
    | some (.norm, s') => evCode go G b s'
    | r => r
  | .cond c a b, s => match rdV G s.tm c with
    | .bool true => evCode go G a s
    | .bool false => evCode go G b s
    | _ => none
  | .block id c, s => match evCode go G c s with
    | some (.exit k, s') => if k = id then some (.norm, s') else some (.exit k, s')
    | r => r
  | .loop lv c, s => match go (.loop lv c (s.live lv)) with
    | some (.code x s') => some (x, s')
    | _ => none
  | .exit id, s => some (.exit id, s)
  | .ret, s => some (.ret, s)
  | .kill ds c, s => evCode go G c ⟨killT ds s.tm, s.σ, s.esc⟩

def resOf (s : St) : IRes → Option V
  | .t n => match s.tm.getD n .any with
    | .any | .skip => none
    | v => some v
  | .cell a ag n => match loadAt s.σ n (s.tm.getD a .any) with
    | some cs => if ag then some (.agg cs) else match cs with
      | [c] => some c
      | _ => none
    | none => none

def resV (s : St) (l : List IRes) : Option V :=
  match optAll (resOf s) l with
  | some [v] => some v
  | some vs => some (.tup vs)
  | none => none

/-- What a call leaves: e: a result (keep: as it stands), or what it panics with. -/
def leave (keep : Bool) (base : Nat) (mk : V → End) (v : V) (s : St) : Option Res :=
  if keep then some (.done (mk v) s.σ s.esc)
  else match snap DEEP s.σ v with
    | none => none
    | some u =>
      let σ' := frz DEEP v s.σ
      if u.under base && !broken s.esc base then some (.done (mk u) (σ'.take base) (s.esc.filter fun p => p.1 < base))
      else some (.done (mk u) σ' s.esc)

/-- Arguments, both ways. -/
def ambi : List V → Option (List V × List V)
  | .sl .any [] :: r => some (.sl .nil [] :: r, .sl .some [] :: r)
  | _ => none

def jn (a b : V) : Option V :=
  if V.same a b then some a else match a, b with
    | .sl _ [], .sl _ [] => some (.sl .any [])
    | _, _ => none

def sameObjs : Store → Store → Bool
  | [], [] => true
  | a :: as, b :: bs => Obj.same a b && sameObjs as bs
  | _, _ => false

/-- What both ways come to. -/
def join (a b : Option Res) : Option Res :=
  match a, b with
  | some (.done (.ret v) s e), some (.done (.ret u) s' e') => if sameObjs s s' && e == e' then (match jn v u with
      | some x => some (.done (.ret x) s e)
      | none => none) else none
  | _, _ => none

def both (fn : IFun) (args : List V) : Option (List V × List V) := if fn.split then ambi args else none

def evB (F : List IFun) (G : List (List V)) : Nat → Job → Option Res
  | 0, _ => none
  | n + 1, .call f args σ keep => match F[f]? with
    | none => none
    | some fn =>
      if fn.defers then none else
      match both fn args with
      | some (a1, a2) => join (evB F G n (.call f a1 σ keep)) (evB F G n (.call f a2 σ keep))
      | none =>
      match evCode (evB F G n) G fn.body ⟨args ++ List.replicate (fn.ntmps - args.length) .skip, σ, []⟩ with
      | some (.norm, s) | some (.ret, s) => match resV s fn.res with
        | some v => leave keep σ.length .ret v s
        | none => none
      | some (.pan v, s) => leave false σ.length .pan v s
      | _ => none
  | n + 1, .loop lv c s => match evCode (evB F G n) G c s with
    | some (.norm, s') => evB F G n (.loop lv c ((s'.live lv).tidy s.σ.length))
    | some (x, s') => some (.code x s')
    | none => none

end Go.Ev
