/-
  Rules for walking: memory, values.
-/
import Derived.Test.YthajiefjebcobaaDoorEvWalk
set_option linter.all false
set_option linter.unusedSimpArgs false
set_option linter.unusedVariables false
namespace Go.Ev
open Go

def okc (n : Nat) (cs : List V) : Bool := cs.length == n && cs.all V.isCell

def bx (go : Job → Option Res) (G : List (List V)) (d : Option Nat) (n : Nat) (v : V) (r : List IOper) (s : St) : Option (X × St) :=
  if okc n v.cells then evOps go G r ⟨putT s.tm d (.ptr s.σ.length 0), s.σ ++ [.box v.cells], s.esc ++ esc1 s.σ.length v.top⟩ else none

def st (go : Job → Option Res) (G : List (List V)) (d : Option Nat) (n : Nat) (a v : V) (r : List IOper) (s : St) : Option (X × St) :=
  match storeAt s.σ n a v with
  | some (id, o) => evOps go G r ⟨putT s.tm d .skip, s.σ.set id o, s.esc ++ (match a.ids with
    | [id] => esc1 id v.top
    | _ => [])⟩
  | none => none

def stb (go : Job → Option Res) (G : List (List V)) (d : Option Nat) (id off : Nat) (v : V) (o : Option Obj) (r : List IOper) (s : St) : Option (X × St) :=
  match o with
  | some (.box cs) => if off + v.cells.length ≤ cs.length then evOps go G r ⟨putT s.tm d .skip, s.σ.set id (.box (setCells cs off v.cells)), s.esc ++ esc1 id v.top⟩ else none
  | _ => none

/-- A row's element, written. -/
def str (go : Job → Option Res) (G : List (List V)) (d : Option Nat) (id g idx fo : Nat) (v : V) (o : Option Obj) (r : List IOper) (s : St) : Option (X × St) :=
  match o with
  | some (.row gen esz fz xs) => if g = gen ∧ fz ≤ idx then
      match xs[idx]? with
      | some x => if fo + v.cells.length ≤ x.cells.length then evOps go G r ⟨putT s.tm d .skip, s.σ.set id (.row gen esz fz (xs.set idx (putElem x fo v.cells))), s.esc ++ esc1 id v.top⟩ else none
      | none => none
    else none
  | _ => none

/-- A literal slice. -/
def bs (go : Job → Option Res) (G : List (List V)) (d : Option Nat) (mu : Bool) (n esz : Nat) (ag : Bool) (z : List V) (ps : List (Nat × V)) (r : List IOper) (s : St) : Option (X × St) :=
  let vs := ps.foldl (fun l p => l.set p.1 p.2) (List.replicate n (grp ag z))
  if ones vs esz && n * esz < 16777216 then
    if mu then evOps go G r ⟨putT s.tm d (.row s.σ.length 0 0 n), s.σ ++ [.row 0 esz 0 vs], s.esc ++ esc1 s.σ.length (max (V.topL z) (V.topL (ps.map (·.2))))⟩
    else match handOn DEEP s.σ vs with
      | some (l, σ') => evOps go G r ⟨putT s.tm d (.sl .full l), σ', s.esc⟩
      | none => none
  else none

section
variable {go : Job → Option Res} {G : List (List V)}

theorem put_end (σ : Store) (o : Obj) : σ.put σ.length o = σ ++ [o] := by simp [Store.put]

theorem foldl_map_r {α β γ : Type} (f : γ → α → γ) (h : β → α) : ∀ (l : List β) (a : γ), (l.map h).foldl f a = l.foldl (fun x y => f x (h y)) a
  | [], _ => rfl
  | b :: l, a => foldl_map_r f h l _

theorem wm : (∀ d cs r tm σ e, so go G d (.alloc cs) r ⟨tm, σ, e⟩ = evOps go G r ⟨putT tm d (.ptr σ.length 0), σ ++ [.box cs], e ++ esc1 σ.length (V.topL cs)⟩) ∧
    (∀ d n x r tm σ e, so go G d (.box n x) r ⟨tm, σ, e⟩ = bx go G d n (rdV G tm x) r ⟨tm, σ, e⟩) ∧
    (∀ d n a v r tm σ e, so go G d (.store n a v) r ⟨tm, σ, e⟩ = st go G d n (rdV G tm a) (rdV G tm v) r ⟨tm, σ, e⟩) ∧
    (∀ d mu n esz ag z ps r tm σ e, so go G d (.bslice mu n esz ag z ps) r ⟨tm, σ, e⟩ = bs go G d mu n esz ag z (ps.map fun p => (p.1, rdV G tm p.2)) r ⟨tm, σ, e⟩) := by
  refine ⟨?_, ?_, ?_, ?_⟩ <;> intros
  · simp only [so, ev1, escOf, put_end]
  · simp only [so, ev1, escOf, put_end, bx, okc]
    rename_i n x _ tm _ _
    by_cases h : (rdV G tm x).cells.length = n ∧ ((rdV G tm x).cells.all V.isCell) = true
    · simp [h]
    · simp only [if_neg h]
      have : ((rdV G tm x).cells.length == n && (rdV G tm x).cells.all V.isCell) = false := by
        rw [Bool.eq_false_iff]
        simpa using h
      simp [this]
  · simp only [so, ev1, escOf, st]
    cases storeAt _ _ _ _ <;> rfl
  · rename_i d mu n esz ag z ps r tm σ e
    simp only [so, ev1, escOf, bs, put_end]
    rw [foldl_map_r]
    simp only
    generalize (ones _ esz && decide (n * esz < 16777216)) = c
    cases c
    · rfl
    · cases mu
      · simp only [Bool.false_eq_true, if_false, if_true]
        cases handOn DEEP σ _ <;> simp
      · simp [List.map_map, Function.comp_def]

theorem bx_ok {n : Nat} {v : V} (h : okc n v.cells = true) (d : Option Nat) (r : List IOper) (tm : List V) (σ : Store) (e : Esc) :
    bx go G d n v r ⟨tm, σ, e⟩ = evOps go G r ⟨putT tm d (.ptr σ.length 0), σ ++ [.box v.cells], e ++ esc1 σ.length v.top⟩ := by simp only [bx, h, if_true]

theorem okc_len {n : Nat} {cs : List V} (h : okc n cs = true) : cs.length = n ∧ cs.all V.isCell = true := by
  simpa [okc] using h

theorem st_ptr {n : Nat} {v : V} (h : okc n v.cells = true) (d : Option Nat) (id off : Nat) (r : List IOper) (tm : List V) (σ : Store) (e : Esc) :
    st go G d n (.ptr id off) v r ⟨tm, σ, e⟩ = stb go G d id off v σ[id]? r ⟨tm, σ, e⟩ := by
  obtain ⟨h1, h2⟩ := okc_len h
  simp only [st, storeAt, h1, h2, and_self, if_true, stb]
  cases σ[id]? with
  | none => rfl
  | some o =>
    cases o <;> try rfl
    rename_i cs
    simp only
    by_cases hl : off + n ≤ cs.length
    · simp [hl, V.ids]
    · simp [hl]

theorem st_rptr {n : Nat} {v : V} (h : okc n v.cells = true) (d : Option Nat) (id g idx fo : Nat) (r : List IOper) (tm : List V) (σ : Store) (e : Esc) :
    st go G d n (.rptr id g idx fo) v r ⟨tm, σ, e⟩ = str go G d id g idx fo v σ[id]? r ⟨tm, σ, e⟩ := by
  obtain ⟨h1, h2⟩ := okc_len h
  simp only [st, storeAt, h1, h2, and_self, if_true, str]
  cases σ[id]? with
  | none => rfl
  | some o =>
    cases o <;> try rfl
    rename_i gen esz fz xs
    simp only
    by_cases hg : g = gen ∧ fz ≤ idx
    · simp only [hg, and_self, if_true]
      cases xs[idx]? with
      | none => rfl
      | some x =>
        simp only
        by_cases hl : fo + n ≤ x.cells.length
        · simp [hl, V.ids]
        · simp [hl]
    · simp only [hg, if_false]

theorem stb_box {cs : List V} {off : Nat} {v : V} (h : off + v.cells.length ≤ cs.length) (d : Option Nat) (id : Nat) (r : List IOper) (tm : List V) (σ : Store) (e : Esc) :
    stb go G d id off v (some (.box cs)) r ⟨tm, σ, e⟩ = evOps go G r ⟨putT tm d .skip, σ.set id (.box (setCells cs off v.cells)), e ++ esc1 id v.top⟩ := by
  simp only [stb, h, if_true]
end

theorem esc1_zero (id : Nat) : esc1 id 0 = [] := by simp [esc1]
theorem esc1_le {id t : Nat} (h : t ≤ id + 1) : esc1 id t = [] := by simp [esc1, h]

mutual
theorem top_of_pure : ∀ (v : V), v.pure = true → v.top = 0
  | .any, h | .skip, h | .row .., h | .ptr .., h | .rptr .., h | .iptr _, h | .mref _, h => by cases h
  | .int .., _ | .bool _, _ | .str _, _ | .nilp, _ | .nilf, _ | .nili, _ => rfl
  | .sl m xs, h => by
    simp only [V.pure, Bool.and_eq_true] at h
    exact topL_of_pure xs h.2
  | .fn f cs, h => topL_of_pure cs h
  | .ifc t v, h => top_of_pure v h
  | .agg cs, h => topL_of_pure cs h
  | .tup cs, h => topL_of_pure cs h
theorem topL_of_pure : ∀ (l : List V), V.pureL l = true → V.topL l = 0
  | [], _ => rfl
  | v :: l, h => by
    simp only [V.pureL, Bool.and_eq_true] at h
    simp only [V.topL, top_of_pure v h.1, topL_of_pure l h.2, Nat.max_self]
end

/-- What kinds of values are. -/
theorem wx : (∀ k n, V.cells (.int k n) = [.int k n]) ∧ (∀ b, V.cells (.bool b) = [.bool b]) ∧ (∀ s, V.cells (.str s) = [.str s]) ∧ (∀ m xs, V.cells (.sl m xs) = [.sl m xs]) ∧ (∀ a b c d, V.cells (.row a b c d) = [.row a b c d]) ∧
    (∀ a b, V.cells (.ptr a b) = [.ptr a b]) ∧ (∀ f c, V.cells (.fn f c) = [.fn f c]) ∧ V.cells .nilf = [.nilf] ∧ V.cells .nilp = [.nilp] ∧ V.cells .nili = [.nili] ∧ (∀ t v, V.cells (.ifc t v) = [.ifc t v]) ∧ (∀ cs, V.cells (.agg cs) = cs) ∧
    (∀ k n, V.isCell (.int k n) = true) ∧ (∀ b, V.isCell (.bool b) = true) ∧ (∀ s, V.isCell (.str s) = true) ∧ (∀ m xs, V.isCell (.sl m xs) = true) ∧ (∀ a b c d, V.isCell (.row a b c d) = true) ∧
    (∀ a b, V.isCell (.ptr a b) = true) ∧ (∀ f c, V.isCell (.fn f c) = true) ∧ V.isCell .nilf = true ∧ V.isCell .nilp = true ∧ V.isCell .nili = true ∧ (∀ t v, V.isCell (.ifc t v) = true) ∧
    (∀ k n, V.top (.int k n) = 0) ∧ (∀ b, V.top (.bool b) = 0) ∧ (∀ s, V.top (.str s) = 0) ∧ (∀ m xs, V.top (.sl m xs) = V.topL xs) ∧ (∀ a b c d, V.top (.row a b c d) = a + 1) ∧
    (∀ a b, V.top (.ptr a b) = a + 1) ∧ (∀ f c, V.top (.fn f c) = V.topL c) ∧ V.top .nilf = 0 ∧ V.top .nilp = 0 ∧ V.top .nili = 0 ∧ (∀ t v, V.top (.ifc t v) = v.top) ∧ (∀ cs, V.top (.agg cs) = V.topL cs) ∧ (∀ cs, V.top (.tup cs) = V.topL cs) ∧
    V.topL [] = 0 ∧ (∀ v l, V.topL (v :: l) = max v.top (V.topL l)) ∧
    (∀ k n, V.pure (.int k n) = true) ∧ (∀ b, V.pure (.bool b) = true) ∧ (∀ s, V.pure (.str s) = true) ∧ (∀ xs, V.pure (.sl .any xs) = V.pureL xs) ∧ (∀ xs, V.pure (.sl .nil xs) = false) ∧ (∀ xs, V.pure (.sl .full xs) = false) ∧ (∀ xs, V.pure (.sl .some xs) = false) ∧ (∀ xs, V.pure (.sl .lim xs) = false) ∧
    (∀ a b c d, V.pure (.row a b c d) = false) ∧
    (∀ a b, V.pure (.ptr a b) = false) ∧ (∀ f c, V.pure (.fn f c) = V.pureL c) ∧ V.pure .nilf = true ∧ V.pure .nilp = true ∧ V.pure .nili = true ∧ (∀ t v, V.pure (.ifc t v) = v.pure) ∧ (∀ cs, V.pure (.agg cs) = V.pureL cs) ∧ (∀ cs, V.pure (.tup cs) = V.pureL cs) ∧
    V.pureL [] = true ∧ (∀ v l, V.pureL (v :: l) = (v.pure && V.pureL l)) := by
  refine ⟨?_, ?_, ?_, ?_, ?_, ?_, ?_, ?_, ?_, ?_, ?_, ?_, ?_, ?_, ?_, ?_, ?_, ?_, ?_, ?_, ?_, ?_, ?_, ?_, ?_, ?_, ?_, ?_, ?_, ?_, ?_, ?_, ?_, ?_, ?_, ?_, ?_, ?_, ?_, ?_, ?_, ?_, ?_, ?_, ?_, ?_, ?_, ?_, ?_, ?_, ?_, ?_, ?_, ?_, ?_, ?_, ?_⟩ <;> intros <;> rfl

theorem pureL_append (a b : List V) : V.pureL (a ++ b) = (V.pureL a && V.pureL b) := by
  induction a with
  | nil => simp [V.pureL]
  | cons v a ih => simp [V.pureL, ih, Bool.and_assoc]

theorem topL_append (a b : List V) : V.topL (a ++ b) = max (V.topL a) (V.topL b) := by
  induction a with
  | nil => simp [V.topL]
  | cons v a ih => simp only [List.cons_append, V.topL, ih]; omega

/-- Behind a call. -/
def retv (v : V) : Option Res := some (.done (.ret v) [] [])

theorem broken_zero (e : Esc) : broken e 0 = false := by simp [broken]

theorem leave_to {v u : V} {s : St} (h : snap DEEP s.σ v = some u) (hu : u.under 0 = true) : leave false 0 .ret v s = retv u := by
  simp only [leave, Bool.false_eq_true, if_false, h, hu, broken_zero, Bool.not_false, Bool.and_self, if_true, List.take_zero, retv, Option.some.injEq, Res.done.injEq, true_and]
  rw [List.filter_eq_nil_iff]
  intro p _
  simp

theorem leave_pure {v : V} (h : v.pure = true) (tm : List V) (σ : Store) (e : Esc) : leave false 0 .ret v ⟨tm, σ, e⟩ = retv v := by
  refine leave_to ?_ (under_of_pure v h)
  simp only [snap, h, if_true]

theorem leave_row {id g off len esz fz : Nat} {xs : List V} {σ : Store} (h : σ[id]? = some (.row g esz fz xs)) (hp : V.pureL ((xs.drop off).take len) = true) (tm : List V) (e : Esc) :
    leave false 0 .ret (.row id g off len) ⟨tm, σ, e⟩ = retv (.sl .any ((xs.drop off).take len)) := by
  refine leave_to ?_ ?_
  · simp only [snap, V.pure, Bool.false_eq_true, if_false, h, if_true, hp]
  · exact underL_of_pure _ hp

theorem leave_sl {m : Md} {xs : List V} (hp : V.pureL xs = true) (tm : List V) (σ : Store) (e : Esc) : leave false 0 .ret (.sl m xs) ⟨tm, σ, e⟩ = retv (.sl .any xs) := by
  refine leave_to ?_ (underL_of_pure _ hp)
  simp only [snap]
  split
  · rename_i h
    simp only [V.pure, Bool.and_eq_true, beq_iff_eq] at h
    rw [h.1]
  · rfl
end Go.Ev
