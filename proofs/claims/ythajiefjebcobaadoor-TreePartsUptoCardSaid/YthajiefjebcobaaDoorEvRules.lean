/-
  Rules for walking: lists, objects, what leads where.
-/
import Derived.Test.YthajiefjebcobaaDoorEvDwalk
set_option linter.all false
set_option linter.unusedSimpArgs false
set_option linter.unusedVariables false
namespace Go.Ev
open Go

theorem at_add (σ l : Store) (k : Nat) : (σ ++ l)[σ.length + k]? = l[k]? := by rw [List.getElem?_append_right (Nat.le_add_right _ _), Nat.add_sub_cancel_left]
theorem at_len (σ l : Store) : (σ ++ l)[σ.length]? = l[0]? := at_add σ l 0
theorem set_add (σ l : Store) (k : Nat) (o : Obj) : (σ ++ l).set (σ.length + k) o = σ ++ l.set k o := by rw [List.set_append_right _ _ (Nat.le_add_right _ _), Nat.add_sub_cancel_left]
theorem set_len (σ l : Store) (o : Obj) : (σ ++ l).set σ.length o = σ ++ l.set 0 o := set_add σ l 0 o

/-- Runs of numbers, written out. -/
def runOf : Nat → Nat → List Nat
  | _, 0 => []
  | a, n + 1 => a :: runOf (a + 1) n
def rl : List (Nat × Nat) → List Nat
  | [] => []
  | (a, n) :: r => runOf a n ++ rl r
def killR : Nat → Nat → List V → List V
  | _, 0, tm => tm
  | a, n + 1, tm => killR (a + 1) n (tm.set a .any)
theorem killT_append (a b : List Nat) (tm : List V) : killT (a ++ b) tm = killT b (killT a tm) := by
  induction a generalizing tm with
  | nil => rfl
  | cons x a ih => simp only [List.cons_append, killT, ih]
theorem killT_run (n : Nat) : ∀ (a : Nat) (tm : List V), killT (runOf a n) tm = killR a n tm := by
  induction n with
  | zero => intro a tm; rfl
  | succ n ih => intro a tm; simp only [runOf, killT, killR, ih]
theorem wk : (∀ tm, killT (rl []) tm = tm) ∧ (∀ a n r tm, killT (rl ((a, n) :: r)) tm = killT (rl r) (killR a n tm)) ∧ (∀ a tm, killR a 0 tm = tm) ∧ (∀ a n tm, killR a (n + 1) tm = killR (a + 1) n (tm.set a .any)) := by
  refine ⟨fun _ => rfl, fun a n r tm => ?_, fun _ _ => rfl, fun _ _ _ => rfl⟩
  simp only [rl, killT_append, killT_run]

/-- Lists. -/
theorem wl : (∀ (a : V) l d, (a :: l).getD 0 d = a) ∧ (∀ (a : V) l n d, (a :: l).getD (n + 1) d = l.getD n d) ∧ (∀ (a b : V) l, (a :: l).set 0 b = b :: l) ∧ (∀ (a b : V) l n, (a :: l).set (n + 1) b = a :: l.set n b) ∧
    (∀ (a : V) l, (a :: l)[0]? = some a) ∧ (∀ (a : V) l (n : Nat), (a :: l)[n + 1]? = l[n]?) ∧ (∀ (l : List V), l.drop 0 = l) ∧ (∀ (a : V) l n, (a :: l).drop (n + 1) = l.drop n) ∧
    (∀ (l : List V), l.take 0 = []) ∧ (∀ (a : V) l n, (a :: l).take (n + 1) = a :: l.take n) ∧ (∀ n, ([] : List V).take n = []) ∧
    (∀ (a : Obj) l, (a :: l)[0]? = some a) ∧ (∀ (a : Obj) l (n : Nat), (a :: l)[n + 1]? = l[n]?) ∧ (∀ (a b : Obj) l, (a :: l).set 0 b = b :: l) ∧ (∀ (a b : Obj) l n, (a :: l).set (n + 1) b = a :: l.set n b) ∧
    (∀ (σ l : Store), (σ ++ l).length = σ.length + l.length) ∧ (∀ (a : Obj) l, (a :: l).length = l.length + 1) ∧ ([] : Store).length = 0 ∧ (∀ (a : V) l, (a :: l).length = l.length + 1) ∧ ([] : List V).length = 0 ∧
    (∀ (a b c : Store), a ++ b ++ c = a ++ (b ++ c)) ∧ (∀ (a : Obj) (b c : Store), (a :: b) ++ c = a :: (b ++ c)) ∧ (∀ (c : Store), [] ++ c = c) ∧ (∀ (c : Store), c ++ [] = c) ∧ (∀ e : Esc, [] ++ e = e) ∧ (∀ e : Esc, e ++ [] = e) ∧
    (∀ (σ l : Store) (k : Nat), (σ ++ l)[σ.length + k]? = l[k]?) ∧ (∀ (σ l : Store), (σ ++ l)[σ.length]? = l[0]?) ∧ (∀ (σ l : Store) (k : Nat) (o : Obj), (σ ++ l).set (σ.length + k) o = σ ++ l.set k o) ∧
    (∀ (σ l : Store) (o : Obj), (σ ++ l).set σ.length o = σ ++ l.set 0 o) ∧
    (∀ tm (v : V), putT tm none v = tm) ∧ (∀ tm n (v : V), putT tm (some n) v = tm.set n v) ∧ (∀ (G : List (List V)) tm n, rdV G tm (.t n) = tm.getD n .any) ∧ (∀ (G : List (List V)) tm v, rdV G tm (.c v) = v) ∧ (∀ (G : List (List V)) tm f, rdV G tm (.f f) = .fn f []) ∧
    (∀ tm, killT [] tm = tm) ∧ (∀ d ds tm, killT (d :: ds) tm = killT ds (tm.set d .any)) ∧ (∀ i lv, keepLive lv i [] = []) ∧ (∀ i lv v r, keepLive lv i (v :: r) = (if lv.contains i then v else .any) :: keepLive lv (i + 1) r) ∧
    (∀ (f : Rd → V), [].map f = []) ∧ (∀ (f : Rd → V) a l, (a :: l).map f = f a :: l.map f) ∧
    (∀ n (cs : List V), okc n cs = (cs.length == n && cs.all V.isCell)) ∧ (∀ p, List.all ([] : List V) p = true) ∧ (∀ (a : V) l p, List.all (a :: l) p = (p a && List.all l p)) ∧
    (∀ (a b : V) l (n : Nat), setCells (a :: l) 0 [] = a :: l) ∧ (∀ (cs : List V) n, setCells cs n [] = cs) ∧ (∀ (cs : List V) n v vs, setCells cs n (v :: vs) = setCells (cs.set n v) (n + 1) vs) ∧ (∀ id, esc1 id 0 = []) := by
  refine ⟨?_, ?_, ?_, ?_, ?_, ?_, ?_, ?_, ?_, ?_, ?_, ?_, ?_, ?_, ?_, ?_, ?_, ?_, ?_, ?_, ?_, ?_, ?_, ?_, ?_, ?_, ?_, ?_, ?_, ?_, ?_, ?_, ?_, ?_, ?_, ?_, ?_, ?_, ?_, ?_, ?_, ?_, ?_, ?_, ?_, ?_, ?_, ?_⟩ <;> intros <;>
    first | rfl | exact at_add _ _ _ | exact at_len _ _ | exact set_add _ _ _ _ | exact set_len _ _ _ | exact esc1_zero _ | simp

/-- What leads below where. -/
theorem wu : (∀ n, V.under n .any = true) ∧ (∀ n, V.under n .skip = true) ∧ (∀ n k i, V.under n (.int k i) = true) ∧ (∀ n b, V.under n (.bool b) = true) ∧ (∀ n s, V.under n (.str s) = true) ∧ (∀ n m xs, V.under n (.sl m xs) = V.underL n xs) ∧
    (∀ n a b c d, V.under n (.row a b c d) = decide (a < n)) ∧ (∀ n a b, V.under n (.ptr a b) = decide (a < n)) ∧ (∀ n f c, V.under n (.fn f c) = V.underL n c) ∧ (∀ n, V.under n .nilf = true) ∧ (∀ n, V.under n .nilp = true) ∧ (∀ n, V.under n .nili = true) ∧
    (∀ n t v, V.under n (.ifc t v) = v.under n) ∧ (∀ n cs, V.under n (.agg cs) = V.underL n cs) ∧ (∀ n cs, V.under n (.tup cs) = V.underL n cs) ∧ (∀ n, V.underL n [] = true) ∧ (∀ n v l, V.underL n (v :: l) = (v.under n && V.underL n l)) := by
  refine ⟨?_, ?_, ?_, ?_, ?_, ?_, ?_, ?_, ?_, ?_, ?_, ?_, ?_, ?_, ?_, ?_, ?_⟩ <;> intros <;> rfl

mutual
theorem under_pure (n : Nat) : ∀ (v : V), v.pure = true → v.under n = true
  | .any, h | .skip, h | .row .., h | .ptr .., h | .rptr .., h | .iptr _, h | .mref _, h => by cases h
  | .int .., _ | .bool _, _ | .str _, _ | .nilp, _ | .nilf, _ | .nili, _ => rfl
  | .sl m xs, h => by
    simp only [V.pure, Bool.and_eq_true] at h
    exact underL_pure n xs h.2
  | .fn f cs, h => underL_pure n cs h
  | .ifc t v, h => under_pure n v h
  | .agg cs, h => underL_pure n cs h
  | .tup cs, h => underL_pure n cs h
theorem underL_pure (n : Nat) : ∀ (l : List V), V.pureL l = true → V.underL n l = true
  | [], _ => rfl
  | v :: l, h => by
    simp only [V.pureL, Bool.and_eq_true] at h
    simp only [V.underL, Bool.and_eq_true]
    exact ⟨under_pure n v h.1, underL_pure n l h.2⟩
end

theorem tidy_ok {σ l : Store} {tm : List V} (h : V.underL σ.length tm = true) : (⟨tm, σ ++ l, []⟩ : St).tidy σ.length = ⟨tm, σ, []⟩ := by
  unfold St.tidy
  have h1 : σ.length ≤ (σ ++ l).length := by simp
  simp only [h1, decide_true, broken, List.any_nil, Bool.not_false, Bool.and_self, h, if_true, List.take_left]
theorem tidy_same {σ : Store} {tm : List V} (h : V.underL σ.length tm = true) : (⟨tm, σ, []⟩ : St).tidy σ.length = ⟨tm, σ, []⟩ := by
  have := tidy_ok (l := []) h
  rwa [List.append_nil] at this
theorem tidy_lit {σ : Store} {tm : List V} {n : Nat} (h : V.underL n tm = true) (h1 : n ≤ σ.length) : (⟨tm, σ, []⟩ : St).tidy n = ⟨tm, σ.take n, []⟩ := by
  unfold St.tidy
  simp only [h1, decide_true, broken, List.any_nil, Bool.not_false, Bool.and_self, h, if_true]
/-- Something made in the round is still needed. -/
theorem tidy_not {σ : Store} {tm : List V} {n : Nat} {e : Esc} (h : V.underL n tm = false) : (⟨tm, σ, e⟩ : St).tidy n = ⟨tm, σ, e⟩ := by
  unfold St.tidy
  simp only [h, Bool.and_false, Bool.false_eq_true, if_false]

/-- What was touched. -/
theorem wd : (∀ fp log, clashes [] fp log = false) ∧ (∀ k cx fp log, clashes (k :: cx) fp log = (clash fp (log.getD k (Fp.nil, [])).1 || clashes cx fp log)) ∧
    (∀ b, clash Fp.nil b = false) ∧ (∀ a, clash a Fp.nil = false) ∧ (∀ r r', clash ⟨false, r, []⟩ ⟨false, r', []⟩ = false) ∧
    (∀ (a : Fp × Esc) l d, (a :: l).getD 0 d = a) ∧ (∀ (a : Fp × Esc) l n d, (a :: l).getD (n + 1) d = l.getD n d) ∧ (∀ n (d : Fp × Esc), [].getD n d = d) ∧
    (∀ (a b : Fp × Esc) l, (a :: l).set 0 b = b :: l) ∧ (∀ (a b : Fp × Esc) l n, (a :: l).set (n + 1) b = a :: l.set n b) ∧
    (∀ (a : Fp × Esc) n, List.replicate (n + 1) a = a :: List.replicate n a) ∧ (∀ (a : Fp × Esc), List.replicate 0 a = []) ∧ (∀ (a : Obj), List.replicate 0 a = []) ∧ (∀ (a : Obj) n, List.replicate (n + 1) a = a :: List.replicate n a) ∧
    (∀ (a : IOper × Ord) l, (a :: l).length = l.length + 1) ∧ ([] : List (IOper × Ord)).length = 0 ∧
    (∀ (f : Fp × Esc → Esc), List.flatMap f [] = []) ∧ (∀ (f : Fp × Esc → Esc) a l, List.flatMap f (a :: l) = f a ++ List.flatMap f l) ∧ (∀ σ : Store, σ.trim 0 = σ) ∧
    (∀ (a b c), (⟨a, b, c⟩ : Ord).aft = a) ∧ (∀ (a b c), (⟨a, b, c⟩ : Ord).cx = b) ∧ (∀ (a b c), (⟨a, b, c⟩ : Ord).slot = c) ∧
    (∀ a (v : V), List.replicate (a + 1) v = v :: List.replicate a v) ∧ (∀ (v : V), List.replicate 0 v = []) ∧ (∀ (a : V) l m, (a :: l) ++ m = a :: (l ++ m)) ∧ (∀ m : List V, [] ++ m = m) ∧ (∀ m : List V, m ++ [] = m) := by
  refine ⟨?_, ?_, ?_, ?_, ?_, ?_, ?_, ?_, ?_, ?_, ?_, ?_, ?_, ?_, ?_, ?_, ?_, ?_, ?_, ?_, ?_, ?_, ?_, ?_, ?_, ?_, ?_⟩ <;> intros <;> first | rfl | (simp [clash, Fp.nil, meets]; done) | simp

/-- What a function gives back. -/
theorem wr : (∀ s n, resV s [.t n] = (match resOf s (.t n) with | some v => some v | none => none)) ∧ (∀ tm σ e n, resOf ⟨tm, σ, e⟩ (.t n) = (match tm.getD n .any with | .any | .skip => none | v => some v)) ∧
    (∀ tm σ e a ag n, resOf ⟨tm, σ, e⟩ (.cell a ag n) = (match loadAt σ n (tm.getD a .any) with | some cs => if ag then some (.agg cs) else (match cs with | [c] => some c | _ => none) | none => none)) ∧
    (∀ s a ag n, resV s [.cell a ag n] = resOf s (.cell a ag n)) := by
  refine ⟨?_, ?_, ?_, ?_⟩ <;> intros
  · simp only [resV, optAll]
    cases resOf _ _ <;> rfl
  · rfl
  · rfl
  · simp only [resV, optAll]
    cases resOf _ _ <;> rfl
theorem resV_two (s : St) (a b : IRes) : resV s [a, b] = (match resOf s a with
    | some x => match resOf s b with
      | some y => some (.tup [x, y])
      | none => none
    | none => none) := by
  simp only [resV, optAll]
  cases resOf s a <;> cases resOf s b <;> rfl
theorem resV_three (s : St) (a b c : IRes) : resV s [a, b, c] = (match resOf s a with
    | some x => match resOf s b with
      | some y => match resOf s c with
        | some z => some (.tup [x, y, z])
        | none => none
      | none => none
    | none => none) := by
  simp only [resV, optAll]
  cases resOf s a <;> cases resOf s b <;> cases resOf s c <;> rfl

theorem wrap_ok {a : Int} (h : -9223372036854775808 ≤ a ∧ a ≤ 9223372036854775807) : IntKind.i64.wrap a = a := by
  simp only [IntKind.wrap, IntKind.bits, IntKind.signed]
  simp
  omega

section
variable {go : Job → Option Res} {G : List (List V)}
theorem w_build (d : Option Nat) (z : List V) (ps : List (Nat × Nat × Rd)) (r : List IOper) (tm : List V) (σ : Store) (e : Esc) :
    so go G d (.build z ps) r ⟨tm, σ, e⟩ = kv go G d ((fillParts z (ps.map fun p => (p.1, p.2.1, rdV G tm p.2.2))).map .agg) r ⟨tm, σ, e⟩ := so_val (by intros; simp) (by intros; simp) rfl rfl
theorem d_build (b0 i : Nat) (o : Ord) (d : Option Nat) (z : List V) (ps : List (Nat × Nat × Rd)) (r : List (IOper × Ord)) (tm : List V) (σ : Store) (log : List (Fp × Esc)) :
    dop go G b0 i o d (.build z ps) r ⟨tm, σ, log⟩ = dk go G b0 i o.cx d ((fillParts z (ps.map fun p => (p.1, p.2.1, rdV G tm p.2.2))).map .agg) Fp.nil r ⟨tm, σ, log⟩ := dop_val (by intros; simp) rfl rfl rfl rfl
theorem w_parts : (∀ (f : Nat × Nat × Rd → Nat × Nat × V), [].map f = []) ∧ (∀ (f : Nat × Nat × Rd → Nat × Nat × V) a l, (a :: l).map f = f a :: l.map f) ∧ (∀ cs, fillParts cs [] = some cs) ∧
    (∀ m e tm σ log, de m e (some ⟨tm, σ, log⟩) = some (.norm, ⟨tm, σ.trim m, e ++ log.flatMap (·.2)⟩)) := ⟨fun _ => rfl, fun _ _ _ => rfl, fun _ => rfl, fun _ _ _ _ _ => rfl⟩
theorem fill_cons (cs : List V) (off sz : Nat) (v : V) (r : List (Nat × Nat × V)) : fillParts cs ((off, sz, v) :: r) = if (okc sz v.cells && decide (off + sz ≤ cs.length)) = true then fillParts (setCells cs off v.cells) r else none := by
  have hc : (okc sz v.cells && decide (off + sz ≤ cs.length)) = true ↔ v.cells.length = sz ∧ off + sz ≤ cs.length ∧ v.cells.all V.isCell = true := by
    simp only [okc, Bool.and_eq_true, beq_iff_eq, decide_eq_true_eq]
    constructor
    · rintro ⟨⟨a, b⟩, c⟩; exact ⟨a, c, b⟩
    · rintro ⟨a, c, b⟩; exact ⟨⟨a, b⟩, c⟩
  simp only [fillParts]
  by_cases h : v.cells.length = sz ∧ off + sz ≤ cs.length ∧ v.cells.all V.isCell = true
  · rw [if_pos h, if_pos (hc.2 h)]
  · rw [if_neg h, if_neg (fun q => h (hc.1 q))]
end

/-- What values come to. -/
theorem wf : (∀ a b, pickV (.bool true) a b = some a) ∧ (∀ a b, pickV (.bool false) a b = some b) ∧
    (∀ k a b, ari .add (.int k a) (.int k b) = some (.int k (k.wrap (a + b)))) ∧ (∀ k a b, ari .sub (.int k a) (.int k b) = some (.int k (k.wrap (a - b)))) ∧ (∀ k a b, ari .mul (.int k a) (.int k b) = some (.int k (k.wrap (a * b)))) ∧
    (∀ k a b, ari .eql (.int k a) (.int k b) = some (.bool (a == b))) ∧ (∀ k a b, ari .neq (.int k a) (.int k b) = some (.bool (a != b))) ∧ (∀ k a b, ari .lss (.int k a) (.int k b) = some (.bool (decide (a < b)))) ∧
    (∀ k a b, ari .leq (.int k a) (.int k b) = some (.bool (decide (a ≤ b)))) ∧ (∀ k a b, ari .gtr (.int k a) (.int k b) = some (.bool (decide (a > b)))) ∧ (∀ k a b, ari .geq (.int k a) (.int k b) = some (.bool (decide (a ≥ b)))) ∧
    (∀ k a b, ari .quo (.int k a) (.int k b) = if b = 0 then none else some (.int k (k.wrap (a.tdiv b)))) ∧ (∀ k a b, ari .rem (.int k a) (.int k b) = if b = 0 then none else some (.int k (a.tmod b))) ∧
    (∀ k k' a b, ari .shl (.int k a) (.int k' b) = if b < 0 then none else some (.int k (k.wrap (a * 2 ^ (min b.toNat k.bits))))) ∧ (∀ k k' a b, ari .shr (.int k a) (.int k' b) = if b < 0 then none else some (.int k (a.fdiv (2 ^ (min b.toNat k.bits))))) ∧
    (∀ k a b, ari .and (.int k a) (.int k b) = some (.int k (k.wrap (BitVec.ofInt k.bits a &&& BitVec.ofInt k.bits b).toNat))) ∧ (∀ k a b, ari .or (.int k a) (.int k b) = some (.int k (k.wrap (BitVec.ofInt k.bits a ||| BitVec.ofInt k.bits b).toNat))) ∧
    (∀ a b, ari .eql (.str a) (.str b) = some (.bool (a == b))) ∧ (∀ a b, ari .neq (.str a) (.str b) = some (.bool (!(a == b)))) ∧ (∀ a b, ari .add (.str a) (.str b) = if a.length + b.length < LIM then some (.str (a ++ b)) else none) ∧
    (∀ a b, ari .lss (.str a) (.str b) = some (.bool (ltS a b))) ∧
    (∀ a b, eqW false .bool (.bool a) (.bool b) = some (.bool (a == b))) ∧ (∀ a b, eqW true .bool (.bool a) (.bool b) = some (.bool (!(a == b)))) ∧
    (∀ ks cs ds, eqW false (.cells ks) (.agg cs) (.agg ds) = (eqCells ks cs ds).map .bool) ∧ (∀ ks cs ds, eqW true (.cells ks) (.agg cs) (.agg ds) = (eqCells ks cs ds).map fun b => .bool (!b)) ∧
    eqCells [] [] [] = some true ∧ (∀ ks k a b r s, eqCells (.int :: ks) (.int k a :: r) (.int k b :: s) = (eqCells ks r s).map fun x => a == b && x) ∧ (∀ ks a b r s, eqCells (.bool :: ks) (.bool a :: r) (.bool b :: s) = (eqCells ks r s).map fun x => a == b && x) ∧
    (∀ ks a b r s, eqCells (.str :: ks) (.str a :: r) (.str b :: s) = (eqCells ks r s).map fun x => a == b && x) ∧
    (∀ b, unV .not (.bool b) = some (.bool (!b))) ∧ (∀ k n, unV .neg (.int k n) = some (.int k (k.wrap (0 - n)))) ∧ (∀ k k' n, convV k (.int k' n) = some (.int k (k.wrap n))) ∧
    (∀ off id o, faddrV off (.ptr id o) = some (.ptr id (o + off))) ∧ (∀ off id g i fo, faddrV off (.rptr id g i fo) = some (.rptr id g i (fo + off))) ∧ (∀ off cs, faddrV off (.iptr cs) = some (.iptr (cs.drop off))) ∧
    (∀ n off cs, fldV true n off (.agg cs) = if off + n ≤ cs.length then some (.agg ((cs.drop off).take n)) else none) ∧ (∀ n off cs, fldV false n off (.agg cs) = if off + n ≤ cs.length then cs[off]? else none) ∧
    (∀ vs i, extV (.tup vs) i = vs[i]?) ∧ (∀ σ s, lenV σ true (.str s) = some (.int .i64 s.length)) ∧ (∀ σ m xs, lenV σ false (.sl m xs) = some (.int .i64 xs.length)) ∧
    (∀ cs, loadV true (some cs) = some (.agg cs)) ∧ (∀ c, loadV false (some [c]) = some c) ∧ (∀ σ n cs, loadAt σ n (.iptr cs) = if n ≤ cs.length then some (cs.take n) else none) ∧
    (∀ σ n id off, loadAt σ n (.ptr id off) = (match σ[id]? with | some (.box cs) => if off + n ≤ cs.length then some ((cs.drop off).take n) else none | _ => none)) ∧
    (∀ σ esz m xs k i, iaddrV σ esz (.sl m xs) (.int k i) = if 0 ≤ i then (match xs[i.toNat]? with | some v => if v.cells.length = esz then some (.iptr v.cells) else none | none => none) else none) ∧
    (∀ t z, asrtV t z .nili = some (.tup [z, .bool false])) ∧ (∀ t z t' v, asrtV t z (.ifc t' v) = if t' = t then some (.tup [v, .bool true]) else some (.tup [z, .bool false])) ∧
    (∀ s k i, idxsV (.str s) (.int k i) = if 0 ≤ i then (match s[i.toNat]? with | some b => some (.int .u8 b) | none => none) else none) ∧
    (∀ k a, mnV [.int k a] = some (.int k a)) ∧ (∀ k a k' b, mnV [.int k a, .int k' b] = some (.int k (if b < a then b else a))) ∧ (∀ k a k' b, mxV [.int k a, .int k' b] = some (.int k (if b > a then b else a))) := by
  refine ⟨?_, ?_, ?_, ?_, ?_, ?_, ?_, ?_, ?_, ?_, ?_, ?_, ?_, ?_, ?_, ?_, ?_, ?_, ?_, ?_, ?_, ?_, ?_, ?_, ?_, ?_, ?_, ?_, ?_, ?_, ?_, ?_, ?_, ?_, ?_, ?_, ?_, ?_, ?_, ?_, ?_, ?_, ?_, ?_, ?_, ?_, ?_, ?_, ?_, ?_, ?_⟩ <;> intros <;>
    first
    | rfl
    | (simp [ari, ariI]; done)
    | (simp only [eqW, eqV]; cases eqCells _ _ _ <;> rfl)
    | (simp only [eqCells, if_true]; cases eqCells _ _ _ <;> rfl)
theorem pickV_if (t : Bool) (a b : V) : pickV (.bool t) a b = some (if t = true then a else b) := by cases t <;> rfl

/-! ### Regions that draw: memory -/
def dst (go : Job → Option Res) (G : List (List V)) (b0 i : Nat) (cx : List Nat) (d : Option Nat) (n : Nat) (a v : V) (r : List (IOper × Ord)) (D : DSt) : Option DSt :=
  dn go G b0 i cx d (match storeAt D.σ n a v with | some (id, o) => some (.skip, D.σ.set id o) | none => none) ⟨false, [], a.ids⟩ (match a.ids with | [id] => esc1 id v.top | _ => []) r D
def dstb (go : Job → Option Res) (G : List (List V)) (b0 i : Nat) (cx : List Nat) (d : Option Nat) (id off : Nat) (v : V) (o : Option Obj) (r : List (IOper × Ord)) (D : DSt) : Option DSt :=
  match o with
  | some (.box cs) => if off + v.cells.length ≤ cs.length then dn go G b0 i cx d (some (.skip, D.σ.set id (.box (setCells cs off v.cells)))) ⟨false, [], [id]⟩ (esc1 id v.top) r D else none
  | _ => none

section
variable {go : Job → Option Res} {G : List (List V)}
theorem isFree_lt {σ : Store} {n : Nat} (h : isFree σ[n]? = true) : n < σ.length := by
  cases hx : σ[n]? with
  | none => rw [hx] at h; cases h
  | some o => exact (List.getElem?_eq_some_iff.1 hx).1
theorem put_free {σ : Store} {n : Nat} (h : isFree σ[n]? = true) (o : Obj) : σ.put n o = σ.set n o := by
  have := isFree_lt h
  simp only [Store.put, if_neg (by omega : ¬ n = σ.length)]
theorem d_alloc {σ : Store} {b0 k : Nat} (h : isFree σ[b0 + k]? = true) (i : Nat) (aft cx : List Nat) (d : Option Nat) (cs : List V) (r : List (IOper × Ord)) (tm : List V) (log : List (Fp × Esc)) :
    dop go G b0 i ⟨aft, cx, some k⟩ d (.alloc cs) r ⟨tm, σ, log⟩ = dn go G b0 i cx d (some (.ptr (b0 + k) 0, σ.set (b0 + k) (.box cs))) ⟨false, [], [b0 + k]⟩ (esc1 (b0 + k) (V.topL cs)) r ⟨tm, σ, log⟩ := by
  simp only [dop, allocs, Option.getD_some, h, Bool.not_true, Bool.and_false, Bool.false_eq_true, if_false, ev1, foot, escOf, put_free h]
def dbx (go : Job → Option Res) (G : List (List V)) (b0 i : Nat) (cx : List Nat) (k : Nat) (d : Option Nat) (n : Nat) (v : V) (r : List (IOper × Ord)) (D : DSt) : Option DSt :=
  dn go G b0 i cx d (if v.cells.length = n ∧ v.cells.all V.isCell = true then some (.ptr (b0 + k) 0, D.σ.set (b0 + k) (.box v.cells)) else none) ⟨false, [], [b0 + k]⟩ (esc1 (b0 + k) v.top) r D
theorem d_box {σ : Store} {b0 k : Nat} (h : isFree σ[b0 + k]? = true) (i : Nat) (aft cx : List Nat) (d : Option Nat) (n : Nat) (x : Rd) (r : List (IOper × Ord)) (tm : List V) (log : List (Fp × Esc)) :
    dop go G b0 i ⟨aft, cx, some k⟩ d (.box n x) r ⟨tm, σ, log⟩ = dbx go G b0 i cx k d n (rdV G tm x) r ⟨tm, σ, log⟩ := by
  simp only [dop, allocs, Option.getD_some, h, Bool.not_true, Bool.and_false, Bool.false_eq_true, if_false, ev1, foot, escOf, put_free h, dbx]
theorem dbx_ok {n : Nat} {v : V} (h : okc n v.cells = true) (b0 i : Nat) (cx : List Nat) (k : Nat) (d : Option Nat) (r : List (IOper × Ord)) (tm : List V) (σ : Store) (log : List (Fp × Esc)) :
    dbx go G b0 i cx k d n v r ⟨tm, σ, log⟩ = dn go G b0 i cx d (some (.ptr (b0 + k) 0, σ.set (b0 + k) (.box v.cells))) ⟨false, [], [b0 + k]⟩ (esc1 (b0 + k) v.top) r ⟨tm, σ, log⟩ := by
  simp only [dbx, okc_len h, and_self, if_true]
theorem d_store (b0 i : Nat) (o : Ord) (d : Option Nat) (n : Nat) (a v : Rd) (r : List (IOper × Ord)) (tm : List V) (σ : Store) (log : List (Fp × Esc)) :
    dop go G b0 i o d (.store n a v) r ⟨tm, σ, log⟩ = dst go G b0 i o.cx d n (rdV G tm a) (rdV G tm v) r ⟨tm, σ, log⟩ := by
  simp only [dop, allocs, Bool.false_and, Bool.false_eq_true, if_false, ev1, foot, escOf, dst]
  rfl
theorem dst_ptr {n : Nat} {v : V} (h : okc n v.cells = true) (b0 i : Nat) (cx : List Nat) (d : Option Nat) (id off : Nat) (r : List (IOper × Ord)) (tm : List V) (σ : Store) (log : List (Fp × Esc)) :
    dst go G b0 i cx d n (.ptr id off) v r ⟨tm, σ, log⟩ = dstb go G b0 i cx d id off v σ[id]? r ⟨tm, σ, log⟩ := by
  obtain ⟨h1, h2⟩ := okc_len h
  simp only [dst, storeAt, h1, h2, and_self, if_true, dstb, V.ids]
  cases σ[id]? with
  | none => rfl
  | some o =>
    cases o <;> try rfl
    rename_i cs
    simp only
    by_cases hl : off + n ≤ cs.length
    · simp only [hl, if_true]
    · simp only [hl, if_false]; rfl
theorem dstb_box {cs : List V} {off : Nat} {v : V} (h : off + v.cells.length ≤ cs.length) (b0 i : Nat) (cx : List Nat) (d : Option Nat) (id : Nat) (r : List (IOper × Ord)) (tm : List V) (σ : Store) (log : List (Fp × Esc)) :
    dstb go G b0 i cx d id off v (some (.box cs)) r ⟨tm, σ, log⟩ = dn go G b0 i cx d (some (.skip, σ.set id (.box (setCells cs off v.cells)))) ⟨false, [], [id]⟩ (esc1 id v.top) r ⟨tm, σ, log⟩ := by
  simp only [dstb, h, if_true]
end
theorem trim_last (σ : Store) (o : Obj) (h : isFree (some o) = false) : ∀ n, (σ ++ [o]).trim n = σ ++ [o]
  | 0 => rfl
  | n + 1 => by
    unfold Store.trim
    rw [List.getLast?_concat]
    cases o <;> first | rfl | cases h
theorem wt : (∀ o, isFree (some o) = (match o with | .free => true | _ => false)) ∧ (∀ c n, Store.trim [.box c] n = [.box c]) ∧ (∀ (a : Obj) c n, Store.trim [a, .box c] n = [a, .box c]) ∧ (∀ (a b : Obj) c n, Store.trim [a, b, .box c] n = [a, b, .box c]) ∧
    (∀ (a b d : Obj) c n, Store.trim [a, b, d, .box c] n = [a, b, d, .box c]) ∧
    (∀ σ c n, Store.trim (σ ++ [.box c]) n = σ ++ [.box c]) ∧ (∀ σ (a : Obj) c n, Store.trim (σ ++ [a, .box c]) n = σ ++ [a, .box c]) ∧ (∀ σ (a b : Obj) c n, Store.trim (σ ++ [a, b, .box c]) n = σ ++ [a, b, .box c]) ∧
    (∀ σ (a b d : Obj) c n, Store.trim (σ ++ [a, b, d, .box c]) n = σ ++ [a, b, d, .box c]) ∧
    (∀ m xs, V.ids (.sl m xs) = []) ∧ (∀ a b, V.ids (.ptr a b) = [a]) ∧ (∀ a b c d, V.ids (.row a b c d) = [a]) ∧ (∀ cs, V.ids (.iptr cs) = []) ∧ (∀ a b c d, V.ids (.rptr a b c d) = [a]) ∧ (∀ s, V.ids (.str s) = []) ∧ (∀ a, V.ids (.mref a) = [a]) ∧
    (∀ r w r' w', clash ⟨false, r, w⟩ ⟨false, r', w'⟩ = (meets w r' || meets w w' || meets r w')) ∧ (∀ l, meets [] l = false) ∧ (∀ l, meets l [] = false) ∧ (∀ a l m, meets (a :: l) m = (m.contains a || meets l m)) ∧
    (∀ n k : Nat, (n == n + (k + 1)) = false) ∧ (∀ n k : Nat, (n + (k + 1) == n) = false) ∧ (∀ n k j : Nat, (n + k == n + j) = (k == j)) := by
  have tl := fun (σ : Store) (c : List V) (n : Nat) => trim_last σ (.box c) rfl n
  refine ⟨?_, ?_, ?_, ?_, ?_, ?_, ?_, ?_, ?_, ?_, ?_, ?_, ?_, ?_, ?_, ?_, ?_, ?_, ?_, ?_, ?_, ?_, ?_⟩
  · intro o; cases o <;> rfl
  · intro c n; exact tl [] c n
  · intro a c n; exact tl [a] c n
  · intro a b c n; exact tl [a, b] c n
  · intro a b d c n; exact tl [a, b, d] c n
  · exact tl
  · intro σ a c n; have := tl (σ ++ [a]) c n; simpa using this
  · intro σ a b c n; have := tl (σ ++ [a, b]) c n; simpa using this
  · intro σ a b d c n; have := tl (σ ++ [a, b, d]) c n; simpa using this
  all_goals intros
  all_goals first | rfl | (simp [clash, meets]; done) | (rw [Bool.eq_iff_iff]; simp)
  all_goals (simp [meets]; done)
end Go.Ev
