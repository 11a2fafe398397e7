/-
  Programs as plain data, and as the small machine's values.
-/
import Derived.Test.YthajiefjebcobaaDoorEvRules
set_option linter.all false
set_option linter.unusedSimpArgs false
set_option linter.unusedVariables false
namespace Go.Ev
open Go

inductive E where
  | mk (k num : Int) (tx nm ty : List Nat) (l : List E) (own : List Nat) (nth : Int)
inductive S where
  | mk (k num : Int) (ty nm : List Nat) (e : List E) (a b c : List S) (nth : Int)

mutual
def E.enc : E → V
  | .mk k num tx nm ty l own nth => .agg [.int .i64 k, .int .i32 num, .str tx, .str nm, .str ty, .sl .any (encEs l), .str own, .int .i64 nth]
def encEs : List E → List V
  | [] => []
  | e :: l => e.enc :: encEs l
end
mutual
def S.enc : S → V
  | .mk k num ty nm e a b c nth => .agg [.int .i64 k, .int .i32 num, .str ty, .str nm, .sl .any (encEs e), .sl .any (encSs a), .sl .any (encSs b), .sl .any (encSs c), .int .i64 nth]
def encSs : List S → List V
  | [] => []
  | s :: l => s.enc :: encSs l
end

theorem encEs_map (l : List E) : encEs l = l.map E.enc := by induction l <;> simp [encEs, *]
theorem encSs_map (l : List S) : encSs l = l.map S.enc := by induction l <;> simp [encSs, *]
theorem encEs_len (l : List E) : (encEs l).length = l.length := by simp [encEs_map]
theorem encSs_len (l : List S) : (encSs l).length = l.length := by simp [encSs_map]
theorem encEs_at (a : List E) (e : E) (b : List E) : (encEs (a ++ e :: b))[a.length]? = some e.enc := by simp [encEs_map]
theorem encSs_at (a : List S) (e : S) (b : List S) : (encSs (a ++ e :: b))[a.length]? = some e.enc := by simp [encSs_map]

mutual
theorem E.pure : ∀ (e : E), e.enc.pure = true
  | .mk k num tx nm ty l own nth => by simp [E.enc, V.pure, V.pureL, encEs_pure l]
theorem encEs_pure : ∀ (l : List E), V.pureL (encEs l) = true
  | [] => rfl
  | e :: l => by simp [encEs, V.pureL, E.pure e, encEs_pure l]
end
mutual
theorem S.pure : ∀ (e : S), e.enc.pure = true
  | .mk k num ty nm e a b c nth => by simp [S.enc, V.pure, V.pureL, encEs_pure e, encSs_pure a, encSs_pure b, encSs_pure c]
theorem encSs_pure : ∀ (l : List S), V.pureL (encSs l) = true
  | [] => rfl
  | e :: l => by simp [encSs, V.pureL, S.pure e, encSs_pure l]
end
theorem encEs_under (n : Nat) (l : List E) : V.underL n (encEs l) = true := underL_pure n _ (encEs_pure l)
theorem encSs_under (n : Nat) (l : List S) : V.underL n (encSs l) = true := underL_pure n _ (encSs_pure l)
theorem encEs_top (l : List E) : V.topL (encEs l) = 0 := topL_of_pure _ (encEs_pure l)
theorem encSs_top (l : List S) : V.topL (encSs l) = 0 := topL_of_pure _ (encSs_pure l)

theorem E.all {P : E → Prop} (h : ∀ k num tx nm ty l own nth, (∀ e ∈ l, P e) → P (.mk k num tx nm ty l own nth)) : ∀ e, P e
  | .mk k num tx nm ty l own nth => h k num tx nm ty l own nth fun e he => E.all h e
termination_by e => sizeOf e
decreasing_by
  have := List.sizeOf_lt_of_mem he
  simp only [E.mk.sizeOf_spec]
  omega
theorem S.all {P : S → Prop} (h : ∀ k num ty nm e a b c nth, (∀ s ∈ a, P s) → (∀ s ∈ b, P s) → (∀ s ∈ c, P s) → P (.mk k num ty nm e a b c nth)) : ∀ s, P s
  | .mk k num ty nm e a b c nth => h k num ty nm e a b c nth (fun s hs => S.all h s) (fun s hs => S.all h s) (fun s hs => S.all h s)
termination_by s => sizeOf s
decreasing_by
  all_goals
    have := List.sizeOf_lt_of_mem hs
    simp only [S.mk.sizeOf_spec]
    omega

/-! ### Sizes -/
mutual
def E.size : E → Nat
  | .mk _ _ _ _ _ l _ _ => 1 + sizeEs l
def sizeEs : List E → Nat
  | [] => 0
  | e :: l => e.size + sizeEs l
end
mutual
def S.size : S → Nat
  | .mk _ _ _ _ e a b c _ => 1 + sizeEs e + sizeSs a + sizeSs b + sizeSs c
def sizeSs : List S → Nat
  | [] => 0
  | s :: l => s.size + sizeSs l
end
theorem size_mem {e : E} {l : List E} (h : e ∈ l) : e.size ≤ sizeEs l := by
  induction l with
  | nil => cases h
  | cons x l ih =>
    rcases List.mem_cons.1 h with rfl | h
    · simp only [sizeEs]; omega
    · have := ih h; simp only [sizeEs]; omega
theorem size_memS {e : S} {l : List S} (h : e ∈ l) : e.size ≤ sizeSs l := by
  induction l with
  | nil => cases h
  | cons x l ih =>
    rcases List.mem_cons.1 h with rfl | h
    · simp only [sizeSs]; omega
    · have := ih h; simp only [sizeSs]; omega
theorem size_pos (e : E) : 1 ≤ e.size := by cases e; simp only [E.size]; omega
theorem size_posS (e : S) : 1 ≤ e.size := by cases e; simp only [S.size]; omega
theorem len_size (l : List E) : l.length ≤ sizeEs l := by
  induction l with
  | nil => simp [sizeEs]
  | cons e l ih => have := size_pos e; simp only [sizeEs, List.length_cons]; omega
theorem len_sizeS (l : List S) : l.length ≤ sizeSs l := by
  induction l with
  | nil => simp [sizeSs]
  | cons e l ih => have := size_posS e; simp only [sizeSs, List.length_cons]; omega
end Go.Ev
