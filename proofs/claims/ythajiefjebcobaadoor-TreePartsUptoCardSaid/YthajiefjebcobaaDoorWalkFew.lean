/-
  The guards of the statements: how few nodes.
-/
import Derived.Test.YthajiefjebcobaaDoorWalkRef
set_option linter.all false
set_option maxRecDepth 100000
set_option linter.unusedSimpArgs false
set_option linter.unusedVariables false
namespace Go.Ev
open Go
variable {G : List (List V)}

def badE : E → Nat → Bool
  | .mk _ _ tx nm ty _ _ _, d => decide (60 < d) || (decide (2000 < tx.length) || (decide (100 < nm.length) || decide (100 < ty.length)))
mutual
/-- What 'exprs' counts of an expression's parts. -/
def fewE : E → Nat → Nat
  | .mk _ _ _ _ _ l _ _, d => fewEs l d 0
def fewEs : List E → Nat → Nat → Nat
  | [], _, n => min n 401
  | e :: l, d, n => if n < 401 then (if badE e d then 401 else fewEs l d (n + 1 + fewE e (d + 1))) else min n 401
end
theorem fewEs_le : ∀ (l : List E) (d n : Nat), fewEs l d n ≤ 401
  | [], d, n => by simp only [fewEs]; omega
  | e :: l, d, n => by
    simp only [fewEs]
    split
    · split
      · omega
      · exact fewEs_le l d _
    · omega

set_option maxHeartbeats 4000000 in
theorem f21_loop (b a : List E) (d n : Nat) (σ : Store) (hn : n ≤ 1000) (hl : ((a ++ b).length : Int) ≤ 1099511627776)
    (hc : ∀ e ∈ b, d ≤ 60 → ∀ k num tx nm ty l own nth, e = .mk k num tx nm ty l own nth → lim F G (.call 21 [.sl .any (encEs l), .int .i64 (d + 1 : Nat)] [] false) = retv (.int .i64 (fewEs l (d + 1) 0))) :
    (∃ n' : Nat, lim F G (.loop [0, 1, 5, 6] f21_l0 ⟨[.sl .any (encEs (a ++ b)), .int .i64 d, .any, .any, .any, .int .i64 n, .int .i64 a.length, .any, .any, .any, .any, .any, .any, .any, .any, .any, .any, .any, .any, .any, .any, .any, .any, .any, .any, .any, .any, .any, .any, .any, .any, .any, .any, .any, .any, .any, .any, .any, .any, .any, .any, .any, .any, .any, .any, .any, .any, .any, .any, .any, .any, .any, .any, .any, .any, .any, .any, .any, .any], σ, []⟩) = some (.code (.exit 0) ⟨[.any, .any, .any, .any, .any, .int .i64 n', .any, .any, .any, .any, .any, .any, .any, .any, .any, .any, .any, .any, .any, .any, .any, .any, .any, .any, .any, .any, .any, .any, .any, .any, .any, .any, .any, .any, .any, .any, .any, .any, .any, .any, .any, .any, .any, .any, .any, .any, .any, .any, .any, .any, .any, .any, .any, .any, .any, .any, .any, .any, .any], σ, []⟩) ∧ fewEs b d n = min n' 401) ∨
    (∃ σ', lim F G (.loop [0, 1, 5, 6] f21_l0 ⟨[.sl .any (encEs (a ++ b)), .int .i64 d, .any, .any, .any, .int .i64 n, .int .i64 a.length, .any, .any, .any, .any, .any, .any, .any, .any, .any, .any, .any, .any, .any, .any, .any, .any, .any, .any, .any, .any, .any, .any, .any, .any, .any, .any, .any, .any, .any, .any, .any, .any, .any, .any, .any, .any, .any, .any, .any, .any, .any, .any, .any, .any, .any, .any, .any, .any, .any, .any, .any, .any], σ, []⟩) = some (.code .ret ⟨[.any, .any, .any, .any, .int .i64 401, .any, .any, .any, .any, .any, .any, .any, .any, .any, .any, .any, .any, .any, .any, .any, .any, .any, .any, .any, .any, .any, .any, .any, .any, .any, .any, .any, .any, .any, .any, .any, .any, .any, .any, .any, .any, .any, .any, .any, .any, .any, .any, .any, .any, .any, .any, .any, .any, .any, .any, .any, .any, .any, .any], σ', []⟩) ∧ fewEs b d n = 401) := by
  induction b generalizing a n with
  | nil =>
    left
    refine ⟨n, ?_, rfl⟩
    rw [lim_round f21_l0.eq_1]
    simp only [wc, wb, wz, wo, wv, wm, wx, wl, wk, wu, wd, wr, wf, wt, d_alloc, d_box, dbx_ok, d_store, dst_ptr, dstb_box, w_cond, w_gd, w_build, d_build, w_parts, fill_cons, bx_ok, st_ptr, stb_box, w_dreg, dv, dz, d_op, d_gd, dn_ok, Nat.reduceAdd, Nat.reduceSub, Nat.reduceMul, Nat.reduceLeDiff, Nat.reduceLT, Nat.reduceBEq, Nat.reduceEqDiff, Nat.zero_add, Nat.add_zero, Nat.le_refl, Nat.max_self, reduceIte, reduceCtorEq, decide_true, decide_false, Bool.and_true, Bool.true_and, Bool.and_false, Bool.false_and, Bool.or_false, Bool.false_or, Bool.or_true, Bool.true_or, Bool.not_true, Bool.not_false, BEq.rfl, Int.toNat_natCast, and_self, and_true, true_and, List.contains_cons, List.contains_nil, List.isEmpty_cons, List.isEmpty_nil, Option.getD_none, Option.getD_some, Option.map_none, Option.map_some, Option.isSome_none, Option.isSome_some, List.append_nil, encEs_len, Int.lt_irrefl]
  | cons e b ih =>
    have h1 : decide (((a.length : Nat) : Int) < ((a ++ e :: b).length : Nat)) = true := by simp; omega
    have h0 : (0:Int) ≤ a.length := by omega
    by_cases hn4 : n < 401
    · have h2 : decide ((n : Int) < 401) = true := by simp; omega
      have hs : fewEs (e :: b) d n = if badE e d then 401 else fewEs b d (n + 1 + fewE e (d + 1)) := by rw [fewEs, if_pos hn4]
      rw [hs]
      obtain ⟨k, num, tx, nm, ty, l, own, nth⟩ := e
      simp only [badE, fewE]
      by_cases c1 : 60 < d
      · right
        have g1 : decide ((d : Int) > 60) = true := by simp; omega
        refine ⟨σ, ?_, by simp [c1]⟩
        rw [lim_round f21_l0.eq_1]
        simp only [wc, wb, wz, wo, wv, wm, wx, wl, wk, wu, wd, wr, wf, wt, d_alloc, d_box, dbx_ok, d_store, dst_ptr, dstb_box, w_cond, w_gd, w_build, d_build, w_parts, fill_cons, bx_ok, st_ptr, stb_box, w_dreg, dv, dz, d_op, d_gd, dn_ok, Nat.reduceAdd, Nat.reduceSub, Nat.reduceMul, Nat.reduceLeDiff, Nat.reduceLT, Nat.reduceBEq, Nat.reduceEqDiff, Nat.zero_add, Nat.add_zero, Nat.le_refl, Nat.max_self, reduceIte, reduceCtorEq, decide_true, decide_false, Bool.and_true, Bool.true_and, Bool.and_false, Bool.false_and, Bool.or_false, Bool.false_or, Bool.or_true, Bool.true_or, Bool.not_true, Bool.not_false, BEq.rfl, Int.toNat_natCast, and_self, and_true, true_and, List.contains_cons, List.contains_nil, List.isEmpty_cons, List.isEmpty_nil, Option.getD_none, Option.getD_some, Option.map_none, Option.map_some, Option.isSome_none, Option.isSome_some, encEs_len, h1, h2, h0, g1]
      have g1 : decide ((d : Int) > 60) = false := by simp; omega
      by_cases c2 : 2000 < tx.length
      · right
        have g2 : decide ((tx.length : Int) > 2000) = true := by simp; omega
        refine ⟨σ, ?_, by simp [c2]⟩
        rw [lim_round f21_l0.eq_1]
        simp only [wc, wb, wz, wo, wv, wm, wx, wl, wk, wu, wd, wr, wf, wt, d_alloc, d_box, dbx_ok, d_store, dst_ptr, dstb_box, w_cond, w_gd, w_build, d_build, w_parts, fill_cons, bx_ok, st_ptr, stb_box, w_dreg, dv, dz, d_op, d_gd, dn_ok, Nat.reduceAdd, Nat.reduceSub, Nat.reduceMul, Nat.reduceLeDiff, Nat.reduceLT, Nat.reduceBEq, Nat.reduceEqDiff, Nat.zero_add, Nat.add_zero, Nat.le_refl, Nat.max_self, reduceIte, reduceCtorEq, decide_true, decide_false, Bool.and_true, Bool.true_and, Bool.and_false, Bool.false_and, Bool.or_false, Bool.false_or, Bool.or_true, Bool.true_or, Bool.not_true, Bool.not_false, BEq.rfl, Int.toNat_natCast, and_self, and_true, true_and, List.contains_cons, List.contains_nil, List.isEmpty_cons, List.isEmpty_nil, Option.getD_none, Option.getD_some, Option.map_none, Option.map_some, Option.isSome_none, Option.isSome_some, encEs_len, h1, h2, h0, g1, g2, encEs_at, E.enc]
      have g2 : decide ((tx.length : Int) > 2000) = false := by simp; omega
      by_cases c3 : 100 < nm.length
      · right
        have g3 : decide ((nm.length : Int) > 100) = true := by simp; omega
        refine ⟨σ, ?_, by simp [c3]⟩
        rw [lim_round f21_l0.eq_1]
        simp only [wc, wb, wz, wo, wv, wm, wx, wl, wk, wu, wd, wr, wf, wt, d_alloc, d_box, dbx_ok, d_store, dst_ptr, dstb_box, w_cond, w_gd, w_build, d_build, w_parts, fill_cons, bx_ok, st_ptr, stb_box, w_dreg, dv, dz, d_op, d_gd, dn_ok, Nat.reduceAdd, Nat.reduceSub, Nat.reduceMul, Nat.reduceLeDiff, Nat.reduceLT, Nat.reduceBEq, Nat.reduceEqDiff, Nat.zero_add, Nat.add_zero, Nat.le_refl, Nat.max_self, reduceIte, reduceCtorEq, decide_true, decide_false, Bool.and_true, Bool.true_and, Bool.and_false, Bool.false_and, Bool.or_false, Bool.false_or, Bool.or_true, Bool.true_or, Bool.not_true, Bool.not_false, BEq.rfl, Int.toNat_natCast, and_self, and_true, true_and, List.contains_cons, List.contains_nil, List.isEmpty_cons, List.isEmpty_nil, Option.getD_none, Option.getD_some, Option.map_none, Option.map_some, Option.isSome_none, Option.isSome_some, encEs_len, h1, h2, h0, g1, g2, g3, encEs_at, E.enc]
      have g3 : decide ((nm.length : Int) > 100) = false := by simp; omega
      by_cases c4 : 100 < ty.length
      · right
        have g4 : decide ((ty.length : Int) > 100) = true := by simp; omega
        refine ⟨σ, ?_, by simp [c4]⟩
        rw [lim_round f21_l0.eq_1]
        simp only [wc, wb, wz, wo, wv, wm, wx, wl, wk, wu, wd, wr, wf, wt, d_alloc, d_box, dbx_ok, d_store, dst_ptr, dstb_box, w_cond, w_gd, w_build, d_build, w_parts, fill_cons, bx_ok, st_ptr, stb_box, w_dreg, dv, dz, d_op, d_gd, dn_ok, Nat.reduceAdd, Nat.reduceSub, Nat.reduceMul, Nat.reduceLeDiff, Nat.reduceLT, Nat.reduceBEq, Nat.reduceEqDiff, Nat.zero_add, Nat.add_zero, Nat.le_refl, Nat.max_self, reduceIte, reduceCtorEq, decide_true, decide_false, Bool.and_true, Bool.true_and, Bool.and_false, Bool.false_and, Bool.or_false, Bool.false_or, Bool.or_true, Bool.true_or, Bool.not_true, Bool.not_false, BEq.rfl, Int.toNat_natCast, and_self, and_true, true_and, List.contains_cons, List.contains_nil, List.isEmpty_cons, List.isEmpty_nil, Option.getD_none, Option.getD_some, Option.map_none, Option.map_some, Option.isSome_none, Option.isSome_some, encEs_len, h1, h2, h0, g1, g2, g3, g4, encEs_at, E.enc]
      have g4 : decide ((ty.length : Int) > 100) = false := by simp; omega
      have hb : (decide (60 < d) || (decide (2000 < tx.length) || (decide (100 < nm.length) || decide (100 < ty.length)))) = false := by simp; omega
      simp only [hb, Bool.false_eq_true, if_false]
      have hle := fewEs_le l (d + 1) 0
      have hq := hc _ (List.mem_cons_self ..) (by omega) k num tx nm ty l own nth rfl
      have w1 : IntKind.i64.wrap ((n : Int) + 1) = n + 1 := wrap_ok (by omega)
      have w3 : IntKind.i64.wrap ((d : Int) + 1) = (d + 1 : Nat) := wrap_ok (by omega)
      have w4 : IntKind.i64.wrap ((n : Int) + 1 + fewEs l (d + 1) 0) = (n + 1 + fewEs l (d + 1) 0 : Nat) := wrap_ok (by omega)
      have w2 : IntKind.i64.wrap ((a.length : Nat) + 1) = ((a ++ [E.mk k num tx nm ty l own nth]).length : Nat) := by
        have hl' : ((a.length : Nat) : Int) ≤ 1099511627776 := by simp at hl; omega
        rw [wrap_ok (by omega)]; simp
      have step : lim F G (.loop [0, 1, 5, 6] f21_l0 ⟨[.sl .any (encEs (a ++ .mk k num tx nm ty l own nth :: b)), .int .i64 d, .any, .any, .any, .int .i64 n, .int .i64 a.length, .any, .any, .any, .any, .any, .any, .any, .any, .any, .any, .any, .any, .any, .any, .any, .any, .any, .any, .any, .any, .any, .any, .any, .any, .any, .any, .any, .any, .any, .any, .any, .any, .any, .any, .any, .any, .any, .any, .any, .any, .any, .any, .any, .any, .any, .any, .any, .any, .any, .any, .any, .any], σ, []⟩) =
          lim F G (.loop [0, 1, 5, 6] f21_l0 ⟨[.sl .any (encEs (a ++ .mk k num tx nm ty l own nth :: b)), .int .i64 d, .any, .any, .any, .int .i64 (n + 1 + fewEs l (d + 1) 0 : Nat), .int .i64 ((a ++ [E.mk k num tx nm ty l own nth]).length : Nat), .any, .any, .any, .any, .any, .any, .any, .any, .any, .any, .any, .any, .any, .any, .any, .any, .any, .any, .any, .any, .any, .any, .any, .any, .any, .any, .any, .any, .any, .any, .any, .any, .any, .any, .any, .any, .any, .any, .any, .any, .any, .any, .any, .any, .any, .any, .any, .any, .any, .any, .any, .any], σ, []⟩) := by
        rw [lim_round f21_l0.eq_1]
        simp only [wc, wb, wz, wo, wv, wm, wx, wl, wk, wu, wd, wr, wf, wt, d_alloc, d_box, dbx_ok, d_store, dst_ptr, dstb_box, w_cond, w_gd, w_build, d_build, w_parts, fill_cons, bx_ok, st_ptr, stb_box, w_dreg, dv, dz, d_op, d_gd, dn_ok, Nat.reduceAdd, Nat.reduceSub, Nat.reduceMul, Nat.reduceLeDiff, Nat.reduceLT, Nat.reduceBEq, Nat.reduceEqDiff, Nat.zero_add, Nat.add_zero, Nat.le_refl, Nat.max_self, reduceIte, reduceCtorEq, decide_true, decide_false, Bool.and_true, Bool.true_and, Bool.and_false, Bool.false_and, Bool.or_false, Bool.false_or, Bool.or_true, Bool.true_or, Bool.not_true, Bool.not_false, BEq.rfl, Int.toNat_natCast, and_self, and_true, true_and, List.contains_cons, List.contains_nil, List.isEmpty_cons, List.isEmpty_nil, Option.getD_none, Option.getD_some, Option.map_none, Option.map_some, Option.isSome_none, Option.isSome_some, encEs_len, h1, h2, h0, g1, g2, g3, g4, encEs_at, E.enc, encEs_pure, encEs_under, cx_pure, w1, w2, w3, w4, hq, retv, ca_ret, tidy_ok, tidy_same]
      rw [step]
      have ih' := ih (a ++ [.mk k num tx nm ty l own nth]) (n + 1 + fewEs l (d + 1) 0) (by omega) (by simpa using hl) (fun e he => hc e (by simp [he]))
      simp only [List.append_assoc, List.singleton_append] at ih'
      exact ih'
    · left
      have h2 : decide ((n : Int) < 401) = false := by simp; omega
      refine ⟨n, ?_, by rw [fewEs, if_neg hn4]⟩
      rw [lim_round f21_l0.eq_1]
      simp only [wc, wb, wz, wo, wv, wm, wx, wl, wk, wu, wd, wr, wf, wt, d_alloc, d_box, dbx_ok, d_store, dst_ptr, dstb_box, w_cond, w_gd, w_build, d_build, w_parts, fill_cons, bx_ok, st_ptr, stb_box, w_dreg, dv, dz, d_op, d_gd, dn_ok, Nat.reduceAdd, Nat.reduceSub, Nat.reduceMul, Nat.reduceLeDiff, Nat.reduceLT, Nat.reduceBEq, Nat.reduceEqDiff, Nat.zero_add, Nat.add_zero, Nat.le_refl, Nat.max_self, reduceIte, reduceCtorEq, decide_true, decide_false, Bool.and_true, Bool.true_and, Bool.and_false, Bool.false_and, Bool.or_false, Bool.false_or, Bool.or_true, Bool.true_or, Bool.not_true, Bool.not_false, BEq.rfl, Int.toNat_natCast, and_self, and_true, true_and, List.contains_cons, List.contains_nil, List.isEmpty_cons, List.isEmpty_nil, Option.getD_none, Option.getD_some, Option.map_none, Option.map_some, Option.isSome_none, Option.isSome_some, encEs_len, h1, h2]

theorem min401 (n : Nat) : (if (401 : Int) < n then (401 : Int) else n) = (min n 401 : Nat) := by
  split <;> omega

theorem run21_of (l : List E) (d : Nat) (hd : d ≤ 61) (hl : (l.length : Int) ≤ 1099511627776)
    (hc : ∀ e ∈ l, d ≤ 60 → ∀ k num tx nm ty l own nth, e = .mk k num tx nm ty l own nth → lim F G (.call 21 [.sl .any (encEs l), .int .i64 (d + 1 : Nat)] [] false) = retv (.int .i64 (fewEs l (d + 1) 0))) :
    lim F G (.call 21 [.sl .any (encEs l), .int .i64 d] [] false) = retv (.int .i64 (fewEs l d 0)) := by
  have lp := f21_loop (G := G) l [] d 0 [] (by omega) (by simpa using hl) hc
  simp only [List.nil_append, List.length_nil, Int.natCast_zero] at lp
  rw [lim_fun F21 rfl]
  rcases lp with ⟨n', lp, e⟩ | ⟨σ', lp, e⟩
  · rw [e]
    simp only [f21, f21_b, wc, wb, wz, wo, wv, wm, wx, wl, wk, wu, wd, wr, wf, wt, d_alloc, d_box, dbx_ok, d_store, dst_ptr, dstb_box, w_cond, w_gd, w_build, d_build, w_parts, fill_cons, bx_ok, st_ptr, stb_box, w_dreg, dv, dz, d_op, d_gd, dn_ok, Nat.reduceAdd, Nat.reduceSub, Nat.reduceMul, Nat.reduceLeDiff, Nat.reduceLT, Nat.reduceBEq, Nat.reduceEqDiff, Nat.zero_add, Nat.add_zero, Nat.le_refl, Nat.max_self, reduceIte, reduceCtorEq, decide_true, decide_false, Bool.and_true, Bool.true_and, Bool.and_false, Bool.false_and, Bool.or_false, Bool.false_or, Bool.or_true, Bool.true_or, Bool.not_true, Bool.not_false, BEq.rfl, Int.toNat_natCast, and_self, and_true, true_and, List.contains_cons, List.contains_nil, List.isEmpty_cons, List.isEmpty_nil, Option.getD_none, Option.getD_some, Option.map_none, Option.map_some, Option.isSome_none, Option.isSome_some, lp, leave_pure, min401]
  · rw [e]
    simp only [f21, f21_b, wc, wb, wz, wo, wv, wm, wx, wl, wk, wu, wd, wr, wf, wt, d_alloc, d_box, dbx_ok, d_store, dst_ptr, dstb_box, w_cond, w_gd, w_build, d_build, w_parts, fill_cons, bx_ok, st_ptr, stb_box, w_dreg, dv, dz, d_op, d_gd, dn_ok, Nat.reduceAdd, Nat.reduceSub, Nat.reduceMul, Nat.reduceLeDiff, Nat.reduceLT, Nat.reduceBEq, Nat.reduceEqDiff, Nat.zero_add, Nat.add_zero, Nat.le_refl, Nat.max_self, reduceIte, reduceCtorEq, decide_true, decide_false, Bool.and_true, Bool.true_and, Bool.and_false, Bool.false_and, Bool.or_false, Bool.false_or, Bool.or_true, Bool.true_or, Bool.not_true, Bool.not_false, BEq.rfl, Int.toNat_natCast, and_self, and_true, true_and, List.contains_cons, List.contains_nil, List.isEmpty_cons, List.isEmpty_nil, Option.getD_none, Option.getD_some, Option.map_none, Option.map_some, Option.isSome_none, Option.isSome_some, lp, leave_pure]
    rfl

theorem run21 : ∀ (N : Nat) (l : List E) (d : Nat), sizeEs l ≤ N → N ≤ 1099511627776 → d ≤ 61 → lim F G (.call 21 [.sl .any (encEs l), .int .i64 d] [] false) = retv (.int .i64 (fewEs l d 0))
  | 0, l, d, h, hN, hd => by
    have hl := len_size l
    exact run21_of l d hd (by omega) fun e he => by have := List.length_pos_of_mem he; omega
  | N + 1, l, d, h, hN, hd => by
    have hl := len_size l
    refine run21_of l d hd (by omega) fun e he hd' k num tx nm ty m own nth hm => ?_
    have := size_mem he
    subst hm
    have hs : (E.mk k num tx nm ty m own nth).size = 1 + sizeEs m := rfl
    exact run21 N m (d + 1) (by omega) (by omega) (by omega)

def badS : S → Nat → Bool
  | .mk _ _ ty nm _ _ _ _ _, d => decide (60 < d) || (decide (100 < nm.length) || decide (100 < ty.length))
mutual
/-- What 'stmts' counts of a statement's parts. -/
def fewS : S → Nat → Nat
  | .mk _ _ _ _ es a b c _, d => fewEs es 0 0 + fewSs a d 0 + fewSs b d 0 + fewSs c d 0
def fewSs : List S → Nat → Nat → Nat
  | [], _, n => min n 401
  | e :: l, d, n => if n < 401 then (if badS e d then 401 else fewSs l d (n + 1 + fewS e (d + 1))) else min n 401
end
theorem fewSs_le : ∀ (l : List S) (d n : Nat), fewSs l d n ≤ 401
  | [], d, n => by simp only [fewSs]; omega
  | e :: l, d, n => by
    simp only [fewSs]
    split
    · split
      · omega
      · exact fewSs_le l d _
    · omega

set_option maxHeartbeats 4000000 in
theorem f22_loop (b a : List S) (d n : Nat) (σ : Store) (hn : n ≤ 4000) (hl : ((a ++ b).length : Int) ≤ 1099511627776)
    (hc : ∀ e ∈ b, d ≤ 60 → ∀ k num ty nm es x y z nth, e = .mk k num ty nm es x y z nth → sizeEs es ≤ 1099511627776 ∧ lim F G (.call 22 [.sl .any (encSs x), .int .i64 (d + 1 : Nat)] [] false) = retv (.int .i64 (fewSs x (d + 1) 0)) ∧
      lim F G (.call 22 [.sl .any (encSs y), .int .i64 (d + 1 : Nat)] [] false) = retv (.int .i64 (fewSs y (d + 1) 0)) ∧ lim F G (.call 22 [.sl .any (encSs z), .int .i64 (d + 1 : Nat)] [] false) = retv (.int .i64 (fewSs z (d + 1) 0))) :
    (∃ n' : Nat, lim F G (.loop [0, 1, 5, 6] f22_l0 ⟨[.sl .any (encSs (a ++ b)), .int .i64 d, .any, .any, .any, .int .i64 n, .int .i64 a.length, .any, .any, .any, .any, .any, .any, .any, .any, .any, .any, .any, .any, .any, .any, .any, .any, .any, .any, .any, .any, .any, .any, .any, .any, .any, .any, .any, .any, .any, .any, .any, .any, .any, .any, .any, .any, .any, .any, .any, .any, .any, .any, .any, .any, .any, .any, .any, .any, .any, .any, .any, .any, .any, .any, .any, .any, .any, .any, .any, .any, .any, .any, .any, .any, .any, .any, .any, .any], σ, []⟩) = some (.code (.exit 0) ⟨[.any, .any, .any, .any, .any, .int .i64 n', .any, .any, .any, .any, .any, .any, .any, .any, .any, .any, .any, .any, .any, .any, .any, .any, .any, .any, .any, .any, .any, .any, .any, .any, .any, .any, .any, .any, .any, .any, .any, .any, .any, .any, .any, .any, .any, .any, .any, .any, .any, .any, .any, .any, .any, .any, .any, .any, .any, .any, .any, .any, .any, .any, .any, .any, .any, .any, .any, .any, .any, .any, .any, .any, .any, .any, .any, .any, .any], σ, []⟩) ∧ fewSs b d n = min n' 401) ∨
    (∃ σ', lim F G (.loop [0, 1, 5, 6] f22_l0 ⟨[.sl .any (encSs (a ++ b)), .int .i64 d, .any, .any, .any, .int .i64 n, .int .i64 a.length, .any, .any, .any, .any, .any, .any, .any, .any, .any, .any, .any, .any, .any, .any, .any, .any, .any, .any, .any, .any, .any, .any, .any, .any, .any, .any, .any, .any, .any, .any, .any, .any, .any, .any, .any, .any, .any, .any, .any, .any, .any, .any, .any, .any, .any, .any, .any, .any, .any, .any, .any, .any, .any, .any, .any, .any, .any, .any, .any, .any, .any, .any, .any, .any, .any, .any, .any, .any], σ, []⟩) = some (.code .ret ⟨[.any, .any, .any, .any, .int .i64 401, .any, .any, .any, .any, .any, .any, .any, .any, .any, .any, .any, .any, .any, .any, .any, .any, .any, .any, .any, .any, .any, .any, .any, .any, .any, .any, .any, .any, .any, .any, .any, .any, .any, .any, .any, .any, .any, .any, .any, .any, .any, .any, .any, .any, .any, .any, .any, .any, .any, .any, .any, .any, .any, .any, .any, .any, .any, .any, .any, .any, .any, .any, .any, .any, .any, .any, .any, .any, .any, .any], σ', []⟩) ∧ fewSs b d n = 401) := by
  induction b generalizing a n with
  | nil =>
    left
    refine ⟨n, ?_, rfl⟩
    rw [lim_round f22_l0.eq_1]
    simp only [wc, wb, wz, wo, wv, wm, wx, wl, wk, wu, wd, wr, wf, wt, d_alloc, d_box, dbx_ok, d_store, dst_ptr, dstb_box, w_cond, w_gd, w_build, d_build, w_parts, fill_cons, bx_ok, st_ptr, stb_box, w_dreg, dv, dz, d_op, d_gd, dn_ok, Nat.reduceAdd, Nat.reduceSub, Nat.reduceMul, Nat.reduceLeDiff, Nat.reduceLT, Nat.reduceBEq, Nat.reduceEqDiff, Nat.zero_add, Nat.add_zero, Nat.le_refl, Nat.max_self, reduceIte, reduceCtorEq, decide_true, decide_false, Bool.and_true, Bool.true_and, Bool.and_false, Bool.false_and, Bool.or_false, Bool.false_or, Bool.or_true, Bool.true_or, Bool.not_true, Bool.not_false, BEq.rfl, Int.toNat_natCast, and_self, and_true, true_and, List.contains_cons, List.contains_nil, List.isEmpty_cons, List.isEmpty_nil, Option.getD_none, Option.getD_some, Option.map_none, Option.map_some, Option.isSome_none, Option.isSome_some, List.append_nil, encSs_len, Int.lt_irrefl]
  | cons e b ih =>
    have h1 : decide (((a.length : Nat) : Int) < ((a ++ e :: b).length : Nat)) = true := by simp; omega
    have h0 : (0:Int) ≤ a.length := by omega
    by_cases hn4 : n < 401
    · have h2 : decide ((n : Int) < 401) = true := by simp; omega
      have hs : fewSs (e :: b) d n = if badS e d then 401 else fewSs b d (n + 1 + fewS e (d + 1)) := by rw [fewSs, if_pos hn4]
      rw [hs]
      obtain ⟨k, num, ty, nm, es, x, y, z, nth⟩ := e
      simp only [badS, fewS]
      by_cases c1 : 60 < d
      · right
        have g1 : decide ((d : Int) > 60) = true := by simp; omega
        refine ⟨σ, ?_, by simp [c1]⟩
        rw [lim_round f22_l0.eq_1]
        simp only [wc, wb, wz, wo, wv, wm, wx, wl, wk, wu, wd, wr, wf, wt, d_alloc, d_box, dbx_ok, d_store, dst_ptr, dstb_box, w_cond, w_gd, w_build, d_build, w_parts, fill_cons, bx_ok, st_ptr, stb_box, w_dreg, dv, dz, d_op, d_gd, dn_ok, Nat.reduceAdd, Nat.reduceSub, Nat.reduceMul, Nat.reduceLeDiff, Nat.reduceLT, Nat.reduceBEq, Nat.reduceEqDiff, Nat.zero_add, Nat.add_zero, Nat.le_refl, Nat.max_self, reduceIte, reduceCtorEq, decide_true, decide_false, Bool.and_true, Bool.true_and, Bool.and_false, Bool.false_and, Bool.or_false, Bool.false_or, Bool.or_true, Bool.true_or, Bool.not_true, Bool.not_false, BEq.rfl, Int.toNat_natCast, and_self, and_true, true_and, List.contains_cons, List.contains_nil, List.isEmpty_cons, List.isEmpty_nil, Option.getD_none, Option.getD_some, Option.map_none, Option.map_some, Option.isSome_none, Option.isSome_some, encSs_len, h1, h2, h0, g1]
      have g1 : decide ((d : Int) > 60) = false := by simp; omega
      by_cases c3 : 100 < nm.length
      · right
        have g3 : decide ((nm.length : Int) > 100) = true := by simp; omega
        refine ⟨σ, ?_, by simp [c3]⟩
        rw [lim_round f22_l0.eq_1]
        simp only [wc, wb, wz, wo, wv, wm, wx, wl, wk, wu, wd, wr, wf, wt, d_alloc, d_box, dbx_ok, d_store, dst_ptr, dstb_box, w_cond, w_gd, w_build, d_build, w_parts, fill_cons, bx_ok, st_ptr, stb_box, w_dreg, dv, dz, d_op, d_gd, dn_ok, Nat.reduceAdd, Nat.reduceSub, Nat.reduceMul, Nat.reduceLeDiff, Nat.reduceLT, Nat.reduceBEq, Nat.reduceEqDiff, Nat.zero_add, Nat.add_zero, Nat.le_refl, Nat.max_self, reduceIte, reduceCtorEq, decide_true, decide_false, Bool.and_true, Bool.true_and, Bool.and_false, Bool.false_and, Bool.or_false, Bool.false_or, Bool.or_true, Bool.true_or, Bool.not_true, Bool.not_false, BEq.rfl, Int.toNat_natCast, and_self, and_true, true_and, List.contains_cons, List.contains_nil, List.isEmpty_cons, List.isEmpty_nil, Option.getD_none, Option.getD_some, Option.map_none, Option.map_some, Option.isSome_none, Option.isSome_some, encSs_len, h1, h2, h0, g1, g3, encSs_at, S.enc]
      have g3 : decide ((nm.length : Int) > 100) = false := by simp; omega
      by_cases c4 : 100 < ty.length
      · right
        have g4 : decide ((ty.length : Int) > 100) = true := by simp; omega
        refine ⟨σ, ?_, by simp [c4]⟩
        rw [lim_round f22_l0.eq_1]
        simp only [wc, wb, wz, wo, wv, wm, wx, wl, wk, wu, wd, wr, wf, wt, d_alloc, d_box, dbx_ok, d_store, dst_ptr, dstb_box, w_cond, w_gd, w_build, d_build, w_parts, fill_cons, bx_ok, st_ptr, stb_box, w_dreg, dv, dz, d_op, d_gd, dn_ok, Nat.reduceAdd, Nat.reduceSub, Nat.reduceMul, Nat.reduceLeDiff, Nat.reduceLT, Nat.reduceBEq, Nat.reduceEqDiff, Nat.zero_add, Nat.add_zero, Nat.le_refl, Nat.max_self, reduceIte, reduceCtorEq, decide_true, decide_false, Bool.and_true, Bool.true_and, Bool.and_false, Bool.false_and, Bool.or_false, Bool.false_or, Bool.or_true, Bool.true_or, Bool.not_true, Bool.not_false, BEq.rfl, Int.toNat_natCast, and_self, and_true, true_and, List.contains_cons, List.contains_nil, List.isEmpty_cons, List.isEmpty_nil, Option.getD_none, Option.getD_some, Option.map_none, Option.map_some, Option.isSome_none, Option.isSome_some, encSs_len, h1, h2, h0, g1, g3, g4, encSs_at, S.enc]
      have g4 : decide ((ty.length : Int) > 100) = false := by simp; omega
      have hb : (decide (60 < d) || (decide (100 < nm.length) || decide (100 < ty.length))) = false := by simp; omega
      simp only [hb, Bool.false_eq_true, if_false]
      have v1 := fewEs_le es 0 0
      have v2 := fewSs_le x (d + 1) 0
      have v3 := fewSs_le y (d + 1) 0
      have v4 := fewSs_le z (d + 1) 0
      obtain ⟨hz, q2, q3, q4⟩ := hc _ (List.mem_cons_self ..) (by omega) k num ty nm es x y z nth rfl
      have q1 := run21 (G := G) (sizeEs es) es 0 (Nat.le_refl _) hz (by omega)
      simp only [Int.natCast_zero] at q1
      have w1 : IntKind.i64.wrap ((n : Int) + 1) = n + 1 := wrap_ok (by omega)
      have w3 : IntKind.i64.wrap ((d : Int) + 1) = (d + 1 : Nat) := wrap_ok (by omega)
      have w4 : IntKind.i64.wrap ((n : Int) + 1 + fewEs es 0 0) = n + 1 + fewEs es 0 0 := wrap_ok (by omega)
      have w5 : IntKind.i64.wrap ((n : Int) + 1 + fewEs es 0 0 + fewSs x (d + 1) 0) = n + 1 + fewEs es 0 0 + fewSs x (d + 1) 0 := wrap_ok (by omega)
      have w6 : IntKind.i64.wrap ((n : Int) + 1 + fewEs es 0 0 + fewSs x (d + 1) 0 + fewSs y (d + 1) 0) = n + 1 + fewEs es 0 0 + fewSs x (d + 1) 0 + fewSs y (d + 1) 0 := wrap_ok (by omega)
      have w7 : IntKind.i64.wrap ((n : Int) + 1 + fewEs es 0 0 + fewSs x (d + 1) 0 + fewSs y (d + 1) 0 + fewSs z (d + 1) 0) = (n + 1 + (fewEs es 0 0 + fewSs x (d + 1) 0 + fewSs y (d + 1) 0 + fewSs z (d + 1) 0) : Nat) := by rw [wrap_ok (by omega)]; omega
      have w2 : IntKind.i64.wrap ((a.length : Nat) + 1) = ((a ++ [S.mk k num ty nm es x y z nth]).length : Nat) := by
        have hl' : ((a.length : Nat) : Int) ≤ 1099511627776 := by simp at hl; omega
        rw [wrap_ok (by omega)]; simp
      have step : lim F G (.loop [0, 1, 5, 6] f22_l0 ⟨[.sl .any (encSs (a ++ .mk k num ty nm es x y z nth :: b)), .int .i64 d, .any, .any, .any, .int .i64 n, .int .i64 a.length, .any, .any, .any, .any, .any, .any, .any, .any, .any, .any, .any, .any, .any, .any, .any, .any, .any, .any, .any, .any, .any, .any, .any, .any, .any, .any, .any, .any, .any, .any, .any, .any, .any, .any, .any, .any, .any, .any, .any, .any, .any, .any, .any, .any, .any, .any, .any, .any, .any, .any, .any, .any, .any, .any, .any, .any, .any, .any, .any, .any, .any, .any, .any, .any, .any, .any, .any, .any], σ, []⟩) =
          lim F G (.loop [0, 1, 5, 6] f22_l0 ⟨[.sl .any (encSs (a ++ .mk k num ty nm es x y z nth :: b)), .int .i64 d, .any, .any, .any, .int .i64 (n + 1 + (fewEs es 0 0 + fewSs x (d + 1) 0 + fewSs y (d + 1) 0 + fewSs z (d + 1) 0) : Nat), .int .i64 ((a ++ [S.mk k num ty nm es x y z nth]).length : Nat), .any, .any, .any, .any, .any, .any, .any, .any, .any, .any, .any, .any, .any, .any, .any, .any, .any, .any, .any, .any, .any, .any, .any, .any, .any, .any, .any, .any, .any, .any, .any, .any, .any, .any, .any, .any, .any, .any, .any, .any, .any, .any, .any, .any, .any, .any, .any, .any, .any, .any, .any, .any, .any, .any, .any, .any, .any, .any, .any, .any, .any, .any, .any, .any, .any, .any, .any, .any], σ, []⟩) := by
        rw [lim_round f22_l0.eq_1]
        simp only [wc, wb, wz, wo, wv, wm, wx, wl, wk, wu, wd, wr, wf, wt, d_alloc, d_box, dbx_ok, d_store, dst_ptr, dstb_box, w_cond, w_gd, w_build, d_build, w_parts, fill_cons, bx_ok, st_ptr, stb_box, w_dreg, dv, dz, d_op, d_gd, dn_ok, Nat.reduceAdd, Nat.reduceSub, Nat.reduceMul, Nat.reduceLeDiff, Nat.reduceLT, Nat.reduceBEq, Nat.reduceEqDiff, Nat.zero_add, Nat.add_zero, Nat.le_refl, Nat.max_self, reduceIte, reduceCtorEq, decide_true, decide_false, Bool.and_true, Bool.true_and, Bool.and_false, Bool.false_and, Bool.or_false, Bool.false_or, Bool.or_true, Bool.true_or, Bool.not_true, Bool.not_false, BEq.rfl, Int.toNat_natCast, and_self, and_true, true_and, List.contains_cons, List.contains_nil, List.isEmpty_cons, List.isEmpty_nil, Option.getD_none, Option.getD_some, Option.map_none, Option.map_some, Option.isSome_none, Option.isSome_some, encSs_len, h1, h2, h0, g1, g3, g4, encSs_at, S.enc, encEs_pure, encEs_under, encSs_pure, encSs_under, dcx_pure, w1, w2, w3, w4, w5, w6, w7, q1, q2, q3, q4, retv, dca_ret, tidy_ok, tidy_same]
      rw [step]
      have ih' := ih (a ++ [.mk k num ty nm es x y z nth]) (n + 1 + (fewEs es 0 0 + fewSs x (d + 1) 0 + fewSs y (d + 1) 0 + fewSs z (d + 1) 0)) (by omega) (by simpa using hl) (fun e he => hc e (by simp [he]))
      simp only [List.append_assoc, List.singleton_append] at ih'
      exact ih'
    · left
      have h2 : decide ((n : Int) < 401) = false := by simp; omega
      refine ⟨n, ?_, by rw [fewSs, if_neg hn4]⟩
      rw [lim_round f22_l0.eq_1]
      simp only [wc, wb, wz, wo, wv, wm, wx, wl, wk, wu, wd, wr, wf, wt, d_alloc, d_box, dbx_ok, d_store, dst_ptr, dstb_box, w_cond, w_gd, w_build, d_build, w_parts, fill_cons, bx_ok, st_ptr, stb_box, w_dreg, dv, dz, d_op, d_gd, dn_ok, Nat.reduceAdd, Nat.reduceSub, Nat.reduceMul, Nat.reduceLeDiff, Nat.reduceLT, Nat.reduceBEq, Nat.reduceEqDiff, Nat.zero_add, Nat.add_zero, Nat.le_refl, Nat.max_self, reduceIte, reduceCtorEq, decide_true, decide_false, Bool.and_true, Bool.true_and, Bool.and_false, Bool.false_and, Bool.or_false, Bool.false_or, Bool.or_true, Bool.true_or, Bool.not_true, Bool.not_false, BEq.rfl, Int.toNat_natCast, and_self, and_true, true_and, List.contains_cons, List.contains_nil, List.isEmpty_cons, List.isEmpty_nil, Option.getD_none, Option.getD_some, Option.map_none, Option.map_some, Option.isSome_none, Option.isSome_some, encSs_len, h1, h2]

theorem run22_of (l : List S) (d : Nat) (hd : d ≤ 61) (hl : (l.length : Int) ≤ 1099511627776)
    (hc : ∀ e ∈ l, d ≤ 60 → ∀ k num ty nm es x y z nth, e = .mk k num ty nm es x y z nth → sizeEs es ≤ 1099511627776 ∧ lim F G (.call 22 [.sl .any (encSs x), .int .i64 (d + 1 : Nat)] [] false) = retv (.int .i64 (fewSs x (d + 1) 0)) ∧
      lim F G (.call 22 [.sl .any (encSs y), .int .i64 (d + 1 : Nat)] [] false) = retv (.int .i64 (fewSs y (d + 1) 0)) ∧ lim F G (.call 22 [.sl .any (encSs z), .int .i64 (d + 1 : Nat)] [] false) = retv (.int .i64 (fewSs z (d + 1) 0))) :
    lim F G (.call 22 [.sl .any (encSs l), .int .i64 d] [] false) = retv (.int .i64 (fewSs l d 0)) := by
  have lp := f22_loop (G := G) l [] d 0 [] (by omega) (by simpa using hl) hc
  simp only [List.nil_append, List.length_nil, Int.natCast_zero] at lp
  rw [lim_fun F22 rfl]
  rcases lp with ⟨n', lp, e⟩ | ⟨σ', lp, e⟩
  · rw [e]
    simp only [f22, f22_b, wc, wb, wz, wo, wv, wm, wx, wl, wk, wu, wd, wr, wf, wt, d_alloc, d_box, dbx_ok, d_store, dst_ptr, dstb_box, w_cond, w_gd, w_build, d_build, w_parts, fill_cons, bx_ok, st_ptr, stb_box, w_dreg, dv, dz, d_op, d_gd, dn_ok, Nat.reduceAdd, Nat.reduceSub, Nat.reduceMul, Nat.reduceLeDiff, Nat.reduceLT, Nat.reduceBEq, Nat.reduceEqDiff, Nat.zero_add, Nat.add_zero, Nat.le_refl, Nat.max_self, reduceIte, reduceCtorEq, decide_true, decide_false, Bool.and_true, Bool.true_and, Bool.and_false, Bool.false_and, Bool.or_false, Bool.false_or, Bool.or_true, Bool.true_or, Bool.not_true, Bool.not_false, BEq.rfl, Int.toNat_natCast, and_self, and_true, true_and, List.contains_cons, List.contains_nil, List.isEmpty_cons, List.isEmpty_nil, Option.getD_none, Option.getD_some, Option.map_none, Option.map_some, Option.isSome_none, Option.isSome_some, lp, leave_pure, min401]
  · rw [e]
    simp only [f22, f22_b, wc, wb, wz, wo, wv, wm, wx, wl, wk, wu, wd, wr, wf, wt, d_alloc, d_box, dbx_ok, d_store, dst_ptr, dstb_box, w_cond, w_gd, w_build, d_build, w_parts, fill_cons, bx_ok, st_ptr, stb_box, w_dreg, dv, dz, d_op, d_gd, dn_ok, Nat.reduceAdd, Nat.reduceSub, Nat.reduceMul, Nat.reduceLeDiff, Nat.reduceLT, Nat.reduceBEq, Nat.reduceEqDiff, Nat.zero_add, Nat.add_zero, Nat.le_refl, Nat.max_self, reduceIte, reduceCtorEq, decide_true, decide_false, Bool.and_true, Bool.true_and, Bool.and_false, Bool.false_and, Bool.or_false, Bool.false_or, Bool.or_true, Bool.true_or, Bool.not_true, Bool.not_false, BEq.rfl, Int.toNat_natCast, and_self, and_true, true_and, List.contains_cons, List.contains_nil, List.isEmpty_cons, List.isEmpty_nil, Option.getD_none, Option.getD_some, Option.map_none, Option.map_some, Option.isSome_none, Option.isSome_some, lp, leave_pure]
    rfl

theorem run22 : ∀ (N : Nat) (l : List S) (d : Nat), sizeSs l ≤ N → N ≤ 1099511627776 → d ≤ 61 → lim F G (.call 22 [.sl .any (encSs l), .int .i64 d] [] false) = retv (.int .i64 (fewSs l d 0))
  | 0, l, d, h, hN, hd => by
    have hl := len_sizeS l
    exact run22_of l d hd (by omega) fun e he => by have := List.length_pos_of_mem he; omega
  | N + 1, l, d, h, hN, hd => by
    have hl := len_sizeS l
    refine run22_of l d hd (by omega) fun e he hd' k num ty nm es x y z nth hm => ?_
    have := size_memS he
    subst hm
    have hs : (S.mk k num ty nm es x y z nth).size = 1 + sizeEs es + sizeSs x + sizeSs y + sizeSs z := rfl
    exact ⟨by omega, run22 N x (d + 1) (by omega) (by omega) (by omega), run22 N y (d + 1) (by omega) (by omega) (by omega), run22 N z (d + 1) (by omega) (by omega) (by omega)⟩
end Go.Ev
