/-
  How many nodes: tree.Expr, tree.exprs, tree.Stmts and the reference's.
-/
import Derived.Test.YthajiefjebcobaaDoorIrTree
import Derived.Test.YthajiefjebcobaaDoorTreeData
set_option linter.all false
set_option maxRecDepth 100000
set_option linter.unusedSimpArgs false
set_option linter.unusedVariables false
namespace Go.Ev
open Go
variable {G : List (List V)}




theorem f5_loop (b a : List E) (n : Int) (σ : Store) (hn : 0 ≤ n) (hb : n + sizeEs b ≤ 1099511627776) (hl : ((a ++ b).length : Int) ≤ 1099511627776)
    (hc : ∀ e ∈ b, lim F G (.call 5 [e.enc] [] false) = retv (.int .i64 e.size)) :
    lim F G (.loop [3, 7, 8, 9] f5_l0 ⟨[.any, .any, .any, .int .i64 n, .any, .any, .any, .sl .any (encEs (a ++ b)), .int .i64 (a ++ b).length, .int .i64 a.length, .any, .any, .any, .any, .any, .any, .any, .any, .any], σ, []⟩) =
      some (.code (.exit 0) ⟨[.any, .any, .any, .int .i64 (n + sizeEs b), .any, .any, .any, .any, .any, .any, .any, .any, .any, .any, .any, .any, .any, .any, .any], σ, []⟩) := by
  induction b generalizing a n with
  | nil =>
    rw [lim_round f5_l0.eq_1]
    simp only [wc, wb, wz, wo, wv, wm, wx, wl, wk, wu, wd, wr, wf, wt, d_alloc, d_box, dbx_ok, d_store, dst_ptr, dstb_box, w_cond, w_gd, w_build, d_build, w_parts, fill_cons, bx_ok, st_ptr, stb_box, w_dreg, dv, dz, d_op, d_gd, dn_ok, Nat.reduceAdd, Nat.reduceSub, Nat.reduceMul, Nat.reduceLeDiff, Nat.reduceLT, Nat.reduceBEq, Nat.reduceEqDiff, Nat.zero_add, Nat.add_zero, Nat.le_refl, Nat.max_self, reduceIte, reduceCtorEq, decide_true, decide_false, Bool.and_true, Bool.true_and, Bool.and_false, Bool.false_and, Bool.or_false, Bool.false_or, Bool.or_true, Bool.true_or, Bool.not_true, Bool.not_false, BEq.rfl, Int.toNat_natCast, and_self, and_true, true_and, List.contains_cons, List.contains_nil, List.isEmpty_cons, List.isEmpty_nil, Option.getD_none, Option.getD_some, Option.map_none, Option.map_some, Option.isSome_none, Option.isSome_some, List.append_nil, Int.lt_irrefl, sizeEs, Int.add_zero, Int.ofNat_zero, Int.natCast_zero]
  | cons e b ih =>
    rw [lim_round f5_l0.eq_1]
    have h1 : ((a.length : Nat) : Int) < ((a ++ e :: b).length : Nat) := by simp; omega
    have h2 := hc e (by simp)
    have hs : sizeEs (e :: b) = e.size + sizeEs b := rfl
    rw [hs] at hb ⊢
    obtain ⟨k, num, tx, nm, ty, l, own, nth⟩ := e
    have h0 : (0:Int) ≤ a.length := by omega
    simp only [E.enc] at h2
    have ih' := ih (a ++ [.mk k num tx nm ty l own nth]) (n + (E.mk k num tx nm ty l own nth).size) (by omega) (by omega) (by simpa using hl) (fun e he => hc e (by simp [he]))
    have w1 : IntKind.i64.wrap (n + (E.mk k num tx nm ty l own nth).size) = n + (E.mk k num tx nm ty l own nth).size := wrap_ok (by omega)
    have w2 : IntKind.i64.wrap ((a.length : Nat) + 1) = ((a ++ [E.mk k num tx nm ty l own nth]).length : Nat) := by rw [wrap_ok (by omega)]; simp
    simp only [List.append_assoc, List.singleton_append] at ih'
    simp only [wc, wb, wz, wo, wv, wm, wx, wl, wk, wu, wd, wr, wf, wt, d_alloc, d_box, dbx_ok, d_store, dst_ptr, dstb_box, w_cond, w_gd, w_build, d_build, w_parts, fill_cons, bx_ok, st_ptr, stb_box, w_dreg, dv, dz, d_op, d_gd, dn_ok, Nat.reduceAdd, Nat.reduceSub, Nat.reduceMul, Nat.reduceLeDiff, Nat.reduceLT, Nat.reduceBEq, Nat.reduceEqDiff, Nat.zero_add, Nat.add_zero, Nat.le_refl, Nat.max_self, reduceIte, reduceCtorEq, decide_true, decide_false, Bool.and_true, Bool.true_and, Bool.and_false, Bool.false_and, Bool.or_false, Bool.false_or, Bool.or_true, Bool.true_or, Bool.not_true, Bool.not_false, BEq.rfl, Int.toNat_natCast, and_self, and_true, true_and, List.contains_cons, List.contains_nil, List.isEmpty_cons, List.isEmpty_nil, Option.getD_none, Option.getD_some, Option.map_none, Option.map_some, Option.isSome_none, Option.isSome_some, h1, h0, encEs_at, E.enc, encEs_top, cx_pure, encEs_pure, encEs_under, h2, retv, ca_ret, w1, w2, tidy_ok, ih', Int.add_assoc, Int.natCast_add]

theorem run5 (e : E) (h : e.size ≤ 1099511627776) : lim F G (.call 5 [e.enc] [] false) = retv (.int .i64 e.size) := by
  induction e using E.all with
  | h k num tx nm ty l own nth ih =>
    have hs : (E.mk k num tx nm ty l own nth).size = 1 + sizeEs l := rfl
    have hl := len_size l
    have hc : ∀ e ∈ l, lim F G (.call 5 [e.enc] [] false) = retv (.int .i64 e.size) := fun e he => ih e he (by have := size_mem he; omega)
    have lp := f5_loop (G := G) l [] 1 [.box [.int .i64 k, .int .i32 num, .str tx, .str nm, .str ty, .sl .any (encEs l), .str own, .int .i64 nth]] (by omega) (by omega) (by simp only [List.nil_append]; omega) hc
    simp only [List.nil_append, List.length_nil, Int.natCast_zero] at lp
    rw [lim_fun F5 rfl]
    simp only [f5, f5_b, wc, wb, wz, wo, wv, wm, wx, wl, wk, wu, wd, wr, wf, wt, d_alloc, d_box, dbx_ok, d_store, dst_ptr, dstb_box, w_cond, w_gd, w_build, d_build, w_parts, fill_cons, bx_ok, st_ptr, stb_box, w_dreg, dv, dz, d_op, d_gd, dn_ok, Nat.reduceAdd, Nat.reduceSub, Nat.reduceMul, Nat.reduceLeDiff, Nat.reduceLT, Nat.reduceBEq, Nat.reduceEqDiff, Nat.zero_add, Nat.add_zero, Nat.le_refl, Nat.max_self, reduceIte, reduceCtorEq, decide_true, decide_false, Bool.and_true, Bool.true_and, Bool.and_false, Bool.false_and, Bool.or_false, Bool.false_or, Bool.or_true, Bool.true_or, Bool.not_true, Bool.not_false, BEq.rfl, Int.toNat_natCast, and_self, and_true, true_and, List.contains_cons, List.contains_nil, List.isEmpty_cons, List.isEmpty_nil, Option.getD_none, Option.getD_some, Option.map_none, Option.map_some, Option.isSome_none, Option.isSome_some, E.enc, encEs_top, encEs_len, lp, leave_pure, hs, Int.natCast_add, Int.natCast_one]

theorem f24_loop (b a : List E) (n : Int) (σ : Store) (hn : 0 ≤ n) (hb : n + sizeEs b ≤ 1099511627776) (hl : ((a ++ b).length : Int) ≤ 1099511627776)
    (hc : ∀ e ∈ b, lim F G (.call 5 [e.enc] [] false) = retv (.int .i64 e.size)) :
    lim F G (.loop [3, 6, 7, 8] f24_l0 ⟨[.any, .any, .any, .int .i64 n, .any, .any, .sl .any (encEs (a ++ b)), .int .i64 (a ++ b).length, .int .i64 a.length, .any, .any, .any, .any, .any, .any, .any, .any, .any], σ, []⟩) =
      some (.code (.exit 0) ⟨[.any, .any, .any, .int .i64 (n + sizeEs b), .any, .any, .any, .any, .any, .any, .any, .any, .any, .any, .any, .any, .any, .any], σ, []⟩) := by
  induction b generalizing a n with
  | nil =>
    rw [lim_round f24_l0.eq_1]
    simp only [wc, wb, wz, wo, wv, wm, wx, wl, wk, wu, wd, wr, wf, wt, d_alloc, d_box, dbx_ok, d_store, dst_ptr, dstb_box, w_cond, w_gd, w_build, d_build, w_parts, fill_cons, bx_ok, st_ptr, stb_box, w_dreg, dv, dz, d_op, d_gd, dn_ok, Nat.reduceAdd, Nat.reduceSub, Nat.reduceMul, Nat.reduceLeDiff, Nat.reduceLT, Nat.reduceBEq, Nat.reduceEqDiff, Nat.zero_add, Nat.add_zero, Nat.le_refl, Nat.max_self, reduceIte, reduceCtorEq, decide_true, decide_false, Bool.and_true, Bool.true_and, Bool.and_false, Bool.false_and, Bool.or_false, Bool.false_or, Bool.or_true, Bool.true_or, Bool.not_true, Bool.not_false, BEq.rfl, Int.toNat_natCast, and_self, and_true, true_and, List.contains_cons, List.contains_nil, List.isEmpty_cons, List.isEmpty_nil, Option.getD_none, Option.getD_some, Option.map_none, Option.map_some, Option.isSome_none, Option.isSome_some, List.append_nil, encEs_len, Int.lt_irrefl, sizeEs, Int.add_zero, Int.ofNat_zero, Int.natCast_zero]
  | cons e b ih =>
    rw [lim_round f24_l0.eq_1]
    have h1 : ((a.length : Nat) : Int) < ((a ++ e :: b).length : Nat) := by simp; omega
    have h2 := hc e (by simp)
    have hs : sizeEs (e :: b) = e.size + sizeEs b := rfl
    rw [hs] at hb ⊢
    obtain ⟨k, num, tx, nm, ty, l, own, nth⟩ := e
    have h0 : (0:Int) ≤ a.length := by omega
    simp only [E.enc] at h2
    have ih' := ih (a ++ [.mk k num tx nm ty l own nth]) (n + (E.mk k num tx nm ty l own nth).size) (by omega) (by omega) (by simpa using hl) (fun e he => hc e (by simp [he]))
    have w1 : IntKind.i64.wrap (n + (E.mk k num tx nm ty l own nth).size) = n + (E.mk k num tx nm ty l own nth).size := wrap_ok (by omega)
    have w2 : IntKind.i64.wrap ((a.length : Nat) + 1) = ((a ++ [E.mk k num tx nm ty l own nth]).length : Nat) := by rw [wrap_ok (by omega)]; simp
    simp only [List.append_assoc, List.singleton_append] at ih'
    simp only [wc, wb, wz, wo, wv, wm, wx, wl, wk, wu, wd, wr, wf, wt, d_alloc, d_box, dbx_ok, d_store, dst_ptr, dstb_box, w_cond, w_gd, w_build, d_build, w_parts, fill_cons, bx_ok, st_ptr, stb_box, w_dreg, dv, dz, d_op, d_gd, dn_ok, Nat.reduceAdd, Nat.reduceSub, Nat.reduceMul, Nat.reduceLeDiff, Nat.reduceLT, Nat.reduceBEq, Nat.reduceEqDiff, Nat.zero_add, Nat.add_zero, Nat.le_refl, Nat.max_self, reduceIte, reduceCtorEq, decide_true, decide_false, Bool.and_true, Bool.true_and, Bool.and_false, Bool.false_and, Bool.or_false, Bool.false_or, Bool.or_true, Bool.true_or, Bool.not_true, Bool.not_false, BEq.rfl, Int.toNat_natCast, and_self, and_true, true_and, List.contains_cons, List.contains_nil, List.isEmpty_cons, List.isEmpty_nil, Option.getD_none, Option.getD_some, Option.map_none, Option.map_some, Option.isSome_none, Option.isSome_some, encEs_len, h1, h0, encEs_at, E.enc, encEs_top, cx_pure, encEs_pure, encEs_under, h2, retv, ca_ret, w1, w2, tidy_ok, tidy_same, ih', Int.add_assoc, Int.natCast_add]

theorem f23_loop (b a : List E) (n : Int) (σ : Store) (hn : 0 ≤ n) (hb : n + sizeEs b ≤ 1099511627776) (hl : ((a ++ b).length : Int) ≤ 1099511627776)
    (hc : ∀ e ∈ b, lim F G (.call 6 [e.enc] [] false) = retv (.int .i64 e.size)) :
    lim F G (.loop [0, 3, 4] f23_l0 ⟨[.sl .any (encEs (a ++ b)), .any, .any, .int .i64 n, .int .i64 a.length, .any, .any, .any, .any, .any, .any, .any, .any, .any, .any, .any, .any, .any, .any], σ, []⟩) =
      some (.code (.exit 0) ⟨[.any, .any, .any, .int .i64 (n + sizeEs b), .any, .any, .any, .any, .any, .any, .any, .any, .any, .any, .any, .any, .any, .any, .any], σ, []⟩) := by
  induction b generalizing a n with
  | nil =>
    rw [lim_round f23_l0.eq_1]
    simp only [wc, wb, wz, wo, wv, wm, wx, wl, wk, wu, wd, wr, wf, wt, d_alloc, d_box, dbx_ok, d_store, dst_ptr, dstb_box, w_cond, w_gd, w_build, d_build, w_parts, fill_cons, bx_ok, st_ptr, stb_box, w_dreg, dv, dz, d_op, d_gd, dn_ok, Nat.reduceAdd, Nat.reduceSub, Nat.reduceMul, Nat.reduceLeDiff, Nat.reduceLT, Nat.reduceBEq, Nat.reduceEqDiff, Nat.zero_add, Nat.add_zero, Nat.le_refl, Nat.max_self, reduceIte, reduceCtorEq, decide_true, decide_false, Bool.and_true, Bool.true_and, Bool.and_false, Bool.false_and, Bool.or_false, Bool.false_or, Bool.or_true, Bool.true_or, Bool.not_true, Bool.not_false, BEq.rfl, Int.toNat_natCast, and_self, and_true, true_and, List.contains_cons, List.contains_nil, List.isEmpty_cons, List.isEmpty_nil, Option.getD_none, Option.getD_some, Option.map_none, Option.map_some, Option.isSome_none, Option.isSome_some, List.append_nil, encEs_len, Int.lt_irrefl, sizeEs, Int.add_zero, Int.ofNat_zero, Int.natCast_zero]
  | cons e b ih =>
    rw [lim_round f23_l0.eq_1]
    have h1 : ((a.length : Nat) : Int) < ((a ++ e :: b).length : Nat) := by simp; omega
    have h2 := hc e (by simp)
    have hs : sizeEs (e :: b) = e.size + sizeEs b := rfl
    rw [hs] at hb ⊢
    obtain ⟨k, num, tx, nm, ty, l, own, nth⟩ := e
    have h0 : (0:Int) ≤ a.length := by omega
    simp only [E.enc] at h2
    have ih' := ih (a ++ [.mk k num tx nm ty l own nth]) (n + (E.mk k num tx nm ty l own nth).size) (by omega) (by omega) (by simpa using hl) (fun e he => hc e (by simp [he]))
    have w1 : IntKind.i64.wrap (n + (E.mk k num tx nm ty l own nth).size) = n + (E.mk k num tx nm ty l own nth).size := wrap_ok (by omega)
    have w2 : IntKind.i64.wrap ((a.length : Nat) + 1) = ((a ++ [E.mk k num tx nm ty l own nth]).length : Nat) := by rw [wrap_ok (by omega)]; simp
    simp only [List.append_assoc, List.singleton_append] at ih'
    simp only [wc, wb, wz, wo, wv, wm, wx, wl, wk, wu, wd, wr, wf, wt, d_alloc, d_box, dbx_ok, d_store, dst_ptr, dstb_box, w_cond, w_gd, w_build, d_build, w_parts, fill_cons, bx_ok, st_ptr, stb_box, w_dreg, dv, dz, d_op, d_gd, dn_ok, Nat.reduceAdd, Nat.reduceSub, Nat.reduceMul, Nat.reduceLeDiff, Nat.reduceLT, Nat.reduceBEq, Nat.reduceEqDiff, Nat.zero_add, Nat.add_zero, Nat.le_refl, Nat.max_self, reduceIte, reduceCtorEq, decide_true, decide_false, Bool.and_true, Bool.true_and, Bool.and_false, Bool.false_and, Bool.or_false, Bool.false_or, Bool.or_true, Bool.true_or, Bool.not_true, Bool.not_false, BEq.rfl, Int.toNat_natCast, and_self, and_true, true_and, List.contains_cons, List.contains_nil, List.isEmpty_cons, List.isEmpty_nil, Option.getD_none, Option.getD_some, Option.map_none, Option.map_some, Option.isSome_none, Option.isSome_some, encEs_len, h1, h0, encEs_at, E.enc, encEs_top, cx_pure, encEs_pure, encEs_under, h2, retv, ca_ret, w1, w2, tidy_ok, tidy_same, ih', Int.add_assoc, Int.natCast_add]

theorem run24_of (l : List E) (h : sizeEs l ≤ 1099511627776) (hc : ∀ e ∈ l, lim F G (.call 5 [e.enc] [] false) = retv (.int .i64 e.size)) :
    lim F G (.call 24 [.sl .any (encEs l)] [] false) = retv (.int .i64 (sizeEs l)) := by
  have hl := len_size l
  have lp := f24_loop (G := G) l [] 0 [] (by omega) (by omega) (by simp only [List.nil_append]; omega) hc
  simp only [List.nil_append, List.length_nil, Int.natCast_zero, Int.zero_add] at lp
  rw [lim_fun F24 rfl]
  simp only [f24, f24_b, wc, wb, wz, wo, wv, wm, wx, wl, wk, wu, wd, wr, wf, wt, d_alloc, d_box, dbx_ok, d_store, dst_ptr, dstb_box, w_cond, w_gd, w_build, d_build, w_parts, fill_cons, bx_ok, st_ptr, stb_box, w_dreg, dv, dz, d_op, d_gd, dn_ok, Nat.reduceAdd, Nat.reduceSub, Nat.reduceMul, Nat.reduceLeDiff, Nat.reduceLT, Nat.reduceBEq, Nat.reduceEqDiff, Nat.zero_add, Nat.add_zero, Nat.le_refl, Nat.max_self, reduceIte, reduceCtorEq, decide_true, decide_false, Bool.and_true, Bool.true_and, Bool.and_false, Bool.false_and, Bool.or_false, Bool.false_or, Bool.or_true, Bool.true_or, Bool.not_true, Bool.not_false, BEq.rfl, Int.toNat_natCast, and_self, and_true, true_and, List.contains_cons, List.contains_nil, List.isEmpty_cons, List.isEmpty_nil, Option.getD_none, Option.getD_some, Option.map_none, Option.map_some, Option.isSome_none, Option.isSome_some, encEs_len, lp, leave_pure]

theorem run23_of (l : List E) (h : sizeEs l ≤ 1099511627776) (hc : ∀ e ∈ l, lim F G (.call 6 [e.enc] [] false) = retv (.int .i64 e.size)) :
    lim F G (.call 23 [.sl .any (encEs l)] [] false) = retv (.int .i64 (sizeEs l)) := by
  have hl := len_size l
  have lp := f23_loop (G := G) l [] 0 [] (by omega) (by omega) (by simp only [List.nil_append]; omega) hc
  simp only [List.nil_append, List.length_nil, Int.natCast_zero, Int.zero_add] at lp
  rw [lim_fun F23 rfl]
  simp only [f23, f23_b, wc, wb, wz, wo, wv, wm, wx, wl, wk, wu, wd, wr, wf, wt, d_alloc, d_box, dbx_ok, d_store, dst_ptr, dstb_box, w_cond, w_gd, w_build, d_build, w_parts, fill_cons, bx_ok, st_ptr, stb_box, w_dreg, dv, dz, d_op, d_gd, dn_ok, Nat.reduceAdd, Nat.reduceSub, Nat.reduceMul, Nat.reduceLeDiff, Nat.reduceLT, Nat.reduceBEq, Nat.reduceEqDiff, Nat.zero_add, Nat.add_zero, Nat.le_refl, Nat.max_self, reduceIte, reduceCtorEq, decide_true, decide_false, Bool.and_true, Bool.true_and, Bool.and_false, Bool.false_and, Bool.or_false, Bool.false_or, Bool.or_true, Bool.true_or, Bool.not_true, Bool.not_false, BEq.rfl, Int.toNat_natCast, and_self, and_true, true_and, List.contains_cons, List.contains_nil, List.isEmpty_cons, List.isEmpty_nil, Option.getD_none, Option.getD_some, Option.map_none, Option.map_some, Option.isSome_none, Option.isSome_some, encEs_len, lp, leave_pure]

theorem run24 (l : List E) (h : sizeEs l ≤ 1099511627776) : lim F G (.call 24 [.sl .any (encEs l)] [] false) = retv (.int .i64 (sizeEs l)) :=
  run24_of l h fun e he => run5 e (by have := size_mem he; omega)

theorem run6 (e : E) (h : e.size ≤ 1099511627776) : lim F G (.call 6 [e.enc] [] false) = retv (.int .i64 e.size) := by
  induction e using E.all with
  | h k num tx nm ty l own nth ih =>
    have hs : (E.mk k num tx nm ty l own nth).size = 1 + sizeEs l := rfl
    have h1 := run23_of (G := G) l (by omega) fun e he => ih e he (by have := size_mem he; omega)
    have w1 : IntKind.i64.wrap (1 + sizeEs l) = 1 + sizeEs l := wrap_ok (by omega)
    rw [lim_fun F6 rfl]
    simp only [f6, f6_b, wc, wb, wz, wo, wv, wm, wx, wl, wk, wu, wd, wr, wf, wt, d_alloc, d_box, dbx_ok, d_store, dst_ptr, dstb_box, w_cond, w_gd, w_build, d_build, w_parts, fill_cons, bx_ok, st_ptr, stb_box, w_dreg, dv, dz, d_op, d_gd, dn_ok, Nat.reduceAdd, Nat.reduceSub, Nat.reduceMul, Nat.reduceLeDiff, Nat.reduceLT, Nat.reduceBEq, Nat.reduceEqDiff, Nat.zero_add, Nat.add_zero, Nat.le_refl, Nat.max_self, reduceIte, reduceCtorEq, decide_true, decide_false, Bool.and_true, Bool.true_and, Bool.and_false, Bool.false_and, Bool.or_false, Bool.false_or, Bool.or_true, Bool.true_or, Bool.not_true, Bool.not_false, BEq.rfl, Int.toNat_natCast, and_self, and_true, true_and, List.contains_cons, List.contains_nil, List.isEmpty_cons, List.isEmpty_nil, Option.getD_none, Option.getD_some, Option.map_none, Option.map_some, Option.isSome_none, Option.isSome_some, E.enc, encEs_top, cx_pure, encEs_pure, h1, retv, ca_ret, w1, leave_pure, hs, Int.natCast_add, Int.natCast_one]

theorem run23 (l : List E) (h : sizeEs l ≤ 1099511627776) : lim F G (.call 23 [.sl .any (encEs l)] [] false) = retv (.int .i64 (sizeEs l)) :=
  run23_of l h fun e he => run6 e (by have := size_mem he; omega)

theorem f7_loop (b a : List S) (n : Int) (σ : Store) (hn : 0 ≤ n) (hb : n + sizeSs b ≤ 1099511627776) (hl : ((a ++ b).length : Int) ≤ 1099511627776)
    (hc : ∀ s ∈ b, ∀ l, (sizeSs l < s.size) → lim F G (.call 7 [.sl .any (encSs l)] [] false) = retv (.int .i64 (sizeSs l))) :
    lim F G (.loop [3, 6, 7, 8] f7_l0 ⟨[.any, .any, .any, .int .i64 n, .any, .any, .sl .any (encSs (a ++ b)), .int .i64 (a ++ b).length, .int .i64 a.length, .any, .any, .any, .any, .any, .any, .any, .any, .any, .any, .any, .any, .any, .any, .any, .any, .any, .any, .any, .any, .any, .any, .any], σ, []⟩) =
      some (.code (.exit 0) ⟨[.any, .any, .any, .int .i64 (n + sizeSs b), .any, .any, .any, .any, .any, .any, .any, .any, .any, .any, .any, .any, .any, .any, .any, .any, .any, .any, .any, .any, .any, .any, .any, .any, .any, .any, .any, .any], σ, []⟩) := by
  induction b generalizing a n with
  | nil =>
    rw [lim_round f7_l0.eq_1]
    simp only [wc, wb, wz, wo, wv, wm, wx, wl, wk, wu, wd, wr, wf, wt, d_alloc, d_box, dbx_ok, d_store, dst_ptr, dstb_box, w_cond, w_gd, w_build, d_build, w_parts, fill_cons, bx_ok, st_ptr, stb_box, w_dreg, dv, dz, d_op, d_gd, dn_ok, Nat.reduceAdd, Nat.reduceSub, Nat.reduceMul, Nat.reduceLeDiff, Nat.reduceLT, Nat.reduceBEq, Nat.reduceEqDiff, Nat.zero_add, Nat.add_zero, Nat.le_refl, Nat.max_self, reduceIte, reduceCtorEq, decide_true, decide_false, Bool.and_true, Bool.true_and, Bool.and_false, Bool.false_and, Bool.or_false, Bool.false_or, Bool.or_true, Bool.true_or, Bool.not_true, Bool.not_false, BEq.rfl, Int.toNat_natCast, and_self, and_true, true_and, List.contains_cons, List.contains_nil, List.isEmpty_cons, List.isEmpty_nil, Option.getD_none, Option.getD_some, Option.map_none, Option.map_some, Option.isSome_none, Option.isSome_some, List.append_nil, encSs_len, Int.lt_irrefl, sizeSs, Int.add_zero, Int.ofNat_zero, Int.natCast_zero]
  | cons e b ih =>
    rw [lim_round f7_l0.eq_1]
    have h1 : ((a.length : Nat) : Int) < ((a ++ e :: b).length : Nat) := by simp; omega
    have h2 := hc e (by simp)
    have hs : sizeSs (e :: b) = e.size + sizeSs b := rfl
    rw [hs] at hb ⊢
    obtain ⟨k, num, ty, nm, es, x, y, z, nth⟩ := e
    have h0 : (0:Int) ≤ a.length := by omega
    have he : (S.mk k num ty nm es x y z nth).size = 1 + sizeEs es + sizeSs x + sizeSs y + sizeSs z := rfl
    have k1 := run24 (G := G) es (by omega)
    have k2 := h2 x (by omega)
    have k3 := h2 y (by omega)
    have k4 := h2 z (by omega)
    have ih' := ih (a ++ [.mk k num ty nm es x y z nth]) (n + (S.mk k num ty nm es x y z nth).size) (by omega) (by omega) (by simpa using hl) (fun e he => hc e (by simp [he]))
    have w1 : IntKind.i64.wrap (n + 1) = n + 1 := wrap_ok (by omega)
    have w3 : IntKind.i64.wrap (n + 1 + sizeEs es) = n + 1 + sizeEs es := wrap_ok (by omega)
    have w4 : IntKind.i64.wrap (n + 1 + sizeEs es + sizeSs x) = n + 1 + sizeEs es + sizeSs x := wrap_ok (by omega)
    have w5 : IntKind.i64.wrap (n + 1 + sizeEs es + sizeSs x + sizeSs y) = n + 1 + sizeEs es + sizeSs x + sizeSs y := wrap_ok (by omega)
    have w6 : IntKind.i64.wrap (n + 1 + sizeEs es + sizeSs x + sizeSs y + sizeSs z) = n + (S.mk k num ty nm es x y z nth).size := by rw [wrap_ok (by omega)]; omega
    have w2 : IntKind.i64.wrap ((a.length : Nat) + 1) = ((a ++ [S.mk k num ty nm es x y z nth]).length : Nat) := by rw [wrap_ok (by omega)]; simp
    simp only [List.append_assoc, List.singleton_append] at ih'
    simp only [wc, wb, wz, wo, wv, wm, wx, wl, wk, wu, wd, wr, wf, wt, d_alloc, d_box, dbx_ok, d_store, dst_ptr, dstb_box, w_cond, w_gd, w_build, d_build, w_parts, fill_cons, bx_ok, st_ptr, stb_box, w_dreg, dv, dz, d_op, d_gd, dn_ok, Nat.reduceAdd, Nat.reduceSub, Nat.reduceMul, Nat.reduceLeDiff, Nat.reduceLT, Nat.reduceBEq, Nat.reduceEqDiff, Nat.zero_add, Nat.add_zero, Nat.le_refl, Nat.max_self, reduceIte, reduceCtorEq, decide_true, decide_false, Bool.and_true, Bool.true_and, Bool.and_false, Bool.false_and, Bool.or_false, Bool.false_or, Bool.or_true, Bool.true_or, Bool.not_true, Bool.not_false, BEq.rfl, Int.toNat_natCast, and_self, and_true, true_and, List.contains_cons, List.contains_nil, List.isEmpty_cons, List.isEmpty_nil, Option.getD_none, Option.getD_some, Option.map_none, Option.map_some, Option.isSome_none, Option.isSome_some, encSs_len, h1, h0, encSs_at, S.enc, encEs_top, encSs_top, dcx_pure, encEs_pure, encSs_pure, encEs_under, encSs_under, k1, k2, k3, k4, retv, dca_ret, w1, w2, w3, w4, w5, w6, tidy_ok, tidy_same, ih']
    simp only [Int.add_assoc, Int.natCast_add]

theorem f8_loop (b a : List S) (n : Int) (σ : Store) (hn : 0 ≤ n) (hb : n + sizeSs b ≤ 1099511627776) (hl : ((a ++ b).length : Int) ≤ 1099511627776)
    (hc : ∀ s ∈ b, ∀ l, (sizeSs l < s.size) → lim F G (.call 8 [.sl .any (encSs l)] [] false) = retv (.int .i64 (sizeSs l))) :
    lim F G (.loop [0, 3, 4] f8_l0 ⟨[.sl .any (encSs (a ++ b)), .any, .any, .int .i64 n, .int .i64 a.length, .any, .any, .any, .any, .any, .any, .any, .any, .any, .any, .any, .any, .any, .any, .any, .any, .any, .any, .any, .any, .any, .any, .any, .any, .any, .any, .any, .any, .any, .any, .any, .any, .any, .any, .any, .any, .any], σ, []⟩) =
      some (.code (.exit 0) ⟨[.any, .any, .any, .int .i64 (n + sizeSs b), .any, .any, .any, .any, .any, .any, .any, .any, .any, .any, .any, .any, .any, .any, .any, .any, .any, .any, .any, .any, .any, .any, .any, .any, .any, .any, .any, .any, .any, .any, .any, .any, .any, .any, .any, .any, .any, .any], σ, []⟩) := by
  induction b generalizing a n with
  | nil =>
    rw [lim_round f8_l0.eq_1]
    simp only [wc, wb, wz, wo, wv, wm, wx, wl, wk, wu, wd, wr, wf, wt, d_alloc, d_box, dbx_ok, d_store, dst_ptr, dstb_box, w_cond, w_gd, w_build, d_build, w_parts, fill_cons, bx_ok, st_ptr, stb_box, w_dreg, dv, dz, d_op, d_gd, dn_ok, Nat.reduceAdd, Nat.reduceSub, Nat.reduceMul, Nat.reduceLeDiff, Nat.reduceLT, Nat.reduceBEq, Nat.reduceEqDiff, Nat.zero_add, Nat.add_zero, Nat.le_refl, Nat.max_self, reduceIte, reduceCtorEq, decide_true, decide_false, Bool.and_true, Bool.true_and, Bool.and_false, Bool.false_and, Bool.or_false, Bool.false_or, Bool.or_true, Bool.true_or, Bool.not_true, Bool.not_false, BEq.rfl, Int.toNat_natCast, and_self, and_true, true_and, List.contains_cons, List.contains_nil, List.isEmpty_cons, List.isEmpty_nil, Option.getD_none, Option.getD_some, Option.map_none, Option.map_some, Option.isSome_none, Option.isSome_some, List.append_nil, encSs_len, Int.lt_irrefl, sizeSs, Int.add_zero, Int.ofNat_zero, Int.natCast_zero]
  | cons e b ih =>
    rw [lim_round f8_l0.eq_1]
    have h1 : ((a.length : Nat) : Int) < ((a ++ e :: b).length : Nat) := by simp; omega
    have h2 := hc e (by simp)
    have hs : sizeSs (e :: b) = e.size + sizeSs b := rfl
    rw [hs] at hb ⊢
    obtain ⟨k, num, ty, nm, es, x, y, z, nth⟩ := e
    have h0 : (0:Int) ≤ a.length := by omega
    have he : (S.mk k num ty nm es x y z nth).size = 1 + sizeEs es + sizeSs x + sizeSs y + sizeSs z := rfl
    have k1 := run23 (G := G) es (by omega)
    have k2 := h2 x (by omega)
    have k3 := h2 y (by omega)
    have k4 := h2 z (by omega)
    have ih' := ih (a ++ [.mk k num ty nm es x y z nth]) (n + (S.mk k num ty nm es x y z nth).size) (by omega) (by omega) (by simpa using hl) (fun e he => hc e (by simp [he]))
    have w1 : IntKind.i64.wrap (n + 1) = n + 1 := wrap_ok (by omega)
    have w3 : IntKind.i64.wrap (n + 1 + sizeEs es) = n + 1 + sizeEs es := wrap_ok (by omega)
    have w4 : IntKind.i64.wrap (n + 1 + sizeEs es + sizeSs x) = n + 1 + sizeEs es + sizeSs x := wrap_ok (by omega)
    have w5 : IntKind.i64.wrap (n + 1 + sizeEs es + sizeSs x + sizeSs y) = n + 1 + sizeEs es + sizeSs x + sizeSs y := wrap_ok (by omega)
    have w6 : IntKind.i64.wrap (n + 1 + sizeEs es + sizeSs x + sizeSs y + sizeSs z) = n + (S.mk k num ty nm es x y z nth).size := by rw [wrap_ok (by omega)]; omega
    have w2 : IntKind.i64.wrap ((a.length : Nat) + 1) = ((a ++ [S.mk k num ty nm es x y z nth]).length : Nat) := by rw [wrap_ok (by omega)]; simp
    simp only [List.append_assoc, List.singleton_append] at ih'
    simp only [wc, wb, wz, wo, wv, wm, wx, wl, wk, wu, wd, wr, wf, wt, d_alloc, d_box, dbx_ok, d_store, dst_ptr, dstb_box, w_cond, w_gd, w_build, d_build, w_parts, fill_cons, bx_ok, st_ptr, stb_box, w_dreg, dv, dz, d_op, d_gd, dn_ok, Nat.reduceAdd, Nat.reduceSub, Nat.reduceMul, Nat.reduceLeDiff, Nat.reduceLT, Nat.reduceBEq, Nat.reduceEqDiff, Nat.zero_add, Nat.add_zero, Nat.le_refl, Nat.max_self, reduceIte, reduceCtorEq, decide_true, decide_false, Bool.and_true, Bool.true_and, Bool.and_false, Bool.false_and, Bool.or_false, Bool.false_or, Bool.or_true, Bool.true_or, Bool.not_true, Bool.not_false, BEq.rfl, Int.toNat_natCast, and_self, and_true, true_and, List.contains_cons, List.contains_nil, List.isEmpty_cons, List.isEmpty_nil, Option.getD_none, Option.getD_some, Option.map_none, Option.map_some, Option.isSome_none, Option.isSome_some, encSs_len, h1, h0, encSs_at, S.enc, encEs_top, encSs_top, dcx_pure, encEs_pure, encSs_pure, encEs_under, encSs_under, k1, k2, k3, k4, retv, dca_ret, w1, w2, w3, w4, w5, w6, tidy_ok, tidy_same, ih']
    simp only [Int.add_assoc, Int.natCast_add]

theorem run7_aux : ∀ (d : Nat) (l : List S), sizeSs l ≤ d → sizeSs l ≤ 1099511627776 → lim F G (.call 7 [.sl .any (encSs l)] [] false) = retv (.int .i64 (sizeSs l)) := by
  intro d
  induction d with
  | zero =>
    intro l hd h
    have hl := len_sizeS l
    have e : l = [] := List.length_eq_zero_iff.1 (by omega)
    subst e
    have lp := f7_loop (G := G) [] [] 0 [] (by omega) (by simp [sizeSs]) (by simp) (fun s hs => by cases hs)
    simp only [List.nil_append, List.length_nil, Int.natCast_zero, Int.zero_add, List.append_nil, sizeSs, encSs] at lp
    rw [lim_fun F7 rfl]
    simp only [f7, f7_b, wc, wb, wz, wo, wv, wm, wx, wl, wk, wu, wd, wr, wf, wt, d_alloc, d_box, dbx_ok, d_store, dst_ptr, dstb_box, w_cond, w_gd, w_build, d_build, w_parts, fill_cons, bx_ok, st_ptr, stb_box, w_dreg, dv, dz, d_op, d_gd, dn_ok, Nat.reduceAdd, Nat.reduceSub, Nat.reduceMul, Nat.reduceLeDiff, Nat.reduceLT, Nat.reduceBEq, Nat.reduceEqDiff, Nat.zero_add, Nat.add_zero, Nat.le_refl, Nat.max_self, reduceIte, reduceCtorEq, decide_true, decide_false, Bool.and_true, Bool.true_and, Bool.and_false, Bool.false_and, Bool.or_false, Bool.false_or, Bool.or_true, Bool.true_or, Bool.not_true, Bool.not_false, BEq.rfl, Int.toNat_natCast, and_self, and_true, true_and, List.contains_cons, List.contains_nil, List.isEmpty_cons, List.isEmpty_nil, Option.getD_none, Option.getD_some, Option.map_none, Option.map_some, Option.isSome_none, Option.isSome_some, encSs, List.length_nil, Int.natCast_zero, Int.ofNat_zero, lp, leave_pure, sizeSs]
  | succ d ih =>
    intro l hd h
    have hl := len_sizeS l
    have lp := f7_loop (G := G) l [] 0 [] (by omega) (by omega) (by simp only [List.nil_append]; omega) (fun s hs x hx => ih x (by have := size_memS hs; omega) (by have := size_memS hs; omega))
    simp only [List.nil_append, List.length_nil, Int.natCast_zero, Int.zero_add] at lp
    rw [lim_fun F7 rfl]
    simp only [f7, f7_b, wc, wb, wz, wo, wv, wm, wx, wl, wk, wu, wd, wr, wf, wt, d_alloc, d_box, dbx_ok, d_store, dst_ptr, dstb_box, w_cond, w_gd, w_build, d_build, w_parts, fill_cons, bx_ok, st_ptr, stb_box, w_dreg, dv, dz, d_op, d_gd, dn_ok, Nat.reduceAdd, Nat.reduceSub, Nat.reduceMul, Nat.reduceLeDiff, Nat.reduceLT, Nat.reduceBEq, Nat.reduceEqDiff, Nat.zero_add, Nat.add_zero, Nat.le_refl, Nat.max_self, reduceIte, reduceCtorEq, decide_true, decide_false, Bool.and_true, Bool.true_and, Bool.and_false, Bool.false_and, Bool.or_false, Bool.false_or, Bool.or_true, Bool.true_or, Bool.not_true, Bool.not_false, BEq.rfl, Int.toNat_natCast, and_self, and_true, true_and, List.contains_cons, List.contains_nil, List.isEmpty_cons, List.isEmpty_nil, Option.getD_none, Option.getD_some, Option.map_none, Option.map_some, Option.isSome_none, Option.isSome_some, encSs_len, lp, leave_pure]
theorem run7 (l : List S) (h : sizeSs l ≤ 1099511627776) : lim F G (.call 7 [.sl .any (encSs l)] [] false) = retv (.int .i64 (sizeSs l)) := run7_aux _ l (Nat.le_refl _) h

theorem run8_aux : ∀ (d : Nat) (l : List S), sizeSs l ≤ d → sizeSs l ≤ 1099511627776 → lim F G (.call 8 [.sl .any (encSs l)] [] false) = retv (.int .i64 (sizeSs l)) := by
  intro d
  induction d with
  | zero =>
    intro l hd h
    have hl := len_sizeS l
    have e : l = [] := List.length_eq_zero_iff.1 (by omega)
    subst e
    have lp := f8_loop (G := G) [] [] 0 [] (by omega) (by simp [sizeSs]) (by simp) (fun s hs => by cases hs)
    simp only [List.nil_append, List.length_nil, Int.natCast_zero, Int.zero_add, List.append_nil, sizeSs, encSs] at lp
    rw [lim_fun F8 rfl]
    simp only [f8, f8_b, wc, wb, wz, wo, wv, wm, wx, wl, wk, wu, wd, wr, wf, wt, d_alloc, d_box, dbx_ok, d_store, dst_ptr, dstb_box, w_cond, w_gd, w_build, d_build, w_parts, fill_cons, bx_ok, st_ptr, stb_box, w_dreg, dv, dz, d_op, d_gd, dn_ok, Nat.reduceAdd, Nat.reduceSub, Nat.reduceMul, Nat.reduceLeDiff, Nat.reduceLT, Nat.reduceBEq, Nat.reduceEqDiff, Nat.zero_add, Nat.add_zero, Nat.le_refl, Nat.max_self, reduceIte, reduceCtorEq, decide_true, decide_false, Bool.and_true, Bool.true_and, Bool.and_false, Bool.false_and, Bool.or_false, Bool.false_or, Bool.or_true, Bool.true_or, Bool.not_true, Bool.not_false, BEq.rfl, Int.toNat_natCast, and_self, and_true, true_and, List.contains_cons, List.contains_nil, List.isEmpty_cons, List.isEmpty_nil, Option.getD_none, Option.getD_some, Option.map_none, Option.map_some, Option.isSome_none, Option.isSome_some, encSs, List.length_nil, Int.natCast_zero, Int.ofNat_zero, lp, leave_pure, sizeSs]
  | succ d ih =>
    intro l hd h
    have hl := len_sizeS l
    have lp := f8_loop (G := G) l [] 0 [] (by omega) (by omega) (by simp only [List.nil_append]; omega) (fun s hs x hx => ih x (by have := size_memS hs; omega) (by have := size_memS hs; omega))
    simp only [List.nil_append, List.length_nil, Int.natCast_zero, Int.zero_add] at lp
    rw [lim_fun F8 rfl]
    simp only [f8, f8_b, wc, wb, wz, wo, wv, wm, wx, wl, wk, wu, wd, wr, wf, wt, d_alloc, d_box, dbx_ok, d_store, dst_ptr, dstb_box, w_cond, w_gd, w_build, d_build, w_parts, fill_cons, bx_ok, st_ptr, stb_box, w_dreg, dv, dz, d_op, d_gd, dn_ok, Nat.reduceAdd, Nat.reduceSub, Nat.reduceMul, Nat.reduceLeDiff, Nat.reduceLT, Nat.reduceBEq, Nat.reduceEqDiff, Nat.zero_add, Nat.add_zero, Nat.le_refl, Nat.max_self, reduceIte, reduceCtorEq, decide_true, decide_false, Bool.and_true, Bool.true_and, Bool.and_false, Bool.false_and, Bool.or_false, Bool.false_or, Bool.or_true, Bool.true_or, Bool.not_true, Bool.not_false, BEq.rfl, Int.toNat_natCast, and_self, and_true, true_and, List.contains_cons, List.contains_nil, List.isEmpty_cons, List.isEmpty_nil, Option.getD_none, Option.getD_some, Option.map_none, Option.map_some, Option.isSome_none, Option.isSome_some, encSs_len, lp, leave_pure]
theorem run8 (l : List S) (h : sizeSs l ≤ 1099511627776) : lim F G (.call 8 [.sl .any (encSs l)] [] false) = retv (.int .i64 (sizeSs l)) := run8_aux _ l (Nat.le_refl _) h
end Go.Ev
