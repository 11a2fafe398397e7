/-
  TreeParts answers true.
-/
import Derived.Test.YthajiefjebcobaaDoorWalkFew
import Derived.Test.YthajiefjebcobaaDoorWalkTold
import Derived.Test.YthajiefjebcobaaDoorEvPl
set_option linter.all false
set_option maxRecDepth 100000
set_option linter.unusedSimpArgs false
set_option linter.unusedVariables false
namespace Go.Ev
open Go
variable {G : List (List V)}

theorem run2 (e : E) (h : e.size ≤ 1000000000) : lim F G (.call 2 [e.enc] [] false) = retv (.bool (decide ((fewEs [e] 0 0 : Int) ≤ 400))) := by
  have h1 := run21 (G := G) (sizeEs [e]) [e] 0 (Nat.le_refl _) (by simp only [sizeEs]; omega) (by omega)
  simp only [Int.natCast_zero, encEs] at h1
  rw [lim_fun F2 rfl]
  obtain ⟨k, num, tx, nm, ty, l, own, nth⟩ := e
  simp only [E.enc] at h1
  simp only [f2, f2_b, wc, wb, wz, wo, wv, wm, wx, wl, wk, wu, wd, wr, wf, wt, d_alloc, d_box, dbx_ok, d_store, dst_ptr, dstb_box, w_cond, w_gd, w_build, d_build, w_parts, fill_cons, bx_ok, st_ptr, stb_box, w_dreg, dv, dz, d_op, d_gd, dn_ok, Nat.reduceAdd, Nat.reduceSub, Nat.reduceMul, Nat.reduceLeDiff, Nat.reduceLT, Nat.reduceBEq, Nat.reduceEqDiff, Nat.zero_add, Nat.add_zero, Nat.le_refl, Nat.max_self, reduceIte, reduceCtorEq, decide_true, decide_false, Bool.and_true, Bool.true_and, Bool.and_false, Bool.false_and, Bool.or_false, Bool.false_or, Bool.or_true, Bool.true_or, Bool.not_true, Bool.not_false, BEq.rfl, Int.toNat_natCast, and_self, and_true, true_and, List.contains_cons, List.contains_nil, List.isEmpty_cons, List.isEmpty_nil, Option.getD_none, Option.getD_some, Option.map_none, Option.map_some, Option.isSome_none, Option.isSome_some, wq, bs_lit, bs1_ok, cx_pl, E.enc, encEs_top, encEs_pure, h1, retv, ca_ret, leave_pure]

theorem run3 (l : List S) (h : sizeSs l ≤ 1000000000) : lim F G (.call 3 [.sl .any (encSs l)] [] false) = retv (.bool (decide ((fewSs l 0 0 : Int) ≤ 400))) := by
  have h1 := run22 (G := G) (sizeSs l) l 0 (Nat.le_refl _) (by omega) (by omega)
  simp only [Int.natCast_zero] at h1
  rw [lim_fun F3 rfl]
  simp only [f3, f3_b, wc, wb, wz, wo, wv, wm, wx, wl, wk, wu, wd, wr, wf, wt, d_alloc, d_box, dbx_ok, d_store, dst_ptr, dstb_box, w_cond, w_gd, w_build, d_build, w_parts, fill_cons, bx_ok, st_ptr, stb_box, w_dreg, dv, dz, d_op, d_gd, dn_ok, Nat.reduceAdd, Nat.reduceSub, Nat.reduceMul, Nat.reduceLeDiff, Nat.reduceLT, Nat.reduceBEq, Nat.reduceEqDiff, Nat.zero_add, Nat.add_zero, Nat.le_refl, Nat.max_self, reduceIte, reduceCtorEq, decide_true, decide_false, Bool.and_true, Bool.true_and, Bool.and_false, Bool.false_and, Bool.or_false, Bool.false_or, Bool.or_true, Bool.true_or, Bool.not_true, Bool.not_false, BEq.rfl, Int.toNat_natCast, and_self, and_true, true_and, List.contains_cons, List.contains_nil, List.isEmpty_cons, List.isEmpty_nil, Option.getD_none, Option.getD_some, Option.map_none, Option.map_some, Option.isSome_none, Option.isSome_some, cx_pure, encSs_pure, h1, retv, ca_ret, leave_pure]

theorem run0 (a b : E) (l m : List S) (ha : a.size ≤ 1000000000) (hb : b.size ≤ 1000000000) (hl : sizeSs l ≤ 1000000000) (hm : sizeSs m ≤ 1000000000) :
    lim F [] (.call 0 [a.enc, b.enc, .sl .any (encSs l), .sl .any (encSs m)] [] false) = retv (.bool true) := by
  have t := run4
  have p1 := run2 (G := []) a ha
  have p2 := run2 (G := []) b hb
  have p3 := run3 (G := []) l hl
  have p4 := run3 (G := []) m hm
  have q1 := run5 (G := []) a (by omega)
  have q2 := run6 (G := []) a (by omega)
  have q3 := run7 (G := []) l (by omega)
  have q4 := run8 (G := []) l (by omega)
  have q5 := run9 (G := []) a b (by omega) (by omega)
  have q6 := run10 (G := []) a b (by omega) (by omega)
  have q7 := run11 (G := []) l m (by omega) (by omega)
  have q8 := run12 (G := []) l m (by omega) (by omega)
  generalize (decide ((fewEs [a] 0 0 : Int) ≤ 400)) = c1 at p1
  generalize (decide ((fewEs [b] 0 0 : Int) ≤ 400)) = c2 at p2
  generalize (decide ((fewSs l 0 0 : Int) ≤ 400)) = c3 at p3
  generalize (decide ((fewSs m 0 0 : Int) ≤ 400)) = c4 at p4
  generalize (a.size : Int) = s1 at q1 q2
  generalize (sizeSs l : Int) = s2 at q3 q4
  generalize sameE a b = s3 at q5 q6
  generalize sameSs l m = s4 at q7 q8
  rw [lim_fun F0 rfl]
  obtain ⟨k, num, tx, nm, ty, x, own, nth⟩ := a
  obtain ⟨k', num', tx', nm', ty', x', own', nth'⟩ := b
  simp only [E.enc] at p1 p2 q1 q2 q5 q6
  cases c1
  · simp only [f0, f0_b, wc, wb, wz, wo, wv, wm, wx, wl, wk, wu, wd, wr, wf, wt, d_alloc, d_box, dbx_ok, d_store, dst_ptr, dstb_box, w_cond, w_gd, w_build, d_build, w_parts, fill_cons, bx_ok, st_ptr, stb_box, w_dreg, dv, dz, d_op, d_gd, dn_ok, Nat.reduceAdd, Nat.reduceSub, Nat.reduceMul, Nat.reduceLeDiff, Nat.reduceLT, Nat.reduceBEq, Nat.reduceEqDiff, Nat.zero_add, Nat.add_zero, Nat.le_refl, Nat.max_self, reduceIte, reduceCtorEq, decide_true, decide_false, Bool.and_true, Bool.true_and, Bool.and_false, Bool.false_and, Bool.or_false, Bool.false_or, Bool.or_true, Bool.true_or, Bool.not_true, Bool.not_false, BEq.rfl, Int.toNat_natCast, and_self, and_true, true_and, List.contains_cons, List.contains_nil, List.isEmpty_cons, List.isEmpty_nil, Option.getD_none, Option.getD_some, Option.map_none, Option.map_some, Option.isSome_none, Option.isSome_some, cx_pure, dcx_pure, E.enc, encEs_top, encEs_pure, encSs_pure, p1, t, retv, ca_ret, dca_ret, leave_pure]
  cases c2
  · simp only [f0, f0_b, wc, wb, wz, wo, wv, wm, wx, wl, wk, wu, wd, wr, wf, wt, d_alloc, d_box, dbx_ok, d_store, dst_ptr, dstb_box, w_cond, w_gd, w_build, d_build, w_parts, fill_cons, bx_ok, st_ptr, stb_box, w_dreg, dv, dz, d_op, d_gd, dn_ok, Nat.reduceAdd, Nat.reduceSub, Nat.reduceMul, Nat.reduceLeDiff, Nat.reduceLT, Nat.reduceBEq, Nat.reduceEqDiff, Nat.zero_add, Nat.add_zero, Nat.le_refl, Nat.max_self, reduceIte, reduceCtorEq, decide_true, decide_false, Bool.and_true, Bool.true_and, Bool.and_false, Bool.false_and, Bool.or_false, Bool.false_or, Bool.or_true, Bool.true_or, Bool.not_true, Bool.not_false, BEq.rfl, Int.toNat_natCast, and_self, and_true, true_and, List.contains_cons, List.contains_nil, List.isEmpty_cons, List.isEmpty_nil, Option.getD_none, Option.getD_some, Option.map_none, Option.map_some, Option.isSome_none, Option.isSome_some, cx_pure, dcx_pure, E.enc, encEs_top, encEs_pure, encSs_pure, p1, p2, t, retv, ca_ret, dca_ret, leave_pure]
  cases c3
  · simp only [f0, f0_b, wc, wb, wz, wo, wv, wm, wx, wl, wk, wu, wd, wr, wf, wt, d_alloc, d_box, dbx_ok, d_store, dst_ptr, dstb_box, w_cond, w_gd, w_build, d_build, w_parts, fill_cons, bx_ok, st_ptr, stb_box, w_dreg, dv, dz, d_op, d_gd, dn_ok, Nat.reduceAdd, Nat.reduceSub, Nat.reduceMul, Nat.reduceLeDiff, Nat.reduceLT, Nat.reduceBEq, Nat.reduceEqDiff, Nat.zero_add, Nat.add_zero, Nat.le_refl, Nat.max_self, reduceIte, reduceCtorEq, decide_true, decide_false, Bool.and_true, Bool.true_and, Bool.and_false, Bool.false_and, Bool.or_false, Bool.false_or, Bool.or_true, Bool.true_or, Bool.not_true, Bool.not_false, BEq.rfl, Int.toNat_natCast, and_self, and_true, true_and, List.contains_cons, List.contains_nil, List.isEmpty_cons, List.isEmpty_nil, Option.getD_none, Option.getD_some, Option.map_none, Option.map_some, Option.isSome_none, Option.isSome_some, cx_pure, dcx_pure, E.enc, encEs_top, encEs_pure, encSs_pure, p1, p2, p3, t, retv, ca_ret, dca_ret, leave_pure]
  cases c4
  · simp only [f0, f0_b, wc, wb, wz, wo, wv, wm, wx, wl, wk, wu, wd, wr, wf, wt, d_alloc, d_box, dbx_ok, d_store, dst_ptr, dstb_box, w_cond, w_gd, w_build, d_build, w_parts, fill_cons, bx_ok, st_ptr, stb_box, w_dreg, dv, dz, d_op, d_gd, dn_ok, Nat.reduceAdd, Nat.reduceSub, Nat.reduceMul, Nat.reduceLeDiff, Nat.reduceLT, Nat.reduceBEq, Nat.reduceEqDiff, Nat.zero_add, Nat.add_zero, Nat.le_refl, Nat.max_self, reduceIte, reduceCtorEq, decide_true, decide_false, Bool.and_true, Bool.true_and, Bool.and_false, Bool.false_and, Bool.or_false, Bool.false_or, Bool.or_true, Bool.true_or, Bool.not_true, Bool.not_false, BEq.rfl, Int.toNat_natCast, and_self, and_true, true_and, List.contains_cons, List.contains_nil, List.isEmpty_cons, List.isEmpty_nil, Option.getD_none, Option.getD_some, Option.map_none, Option.map_some, Option.isSome_none, Option.isSome_some, cx_pure, dcx_pure, E.enc, encEs_top, encEs_pure, encSs_pure, p1, p2, p3, p4, t, retv, ca_ret, dca_ret, leave_pure]
  simp only [f0, f0_b, wc, wb, wz, wo, wv, wm, wx, wl, wk, wu, wd, wr, wf, wt, d_alloc, d_box, dbx_ok, d_store, dst_ptr, dstb_box, w_cond, w_gd, w_build, d_build, w_parts, fill_cons, bx_ok, st_ptr, stb_box, w_dreg, dv, dz, d_op, d_gd, dn_ok, Nat.reduceAdd, Nat.reduceSub, Nat.reduceMul, Nat.reduceLeDiff, Nat.reduceLT, Nat.reduceBEq, Nat.reduceEqDiff, Nat.zero_add, Nat.add_zero, Nat.le_refl, Nat.max_self, reduceIte, reduceCtorEq, decide_true, decide_false, Bool.and_true, Bool.true_and, Bool.and_false, Bool.false_and, Bool.or_false, Bool.false_or, Bool.or_true, Bool.true_or, Bool.not_true, Bool.not_false, BEq.rfl, Int.toNat_natCast, and_self, and_true, true_and, List.contains_cons, List.contains_nil, List.isEmpty_cons, List.isEmpty_nil, Option.getD_none, Option.getD_some, Option.map_none, Option.map_some, Option.isSome_none, Option.isSome_some, cx_pure, dcx_pure, E.enc, encEs_top, encEs_pure, encSs_pure, p1, p2, p3, p4, q1, q2, q3, q4, q5, q6, q7, q8, t, retv, ca_ret, dca_ret, leave_pure]
end Go.Ev
