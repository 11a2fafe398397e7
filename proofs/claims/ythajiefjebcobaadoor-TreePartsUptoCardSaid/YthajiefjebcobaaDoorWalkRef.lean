/-
  Sameness of statements, the reference's.
-/
import Derived.Test.YthajiefjebcobaaDoorWalkSame
set_option linter.all false
set_option maxRecDepth 100000
set_option linter.unusedSimpArgs false
set_option linter.unusedVariables false
namespace Go.Ev
open Go
variable {G : List (List V)}

set_option maxHeartbeats 4000000 in
theorem f12_loop (b b' a a' : List S) (σ : Store) (hb : b.length = b'.length) (hal : a.length = a'.length) (hl : ((a ++ b).length : Int) ≤ 1099511627776)
    (hc : ∀ x ∈ b, ∀ y ∈ b', (∀ l l', sizeSs l < x.size → sizeSs l' < y.size → lim F G (.call 12 [.sl .any (encSs l), .sl .any (encSs l')] [] false) = retv (.bool (sameSs l l'))) ∧ x.size ≤ 1099511627776 ∧ y.size ≤ 1099511627776) :
    ∃ σ', lim F G (.loop [0, 1, 5] f12_l0 ⟨[.sl .any (encSs (a ++ b)), .sl .any (encSs (a' ++ b')), .any, .any, .any, .int .i64 a.length, .any, .any, .any, .any, .any, .any, .any, .any, .any, .any, .any, .any, .any, .any, .any, .any, .any, .any, .any, .any, .any, .any, .any, .any, .any, .any, .any, .any, .any, .any, .any, .any, .any, .any, .any, .any, .any, .any, .any, .any, .any, .any, .any, .any, .any, .any, .any, .any, .any, .any, .any, .any, .any, .any, .any, .any, .any, .any, .any, .any, .any, .any, .any, .any, .any, .any, .any, .any, .any, .any, .any, .any, .any, .any, .any, .any, .any, .any, .any], σ, []⟩) =
      if all2 sameS b b' then some (.code (.exit 0) ⟨[.any, .any, .any, .any, .any, .any, .any, .any, .any, .any, .any, .any, .any, .any, .any, .any, .any, .any, .any, .any, .any, .any, .any, .any, .any, .any, .any, .any, .any, .any, .any, .any, .any, .any, .any, .any, .any, .any, .any, .any, .any, .any, .any, .any, .any, .any, .any, .any, .any, .any, .any, .any, .any, .any, .any, .any, .any, .any, .any, .any, .any, .any, .any, .any, .any, .any, .any, .any, .any, .any, .any, .any, .any, .any, .any, .any, .any, .any, .any, .any, .any, .any, .any, .any, .any], σ, []⟩) else some (.code .ret ⟨[.any, .any, .any, .any, .bool false, .any, .any, .any, .any, .any, .any, .any, .any, .any, .any, .any, .any, .any, .any, .any, .any, .any, .any, .any, .any, .any, .any, .any, .any, .any, .any, .any, .any, .any, .any, .any, .any, .any, .any, .any, .any, .any, .any, .any, .any, .any, .any, .any, .any, .any, .any, .any, .any, .any, .any, .any, .any, .any, .any, .any, .any, .any, .any, .any, .any, .any, .any, .any, .any, .any, .any, .any, .any, .any, .any, .any, .any, .any, .any, .any, .any, .any, .any, .any, .any], σ', []⟩) := by
  induction b generalizing a a' b' with
  | nil =>
    cases b' with
    | cons => simp at hb
    | nil =>
    refine ⟨[], ?_⟩
    rw [lim_round f12_l0.eq_1]
    simp only [wc, wb, wz, wo, wv, wm, wx, wl, wk, wu, wd, wr, wf, wt, d_alloc, d_box, dbx_ok, d_store, dst_ptr, dstb_box, w_cond, w_gd, w_build, d_build, w_parts, fill_cons, bx_ok, st_ptr, stb_box, w_dreg, dv, dz, d_op, d_gd, dn_ok, Nat.reduceAdd, Nat.reduceSub, Nat.reduceMul, Nat.reduceLeDiff, Nat.reduceLT, Nat.reduceBEq, Nat.reduceEqDiff, Nat.zero_add, Nat.add_zero, Nat.le_refl, Nat.max_self, reduceIte, reduceCtorEq, decide_true, decide_false, Bool.and_true, Bool.true_and, Bool.and_false, Bool.false_and, Bool.or_false, Bool.false_or, Bool.or_true, Bool.true_or, Bool.not_true, Bool.not_false, BEq.rfl, Int.toNat_natCast, and_self, and_true, true_and, List.contains_cons, List.contains_nil, List.isEmpty_cons, List.isEmpty_nil, Option.getD_none, Option.getD_some, Option.map_none, Option.map_some, Option.isSome_none, Option.isSome_some, List.append_nil, encSs_len, Int.lt_irrefl, all2]
  | cons x b ih =>
    cases b' with
    | nil => simp at hb
    | cons y b' =>
    have h1 : ((a.length : Nat) : Int) < ((a ++ x :: b).length : Nat) := by simp; omega
    obtain ⟨h2, hx, hy⟩ := hc x (by simp) y (by simp)
    have h0 : (0:Int) ≤ a.length := by omega
    have e1 : (encSs (a' ++ y :: b'))[a.length]? = some y.enc := by rw [hal]; exact encSs_at a' y b'
    have hd : all2 sameS (x :: b) (y :: b') = (sameS x y && all2 sameS b b') := rfl
    rw [hd]
    obtain ⟨k1, num1, ty1, nm1, es1, x1, y1, z1, nth1⟩ := x
    obtain ⟨k2, num2, ty2, nm2, es2, x2, y2, z2, nth2⟩ := y
    have s1 : (S.mk k1 num1 ty1 nm1 es1 x1 y1 z1 nth1).size = 1 + sizeEs es1 + sizeSs x1 + sizeSs y1 + sizeSs z1 := rfl
    have s2 : (S.mk k2 num2 ty2 nm2 es2 x2 y2 z2 nth2).size = 1 + sizeEs es2 + sizeSs x2 + sizeSs y2 + sizeSs z2 := rfl
    have he := run27 (G := G) es1 es2 (by omega) (by omega)
    have ha := h2 x1 x2 (by omega) (by omega)
    have hb' := h2 y1 y2 (by omega) (by omega)
    have hc' := h2 z1 z2 (by omega) (by omega)
    simp only [S.enc] at e1
    rw [sameS]
    cases q0 : (k1 == k2) with
    | false =>
      refine ⟨σ ++ [.box (S.mk k1 num1 ty1 nm1 es1 x1 y1 z1 nth1).enc.cells, .box (S.mk k2 num2 ty2 nm2 es2 x2 y2 z2 nth2).enc.cells], ?_⟩
      rw [lim_round f12_l0.eq_1]
      simp only [wc, wb, wz, wo, wv, wm, wx, wl, wk, wu, wd, wr, wf, wt, d_alloc, d_box, dbx_ok, d_store, dst_ptr, dstb_box, w_cond, w_gd, w_build, d_build, w_parts, fill_cons, bx_ok, st_ptr, stb_box, w_dreg, dv, dz, d_op, d_gd, dn_ok, Nat.reduceAdd, Nat.reduceSub, Nat.reduceMul, Nat.reduceLeDiff, Nat.reduceLT, Nat.reduceBEq, Nat.reduceEqDiff, Nat.zero_add, Nat.add_zero, Nat.le_refl, Nat.max_self, reduceIte, reduceCtorEq, decide_true, decide_false, Bool.and_true, Bool.true_and, Bool.and_false, Bool.false_and, Bool.or_false, Bool.false_or, Bool.or_true, Bool.true_or, Bool.not_true, Bool.not_false, BEq.rfl, Int.toNat_natCast, and_self, and_true, true_and, List.contains_cons, List.contains_nil, List.isEmpty_cons, List.isEmpty_nil, Option.getD_none, Option.getD_some, Option.map_none, Option.map_some, Option.isSome_none, Option.isSome_some, bne, encEs_top, encSs_top, encEs_pure, encSs_pure, encEs_under, encSs_under, cx_pure, encSs_len, h1, h0, encSs_at, e1, S.enc, he, ha, hb', hc', retv, ca_ret, q0]
    | true =>
      cases q1 : (num1 == num2) with
      | false =>
        refine ⟨σ ++ [.box (S.mk k1 num1 ty1 nm1 es1 x1 y1 z1 nth1).enc.cells, .box (S.mk k2 num2 ty2 nm2 es2 x2 y2 z2 nth2).enc.cells], ?_⟩
        rw [lim_round f12_l0.eq_1]
        simp only [wc, wb, wz, wo, wv, wm, wx, wl, wk, wu, wd, wr, wf, wt, d_alloc, d_box, dbx_ok, d_store, dst_ptr, dstb_box, w_cond, w_gd, w_build, d_build, w_parts, fill_cons, bx_ok, st_ptr, stb_box, w_dreg, dv, dz, d_op, d_gd, dn_ok, Nat.reduceAdd, Nat.reduceSub, Nat.reduceMul, Nat.reduceLeDiff, Nat.reduceLT, Nat.reduceBEq, Nat.reduceEqDiff, Nat.zero_add, Nat.add_zero, Nat.le_refl, Nat.max_self, reduceIte, reduceCtorEq, decide_true, decide_false, Bool.and_true, Bool.true_and, Bool.and_false, Bool.false_and, Bool.or_false, Bool.false_or, Bool.or_true, Bool.true_or, Bool.not_true, Bool.not_false, BEq.rfl, Int.toNat_natCast, and_self, and_true, true_and, List.contains_cons, List.contains_nil, List.isEmpty_cons, List.isEmpty_nil, Option.getD_none, Option.getD_some, Option.map_none, Option.map_some, Option.isSome_none, Option.isSome_some, bne, encEs_top, encSs_top, encEs_pure, encSs_pure, encEs_under, encSs_under, cx_pure, encSs_len, h1, h0, encSs_at, e1, S.enc, he, ha, hb', hc', retv, ca_ret, q0, q1]
      | true =>
        cases q2 : (ty1 == ty2) with
        | false =>
          refine ⟨σ ++ [.box (S.mk k1 num1 ty1 nm1 es1 x1 y1 z1 nth1).enc.cells, .box (S.mk k2 num2 ty2 nm2 es2 x2 y2 z2 nth2).enc.cells], ?_⟩
          rw [lim_round f12_l0.eq_1]
          simp only [wc, wb, wz, wo, wv, wm, wx, wl, wk, wu, wd, wr, wf, wt, d_alloc, d_box, dbx_ok, d_store, dst_ptr, dstb_box, w_cond, w_gd, w_build, d_build, w_parts, fill_cons, bx_ok, st_ptr, stb_box, w_dreg, dv, dz, d_op, d_gd, dn_ok, Nat.reduceAdd, Nat.reduceSub, Nat.reduceMul, Nat.reduceLeDiff, Nat.reduceLT, Nat.reduceBEq, Nat.reduceEqDiff, Nat.zero_add, Nat.add_zero, Nat.le_refl, Nat.max_self, reduceIte, reduceCtorEq, decide_true, decide_false, Bool.and_true, Bool.true_and, Bool.and_false, Bool.false_and, Bool.or_false, Bool.false_or, Bool.or_true, Bool.true_or, Bool.not_true, Bool.not_false, BEq.rfl, Int.toNat_natCast, and_self, and_true, true_and, List.contains_cons, List.contains_nil, List.isEmpty_cons, List.isEmpty_nil, Option.getD_none, Option.getD_some, Option.map_none, Option.map_some, Option.isSome_none, Option.isSome_some, bne, encEs_top, encSs_top, encEs_pure, encSs_pure, encEs_under, encSs_under, cx_pure, encSs_len, h1, h0, encSs_at, e1, S.enc, he, ha, hb', hc', retv, ca_ret, q0, q1, q2]
        | true =>
          cases q3 : (nm1 == nm2) with
          | false =>
            refine ⟨σ ++ [.box (S.mk k1 num1 ty1 nm1 es1 x1 y1 z1 nth1).enc.cells, .box (S.mk k2 num2 ty2 nm2 es2 x2 y2 z2 nth2).enc.cells], ?_⟩
            rw [lim_round f12_l0.eq_1]
            simp only [wc, wb, wz, wo, wv, wm, wx, wl, wk, wu, wd, wr, wf, wt, d_alloc, d_box, dbx_ok, d_store, dst_ptr, dstb_box, w_cond, w_gd, w_build, d_build, w_parts, fill_cons, bx_ok, st_ptr, stb_box, w_dreg, dv, dz, d_op, d_gd, dn_ok, Nat.reduceAdd, Nat.reduceSub, Nat.reduceMul, Nat.reduceLeDiff, Nat.reduceLT, Nat.reduceBEq, Nat.reduceEqDiff, Nat.zero_add, Nat.add_zero, Nat.le_refl, Nat.max_self, reduceIte, reduceCtorEq, decide_true, decide_false, Bool.and_true, Bool.true_and, Bool.and_false, Bool.false_and, Bool.or_false, Bool.false_or, Bool.or_true, Bool.true_or, Bool.not_true, Bool.not_false, BEq.rfl, Int.toNat_natCast, and_self, and_true, true_and, List.contains_cons, List.contains_nil, List.isEmpty_cons, List.isEmpty_nil, Option.getD_none, Option.getD_some, Option.map_none, Option.map_some, Option.isSome_none, Option.isSome_some, bne, encEs_top, encSs_top, encEs_pure, encSs_pure, encEs_under, encSs_under, cx_pure, encSs_len, h1, h0, encSs_at, e1, S.enc, he, ha, hb', hc', retv, ca_ret, q0, q1, q2, q3]
          | true =>
            cases q4 : sameEs es1 es2 with
            | false =>
              refine ⟨σ ++ [.box (S.mk k1 num1 ty1 nm1 es1 x1 y1 z1 nth1).enc.cells, .box (S.mk k2 num2 ty2 nm2 es2 x2 y2 z2 nth2).enc.cells], ?_⟩
              rw [lim_round f12_l0.eq_1]
              simp only [wc, wb, wz, wo, wv, wm, wx, wl, wk, wu, wd, wr, wf, wt, d_alloc, d_box, dbx_ok, d_store, dst_ptr, dstb_box, w_cond, w_gd, w_build, d_build, w_parts, fill_cons, bx_ok, st_ptr, stb_box, w_dreg, dv, dz, d_op, d_gd, dn_ok, Nat.reduceAdd, Nat.reduceSub, Nat.reduceMul, Nat.reduceLeDiff, Nat.reduceLT, Nat.reduceBEq, Nat.reduceEqDiff, Nat.zero_add, Nat.add_zero, Nat.le_refl, Nat.max_self, reduceIte, reduceCtorEq, decide_true, decide_false, Bool.and_true, Bool.true_and, Bool.and_false, Bool.false_and, Bool.or_false, Bool.false_or, Bool.or_true, Bool.true_or, Bool.not_true, Bool.not_false, BEq.rfl, Int.toNat_natCast, and_self, and_true, true_and, List.contains_cons, List.contains_nil, List.isEmpty_cons, List.isEmpty_nil, Option.getD_none, Option.getD_some, Option.map_none, Option.map_some, Option.isSome_none, Option.isSome_some, bne, encEs_top, encSs_top, encEs_pure, encSs_pure, encEs_under, encSs_under, cx_pure, encSs_len, h1, h0, encSs_at, e1, S.enc, he, ha, hb', hc', retv, ca_ret, q0, q1, q2, q3, q4]
            | true =>
              cases q5 : sameSs x1 x2 with
              | false =>
                refine ⟨σ ++ [.box (S.mk k1 num1 ty1 nm1 es1 x1 y1 z1 nth1).enc.cells, .box (S.mk k2 num2 ty2 nm2 es2 x2 y2 z2 nth2).enc.cells], ?_⟩
                rw [lim_round f12_l0.eq_1]
                simp only [wc, wb, wz, wo, wv, wm, wx, wl, wk, wu, wd, wr, wf, wt, d_alloc, d_box, dbx_ok, d_store, dst_ptr, dstb_box, w_cond, w_gd, w_build, d_build, w_parts, fill_cons, bx_ok, st_ptr, stb_box, w_dreg, dv, dz, d_op, d_gd, dn_ok, Nat.reduceAdd, Nat.reduceSub, Nat.reduceMul, Nat.reduceLeDiff, Nat.reduceLT, Nat.reduceBEq, Nat.reduceEqDiff, Nat.zero_add, Nat.add_zero, Nat.le_refl, Nat.max_self, reduceIte, reduceCtorEq, decide_true, decide_false, Bool.and_true, Bool.true_and, Bool.and_false, Bool.false_and, Bool.or_false, Bool.false_or, Bool.or_true, Bool.true_or, Bool.not_true, Bool.not_false, BEq.rfl, Int.toNat_natCast, and_self, and_true, true_and, List.contains_cons, List.contains_nil, List.isEmpty_cons, List.isEmpty_nil, Option.getD_none, Option.getD_some, Option.map_none, Option.map_some, Option.isSome_none, Option.isSome_some, bne, encEs_top, encSs_top, encEs_pure, encSs_pure, encEs_under, encSs_under, cx_pure, encSs_len, h1, h0, encSs_at, e1, S.enc, he, ha, hb', hc', retv, ca_ret, q0, q1, q2, q3, q4, q5]
              | true =>
                cases q6 : sameSs y1 y2 with
                | false =>
                  refine ⟨σ ++ [.box (S.mk k1 num1 ty1 nm1 es1 x1 y1 z1 nth1).enc.cells, .box (S.mk k2 num2 ty2 nm2 es2 x2 y2 z2 nth2).enc.cells], ?_⟩
                  rw [lim_round f12_l0.eq_1]
                  simp only [wc, wb, wz, wo, wv, wm, wx, wl, wk, wu, wd, wr, wf, wt, d_alloc, d_box, dbx_ok, d_store, dst_ptr, dstb_box, w_cond, w_gd, w_build, d_build, w_parts, fill_cons, bx_ok, st_ptr, stb_box, w_dreg, dv, dz, d_op, d_gd, dn_ok, Nat.reduceAdd, Nat.reduceSub, Nat.reduceMul, Nat.reduceLeDiff, Nat.reduceLT, Nat.reduceBEq, Nat.reduceEqDiff, Nat.zero_add, Nat.add_zero, Nat.le_refl, Nat.max_self, reduceIte, reduceCtorEq, decide_true, decide_false, Bool.and_true, Bool.true_and, Bool.and_false, Bool.false_and, Bool.or_false, Bool.false_or, Bool.or_true, Bool.true_or, Bool.not_true, Bool.not_false, BEq.rfl, Int.toNat_natCast, and_self, and_true, true_and, List.contains_cons, List.contains_nil, List.isEmpty_cons, List.isEmpty_nil, Option.getD_none, Option.getD_some, Option.map_none, Option.map_some, Option.isSome_none, Option.isSome_some, bne, encEs_top, encSs_top, encEs_pure, encSs_pure, encEs_under, encSs_under, cx_pure, encSs_len, h1, h0, encSs_at, e1, S.enc, he, ha, hb', hc', retv, ca_ret, q0, q1, q2, q3, q4, q5, q6]
                | true =>
                  cases q7 : sameSs z1 z2 with
                  | false =>
                    refine ⟨σ ++ [.box (S.mk k1 num1 ty1 nm1 es1 x1 y1 z1 nth1).enc.cells, .box (S.mk k2 num2 ty2 nm2 es2 x2 y2 z2 nth2).enc.cells], ?_⟩
                    rw [lim_round f12_l0.eq_1]
                    simp only [wc, wb, wz, wo, wv, wm, wx, wl, wk, wu, wd, wr, wf, wt, d_alloc, d_box, dbx_ok, d_store, dst_ptr, dstb_box, w_cond, w_gd, w_build, d_build, w_parts, fill_cons, bx_ok, st_ptr, stb_box, w_dreg, dv, dz, d_op, d_gd, dn_ok, Nat.reduceAdd, Nat.reduceSub, Nat.reduceMul, Nat.reduceLeDiff, Nat.reduceLT, Nat.reduceBEq, Nat.reduceEqDiff, Nat.zero_add, Nat.add_zero, Nat.le_refl, Nat.max_self, reduceIte, reduceCtorEq, decide_true, decide_false, Bool.and_true, Bool.true_and, Bool.and_false, Bool.false_and, Bool.or_false, Bool.false_or, Bool.or_true, Bool.true_or, Bool.not_true, Bool.not_false, BEq.rfl, Int.toNat_natCast, and_self, and_true, true_and, List.contains_cons, List.contains_nil, List.isEmpty_cons, List.isEmpty_nil, Option.getD_none, Option.getD_some, Option.map_none, Option.map_some, Option.isSome_none, Option.isSome_some, bne, encEs_top, encSs_top, encEs_pure, encSs_pure, encEs_under, encSs_under, cx_pure, encSs_len, h1, h0, encSs_at, e1, S.enc, he, ha, hb', hc', retv, ca_ret, q0, q1, q2, q3, q4, q5, q6, q7]
                  | true =>
                    obtain ⟨σ', ih'⟩ := ih b' (a ++ [.mk k1 num1 ty1 nm1 es1 x1 y1 z1 nth1]) (a' ++ [.mk k2 num2 ty2 nm2 es2 x2 y2 z2 nth2]) (by simpa using hb) (by simp [hal]) (by simpa using hl) (fun e he z hz => hc e (by simp [he]) z (by simp [hz]))
                    refine ⟨σ', ?_⟩
                    have w2 : IntKind.i64.wrap ((a.length : Nat) + 1) = ((a ++ [S.mk k1 num1 ty1 nm1 es1 x1 y1 z1 nth1]).length : Nat) := by rw [wrap_ok (by omega)]; simp
                    simp only [List.append_assoc, List.singleton_append] at ih'
                    rw [lim_round f12_l0.eq_1]
                    simp only [wc, wb, wz, wo, wv, wm, wx, wl, wk, wu, wd, wr, wf, wt, d_alloc, d_box, dbx_ok, d_store, dst_ptr, dstb_box, w_cond, w_gd, w_build, d_build, w_parts, fill_cons, bx_ok, st_ptr, stb_box, w_dreg, dv, dz, d_op, d_gd, dn_ok, Nat.reduceAdd, Nat.reduceSub, Nat.reduceMul, Nat.reduceLeDiff, Nat.reduceLT, Nat.reduceBEq, Nat.reduceEqDiff, Nat.zero_add, Nat.add_zero, Nat.le_refl, Nat.max_self, reduceIte, reduceCtorEq, decide_true, decide_false, Bool.and_true, Bool.true_and, Bool.and_false, Bool.false_and, Bool.or_false, Bool.false_or, Bool.or_true, Bool.true_or, Bool.not_true, Bool.not_false, BEq.rfl, Int.toNat_natCast, and_self, and_true, true_and, List.contains_cons, List.contains_nil, List.isEmpty_cons, List.isEmpty_nil, Option.getD_none, Option.getD_some, Option.map_none, Option.map_some, Option.isSome_none, Option.isSome_some, bne, encEs_top, encSs_top, encEs_pure, encSs_pure, encEs_under, encSs_under, cx_pure, encSs_len, h1, h0, encSs_at, e1, S.enc, he, ha, hb', hc', retv, ca_ret, q0, q1, q2, q3, q4, q5, q6, q7, w2, tidy_ok, tidy_same, ih']

theorem run12_aux : ∀ (d : Nat) (l l' : List S), sizeSs l ≤ d → sizeSs l ≤ 1099511627776 → sizeSs l' ≤ 1099511627776 → lim F G (.call 12 [.sl .any (encSs l), .sl .any (encSs l')] [] false) = retv (.bool (sameSs l l')) := by
  intro d
  induction d with
  | zero =>
    intro l l' hd h h'
    have hl := len_sizeS l
    have hl' := len_sizeS l'
    have e : l = [] := List.length_eq_zero_iff.1 (by omega)
    subst e
    cases l' with
    | nil =>
      obtain ⟨σ', lp⟩ := f12_loop (G := G) [] [] [] [] [] rfl rfl (by simp) (fun s hs => by cases hs)
      simp only [List.nil_append, List.length_nil, Int.natCast_zero, all2, if_true, encSs] at lp
      rw [lim_fun F12 rfl]
      simp only [f12, f12_b, wc, wb, wz, wo, wv, wm, wx, wl, wk, wu, wd, wr, wf, wt, d_alloc, d_box, dbx_ok, d_store, dst_ptr, dstb_box, w_cond, w_gd, w_build, d_build, w_parts, fill_cons, bx_ok, st_ptr, stb_box, w_dreg, dv, dz, d_op, d_gd, dn_ok, Nat.reduceAdd, Nat.reduceSub, Nat.reduceMul, Nat.reduceLeDiff, Nat.reduceLT, Nat.reduceBEq, Nat.reduceEqDiff, Nat.zero_add, Nat.add_zero, Nat.le_refl, Nat.max_self, reduceIte, reduceCtorEq, decide_true, decide_false, Bool.and_true, Bool.true_and, Bool.and_false, Bool.false_and, Bool.or_false, Bool.false_or, Bool.or_true, Bool.true_or, Bool.not_true, Bool.not_false, BEq.rfl, Int.toNat_natCast, and_self, and_true, true_and, List.contains_cons, List.contains_nil, List.isEmpty_cons, List.isEmpty_nil, Option.getD_none, Option.getD_some, Option.map_none, Option.map_some, Option.isSome_none, Option.isSome_some, bne, encSs, List.length_nil, Int.natCast_zero, lp, leave_pure, sameSs]
    | cons y l' =>
      have h2 : ((0 : Int) == ((y :: l').length : Nat)) = false := by simp; omega
      rw [lim_fun F12 rfl]
      simp only [f12, f12_b, wc, wb, wz, wo, wv, wm, wx, wl, wk, wu, wd, wr, wf, wt, d_alloc, d_box, dbx_ok, d_store, dst_ptr, dstb_box, w_cond, w_gd, w_build, d_build, w_parts, fill_cons, bx_ok, st_ptr, stb_box, w_dreg, dv, dz, d_op, d_gd, dn_ok, Nat.reduceAdd, Nat.reduceSub, Nat.reduceMul, Nat.reduceLeDiff, Nat.reduceLT, Nat.reduceBEq, Nat.reduceEqDiff, Nat.zero_add, Nat.add_zero, Nat.le_refl, Nat.max_self, reduceIte, reduceCtorEq, decide_true, decide_false, Bool.and_true, Bool.true_and, Bool.and_false, Bool.false_and, Bool.or_false, Bool.false_or, Bool.or_true, Bool.true_or, Bool.not_true, Bool.not_false, BEq.rfl, Int.toNat_natCast, and_self, and_true, true_and, List.contains_cons, List.contains_nil, List.isEmpty_cons, List.isEmpty_nil, Option.getD_none, Option.getD_some, Option.map_none, Option.map_some, Option.isSome_none, Option.isSome_some, bne, encSs_len, List.length_nil, Int.natCast_zero, h2, leave_pure, sameSs]
  | succ d ih =>
    intro l l' hd h h'
    have hl := len_sizeS l
    have hl' := len_sizeS l'
    rw [lim_fun F12 rfl, sameSs_all2]
    by_cases he : l.length = l'.length
    · obtain ⟨σ', lp⟩ := f12_loop (G := G) l l' [] [] [] he rfl (by simp only [List.nil_append]; omega) (fun x hx y hy => by
        have q1 := size_memS hx
        have q2 := size_memS hy
        exact ⟨fun m m' hm hm' => ih m m' (by omega) (by omega) (by omega), by omega, by omega⟩)
      simp only [List.nil_append, List.length_nil, Int.natCast_zero] at lp
      have h1 : ((l.length : Int) == (l'.length : Int)) = true := by simp [he]
      have h2 : (l.length == l'.length) = true := by simp [he]
      cases hr : all2 sameS l l' with
      | true =>
        rw [hr] at lp
        simp only [f12, f12_b, wc, wb, wz, wo, wv, wm, wx, wl, wk, wu, wd, wr, wf, wt, d_alloc, d_box, dbx_ok, d_store, dst_ptr, dstb_box, w_cond, w_gd, w_build, d_build, w_parts, fill_cons, bx_ok, st_ptr, stb_box, w_dreg, dv, dz, d_op, d_gd, dn_ok, Nat.reduceAdd, Nat.reduceSub, Nat.reduceMul, Nat.reduceLeDiff, Nat.reduceLT, Nat.reduceBEq, Nat.reduceEqDiff, Nat.zero_add, Nat.add_zero, Nat.le_refl, Nat.max_self, reduceIte, reduceCtorEq, decide_true, decide_false, Bool.and_true, Bool.true_and, Bool.and_false, Bool.false_and, Bool.or_false, Bool.false_or, Bool.or_true, Bool.true_or, Bool.not_true, Bool.not_false, BEq.rfl, Int.toNat_natCast, and_self, and_true, true_and, List.contains_cons, List.contains_nil, List.isEmpty_cons, List.isEmpty_nil, Option.getD_none, Option.getD_some, Option.map_none, Option.map_some, Option.isSome_none, Option.isSome_some, bne, encSs_len, h1, h2, lp, leave_pure]
      | false =>
        rw [hr] at lp
        simp only [f12, f12_b, wc, wb, wz, wo, wv, wm, wx, wl, wk, wu, wd, wr, wf, wt, d_alloc, d_box, dbx_ok, d_store, dst_ptr, dstb_box, w_cond, w_gd, w_build, d_build, w_parts, fill_cons, bx_ok, st_ptr, stb_box, w_dreg, dv, dz, d_op, d_gd, dn_ok, Nat.reduceAdd, Nat.reduceSub, Nat.reduceMul, Nat.reduceLeDiff, Nat.reduceLT, Nat.reduceBEq, Nat.reduceEqDiff, Nat.zero_add, Nat.add_zero, Nat.le_refl, Nat.max_self, reduceIte, reduceCtorEq, decide_true, decide_false, Bool.and_true, Bool.true_and, Bool.and_false, Bool.false_and, Bool.or_false, Bool.false_or, Bool.or_true, Bool.true_or, Bool.not_true, Bool.not_false, BEq.rfl, Int.toNat_natCast, and_self, and_true, true_and, List.contains_cons, List.contains_nil, List.isEmpty_cons, List.isEmpty_nil, Option.getD_none, Option.getD_some, Option.map_none, Option.map_some, Option.isSome_none, Option.isSome_some, bne, encSs_len, h1, h2, lp, leave_pure]
    · have h1 : ((l.length : Int) == (l'.length : Int)) = false := by simp; omega
      have h2 : (l.length == l'.length) = false := by simp [he]
      simp only [f12, f12_b, wc, wb, wz, wo, wv, wm, wx, wl, wk, wu, wd, wr, wf, wt, d_alloc, d_box, dbx_ok, d_store, dst_ptr, dstb_box, w_cond, w_gd, w_build, d_build, w_parts, fill_cons, bx_ok, st_ptr, stb_box, w_dreg, dv, dz, d_op, d_gd, dn_ok, Nat.reduceAdd, Nat.reduceSub, Nat.reduceMul, Nat.reduceLeDiff, Nat.reduceLT, Nat.reduceBEq, Nat.reduceEqDiff, Nat.zero_add, Nat.add_zero, Nat.le_refl, Nat.max_self, reduceIte, reduceCtorEq, decide_true, decide_false, Bool.and_true, Bool.true_and, Bool.and_false, Bool.false_and, Bool.or_false, Bool.false_or, Bool.or_true, Bool.true_or, Bool.not_true, Bool.not_false, BEq.rfl, Int.toNat_natCast, and_self, and_true, true_and, List.contains_cons, List.contains_nil, List.isEmpty_cons, List.isEmpty_nil, Option.getD_none, Option.getD_some, Option.map_none, Option.map_some, Option.isSome_none, Option.isSome_some, bne, encSs_len, h1, h2, leave_pure]
theorem run12 (l l' : List S) (h : sizeSs l ≤ 1099511627776) (h' : sizeSs l' ≤ 1099511627776) : lim F G (.call 12 [.sl .any (encSs l), .sl .any (encSs l')] [] false) = retv (.bool (sameSs l l')) := run12_aux _ l l' (Nat.le_refl _) h h'
end Go.Ev
