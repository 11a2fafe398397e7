/-
  Sameness of trees: the program's and the reference's.
-/
import Derived.Test.YthajiefjebcobaaDoorWalkSize
set_option linter.all false
set_option maxRecDepth 100000
set_option linter.unusedSimpArgs false
set_option linter.unusedVariables false
namespace Go.Ev
open Go
variable {G : List (List V)}

def all2 {α : Type} (R : α → α → Bool) : List α → List α → Bool
  | x :: l, y :: m => R x y && all2 R l m
  | _, _ => true

theorem f26_loop (k : Nat) (caps : List V) (hk : V.pureL caps = true) (R : E → E → Bool) (b b' a a' : List E) (σ : Store) (hb : b.length = b'.length) (ha : a.length = a'.length) (hl : ((a ++ b).length : Int) ≤ 1099511627776)
    (hc : ∀ x ∈ b, ∀ y ∈ b', lim F G (.call k ([x.enc, y.enc] ++ caps) [] false) = retv (.bool (R x y))) :
    ∃ σ', lim F G (.loop [1, 2, 15, 16, 17] f26_l0 ⟨[.any, .sl .any (encEs (a' ++ b')), .fn k caps, .any, .any, .any, .any, .any, .any, .any, .any, .any, .any, .any, .any, .sl .any (encEs (a ++ b)), .int .i64 (a ++ b).length, .int .i64 a.length, .any, .any, .any, .any, .any, .any, .any, .any, .any, .any, .any, .any, .any, .any], σ, []⟩) =
      if all2 R b b' then some (.code (.exit 0) ⟨[.any, .any, .any, .any, .any, .any, .any, .any, .any, .any, .any, .any, .any, .any, .any, .any, .any, .any, .any, .any, .any, .any, .any, .any, .any, .any, .any, .any, .any, .any, .any, .any], σ, []⟩) else some (.code .ret ⟨[.any, .any, .any, .any, .any, .any, .bool false, .any, .any, .any, .any, .any, .any, .any, .any, .any, .any, .any, .any, .any, .any, .any, .any, .any, .any, .any, .any, .any, .any, .any, .any, .any], σ', []⟩) := by
  induction b generalizing a a' b' with
  | nil =>
    cases b' with
    | cons => simp at hb
    | nil =>
    refine ⟨[], ?_⟩
    rw [lim_round f26_l0.eq_1]
    simp only [wc, wb, wz, wo, wv, wm, wx, wl, wk, wu, wd, wr, wf, wt, d_alloc, d_box, dbx_ok, d_store, dst_ptr, dstb_box, w_cond, w_gd, w_build, d_build, w_parts, fill_cons, bx_ok, st_ptr, stb_box, w_dreg, dv, dz, d_op, d_gd, dn_ok, Nat.reduceAdd, Nat.reduceSub, Nat.reduceMul, Nat.reduceLeDiff, Nat.reduceLT, Nat.reduceBEq, Nat.reduceEqDiff, Nat.zero_add, Nat.add_zero, Nat.le_refl, Nat.max_self, reduceIte, reduceCtorEq, decide_true, decide_false, Bool.and_true, Bool.true_and, Bool.and_false, Bool.false_and, Bool.or_false, Bool.false_or, Bool.or_true, Bool.true_or, Bool.not_true, Bool.not_false, BEq.rfl, Int.toNat_natCast, and_self, and_true, true_and, List.contains_cons, List.contains_nil, List.isEmpty_cons, List.isEmpty_nil, Option.getD_none, Option.getD_some, Option.map_none, Option.map_some, Option.isSome_none, Option.isSome_some, List.append_nil, encEs_len, Int.lt_irrefl, all2]
  | cons x b ih =>
    cases b' with
    | nil => simp at hb
    | cons y b' =>
    have h1 : ((a.length : Nat) : Int) < ((a ++ x :: b).length : Nat) := by simp; omega
    have h2 := hc x (by simp) y (by simp)
    have h0 : (0:Int) ≤ a.length := by omega
    have e1 : (encEs (a' ++ y :: b'))[a.length]? = some y.enc := by rw [ha]; exact encEs_at a' y b'
    have hd : all2 R (x :: b) (y :: b') = (R x y && all2 R b b') := rfl
    rw [hd]
    cases hR : R x y with
    | false =>
      rw [hR] at h2
      refine ⟨σ ++ [.box x.enc.cells, .box y.enc.cells], ?_⟩
      rw [lim_round f26_l0.eq_1]
      obtain ⟨k1, num1, tx1, nm1, ty1, l1, own1, nth1⟩ := x
      obtain ⟨k2, num2, tx2, nm2, ty2, l2, own2, nth2⟩ := y
      simp only [E.enc, List.cons_append, List.nil_append] at h2 e1
      simp only [wc, wb, wz, wo, wv, wm, wx, wl, wk, wu, wd, wr, wf, wt, d_alloc, d_box, dbx_ok, d_store, dst_ptr, dstb_box, w_cond, w_gd, w_build, d_build, w_parts, fill_cons, bx_ok, st_ptr, stb_box, w_dreg, dv, dz, d_op, d_gd, dn_ok, Nat.reduceAdd, Nat.reduceSub, Nat.reduceMul, Nat.reduceLeDiff, Nat.reduceLT, Nat.reduceBEq, Nat.reduceEqDiff, Nat.zero_add, Nat.add_zero, Nat.le_refl, Nat.max_self, reduceIte, reduceCtorEq, decide_true, decide_false, Bool.and_true, Bool.true_and, Bool.and_false, Bool.false_and, Bool.or_false, Bool.false_or, Bool.or_true, Bool.true_or, Bool.not_true, Bool.not_false, BEq.rfl, Int.toNat_natCast, and_self, and_true, true_and, List.contains_cons, List.contains_nil, List.isEmpty_cons, List.isEmpty_nil, Option.getD_none, Option.getD_some, Option.map_none, Option.map_some, Option.isSome_none, Option.isSome_some, encEs_top, encEs_pure, encEs_under, cx_pure, pureL_append, hk, encEs_len, h1, h0, encEs_at, e1, E.enc, h2, retv, ca_ret]
    | true =>
      rw [hR] at h2
      obtain ⟨σ', ih'⟩ := ih b' (a ++ [x]) (a' ++ [y]) (by simpa using hb) (by simp [ha]) (by simpa using hl) (fun e he z hz => hc e (by simp [he]) z (by simp [hz]))
      refine ⟨σ', ?_⟩
      rw [lim_round f26_l0.eq_1]
      have w2 : IntKind.i64.wrap ((a.length : Nat) + 1) = ((a ++ [x]).length : Nat) := by rw [wrap_ok (by omega)]; simp
      simp only [List.append_assoc, List.singleton_append] at ih'
      obtain ⟨k1, num1, tx1, nm1, ty1, l1, own1, nth1⟩ := x
      obtain ⟨k2, num2, tx2, nm2, ty2, l2, own2, nth2⟩ := y
      simp only [E.enc, List.cons_append, List.nil_append] at h2 e1
      simp only [wc, wb, wz, wo, wv, wm, wx, wl, wk, wu, wd, wr, wf, wt, d_alloc, d_box, dbx_ok, d_store, dst_ptr, dstb_box, w_cond, w_gd, w_build, d_build, w_parts, fill_cons, bx_ok, st_ptr, stb_box, w_dreg, dv, dz, d_op, d_gd, dn_ok, Nat.reduceAdd, Nat.reduceSub, Nat.reduceMul, Nat.reduceLeDiff, Nat.reduceLT, Nat.reduceBEq, Nat.reduceEqDiff, Nat.zero_add, Nat.add_zero, Nat.le_refl, Nat.max_self, reduceIte, reduceCtorEq, decide_true, decide_false, Bool.and_true, Bool.true_and, Bool.and_false, Bool.false_and, Bool.or_false, Bool.false_or, Bool.or_true, Bool.true_or, Bool.not_true, Bool.not_false, BEq.rfl, Int.toNat_natCast, and_self, and_true, true_and, List.contains_cons, List.contains_nil, List.isEmpty_cons, List.isEmpty_nil, Option.getD_none, Option.getD_some, Option.map_none, Option.map_some, Option.isSome_none, Option.isSome_some, encEs_top, encEs_pure, encEs_under, cx_pure, pureL_append, underL_pure _ _ hk, hk, encEs_len, h1, h0, encEs_at, e1, E.enc, h2, retv, ca_ret, w2, tidy_ok, tidy_same, ih']

theorem run26 (k : Nat) (caps : List V) (hk : V.pureL caps = true) (R : E → E → Bool) (l l' : List E) (hl : l.length ≤ 1099511627776) (hl' : l'.length ≤ 1099511627776)
    (hc : ∀ x ∈ l, ∀ y ∈ l', lim F G (.call k ([x.enc, y.enc] ++ caps) [] false) = retv (.bool (R x y))) :
    lim F G (.call 26 [.sl .any (encEs l), .sl .any (encEs l'), .fn k caps] [] false) = retv (.bool (l.length == l'.length && all2 R l l')) := by
  rw [lim_fun F26 rfl]
  by_cases he : l.length = l'.length
  · obtain ⟨σ', lp⟩ := f26_loop (G := G) k caps hk R l l' [] [] [] he rfl (by simp only [List.nil_append]; omega) hc
    simp only [List.nil_append, List.length_nil, Int.natCast_zero] at lp
    have h1 : ((l.length : Int) != (l'.length : Int)) = false := by simp [he]
    have h2 : (l.length == l'.length) = true := by simp [he]
    cases hr : all2 R l l' with
    | true =>
      rw [hr] at lp
      simp only [f26, f26_b, wc, wb, wz, wo, wv, wm, wx, wl, wk, wu, wd, wr, wf, wt, d_alloc, d_box, dbx_ok, d_store, dst_ptr, dstb_box, w_cond, w_gd, w_build, d_build, w_parts, fill_cons, bx_ok, st_ptr, stb_box, w_dreg, dv, dz, d_op, d_gd, dn_ok, Nat.reduceAdd, Nat.reduceSub, Nat.reduceMul, Nat.reduceLeDiff, Nat.reduceLT, Nat.reduceBEq, Nat.reduceEqDiff, Nat.zero_add, Nat.add_zero, Nat.le_refl, Nat.max_self, reduceIte, reduceCtorEq, decide_true, decide_false, Bool.and_true, Bool.true_and, Bool.and_false, Bool.false_and, Bool.or_false, Bool.false_or, Bool.or_true, Bool.true_or, Bool.not_true, Bool.not_false, BEq.rfl, Int.toNat_natCast, and_self, and_true, true_and, List.contains_cons, List.contains_nil, List.isEmpty_cons, List.isEmpty_nil, Option.getD_none, Option.getD_some, Option.map_none, Option.map_some, Option.isSome_none, Option.isSome_some, encEs_len, h1, h2, lp, leave_pure]
    | false =>
      rw [hr] at lp
      simp only [f26, f26_b, wc, wb, wz, wo, wv, wm, wx, wl, wk, wu, wd, wr, wf, wt, d_alloc, d_box, dbx_ok, d_store, dst_ptr, dstb_box, w_cond, w_gd, w_build, d_build, w_parts, fill_cons, bx_ok, st_ptr, stb_box, w_dreg, dv, dz, d_op, d_gd, dn_ok, Nat.reduceAdd, Nat.reduceSub, Nat.reduceMul, Nat.reduceLeDiff, Nat.reduceLT, Nat.reduceBEq, Nat.reduceEqDiff, Nat.zero_add, Nat.add_zero, Nat.le_refl, Nat.max_self, reduceIte, reduceCtorEq, decide_true, decide_false, Bool.and_true, Bool.true_and, Bool.and_false, Bool.false_and, Bool.or_false, Bool.false_or, Bool.or_true, Bool.true_or, Bool.not_true, Bool.not_false, BEq.rfl, Int.toNat_natCast, and_self, and_true, true_and, List.contains_cons, List.contains_nil, List.isEmpty_cons, List.isEmpty_nil, Option.getD_none, Option.getD_some, Option.map_none, Option.map_some, Option.isSome_none, Option.isSome_some, encEs_len, h1, h2, lp, leave_pure]
  · have h1 : ((l.length : Int) != (l'.length : Int)) = true := by simp; omega
    have h2 : (l.length == l'.length) = false := by simp [he]
    simp only [f26, f26_b, wc, wb, wz, wo, wv, wm, wx, wl, wk, wu, wd, wr, wf, wt, d_alloc, d_box, dbx_ok, d_store, dst_ptr, dstb_box, w_cond, w_gd, w_build, d_build, w_parts, fill_cons, bx_ok, st_ptr, stb_box, w_dreg, dv, dz, d_op, d_gd, dn_ok, Nat.reduceAdd, Nat.reduceSub, Nat.reduceMul, Nat.reduceLeDiff, Nat.reduceLT, Nat.reduceBEq, Nat.reduceEqDiff, Nat.zero_add, Nat.add_zero, Nat.le_refl, Nat.max_self, reduceIte, reduceCtorEq, decide_true, decide_false, Bool.and_true, Bool.true_and, Bool.and_false, Bool.false_and, Bool.or_false, Bool.false_or, Bool.or_true, Bool.true_or, Bool.not_true, Bool.not_false, BEq.rfl, Int.toNat_natCast, and_self, and_true, true_and, List.contains_cons, List.contains_nil, List.isEmpty_cons, List.isEmpty_nil, Option.getD_none, Option.getD_some, Option.map_none, Option.map_some, Option.isSome_none, Option.isSome_some, encEs_len, h1, h2, leave_pure]

theorem f28_loop (k : Nat) (caps : List V) (hk : V.pureL caps = true) (R : S → S → Bool) (b b' a a' : List S) (σ : Store) (hb : b.length = b'.length) (ha : a.length = a'.length) (hl : ((a ++ b).length : Int) ≤ 1099511627776)
    (hc : ∀ x ∈ b, ∀ y ∈ b', lim F G (.call k ([x.enc, y.enc] ++ caps) [] false) = retv (.bool (R x y))) :
    ∃ σ', lim F G (.loop [1, 2, 15, 16, 17] f28_l0 ⟨[.any, .sl .any (encSs (a' ++ b')), .fn k caps, .any, .any, .any, .any, .any, .any, .any, .any, .any, .any, .any, .any, .sl .any (encSs (a ++ b)), .int .i64 (a ++ b).length, .int .i64 a.length, .any, .any, .any, .any, .any, .any, .any, .any, .any, .any, .any, .any, .any, .any], σ, []⟩) =
      if all2 R b b' then some (.code (.exit 0) ⟨[.any, .any, .any, .any, .any, .any, .any, .any, .any, .any, .any, .any, .any, .any, .any, .any, .any, .any, .any, .any, .any, .any, .any, .any, .any, .any, .any, .any, .any, .any, .any, .any], σ, []⟩) else some (.code .ret ⟨[.any, .any, .any, .any, .any, .any, .bool false, .any, .any, .any, .any, .any, .any, .any, .any, .any, .any, .any, .any, .any, .any, .any, .any, .any, .any, .any, .any, .any, .any, .any, .any, .any], σ', []⟩) := by
  induction b generalizing a a' b' with
  | nil =>
    cases b' with
    | cons => simp at hb
    | nil =>
    refine ⟨[], ?_⟩
    rw [lim_round f28_l0.eq_1]
    simp only [wc, wb, wz, wo, wv, wm, wx, wl, wk, wu, wd, wr, wf, wt, d_alloc, d_box, dbx_ok, d_store, dst_ptr, dstb_box, w_cond, w_gd, w_build, d_build, w_parts, fill_cons, bx_ok, st_ptr, stb_box, w_dreg, dv, dz, d_op, d_gd, dn_ok, Nat.reduceAdd, Nat.reduceSub, Nat.reduceMul, Nat.reduceLeDiff, Nat.reduceLT, Nat.reduceBEq, Nat.reduceEqDiff, Nat.zero_add, Nat.add_zero, Nat.le_refl, Nat.max_self, reduceIte, reduceCtorEq, decide_true, decide_false, Bool.and_true, Bool.true_and, Bool.and_false, Bool.false_and, Bool.or_false, Bool.false_or, Bool.or_true, Bool.true_or, Bool.not_true, Bool.not_false, BEq.rfl, Int.toNat_natCast, and_self, and_true, true_and, List.contains_cons, List.contains_nil, List.isEmpty_cons, List.isEmpty_nil, Option.getD_none, Option.getD_some, Option.map_none, Option.map_some, Option.isSome_none, Option.isSome_some, List.append_nil, encSs_len, Int.lt_irrefl, all2]
  | cons x b ih =>
    cases b' with
    | nil => simp at hb
    | cons y b' =>
    have h1 : ((a.length : Nat) : Int) < ((a ++ x :: b).length : Nat) := by simp; omega
    have h2 := hc x (by simp) y (by simp)
    have h0 : (0:Int) ≤ a.length := by omega
    have e1 : (encSs (a' ++ y :: b'))[a.length]? = some y.enc := by rw [ha]; exact encSs_at a' y b'
    have hd : all2 R (x :: b) (y :: b') = (R x y && all2 R b b') := rfl
    rw [hd]
    cases hR : R x y with
    | false =>
      rw [hR] at h2
      refine ⟨σ ++ [.box x.enc.cells, .box y.enc.cells], ?_⟩
      rw [lim_round f28_l0.eq_1]
      obtain ⟨k1, num1, ty1, nm1, es1, x1, y1, z1, nth1⟩ := x
      obtain ⟨k2, num2, ty2, nm2, es2, x2, y2, z2, nth2⟩ := y
      simp only [S.enc, List.cons_append, List.nil_append] at h2 e1
      simp only [wc, wb, wz, wo, wv, wm, wx, wl, wk, wu, wd, wr, wf, wt, d_alloc, d_box, dbx_ok, d_store, dst_ptr, dstb_box, w_cond, w_gd, w_build, d_build, w_parts, fill_cons, bx_ok, st_ptr, stb_box, w_dreg, dv, dz, d_op, d_gd, dn_ok, Nat.reduceAdd, Nat.reduceSub, Nat.reduceMul, Nat.reduceLeDiff, Nat.reduceLT, Nat.reduceBEq, Nat.reduceEqDiff, Nat.zero_add, Nat.add_zero, Nat.le_refl, Nat.max_self, reduceIte, reduceCtorEq, decide_true, decide_false, Bool.and_true, Bool.true_and, Bool.and_false, Bool.false_and, Bool.or_false, Bool.false_or, Bool.or_true, Bool.true_or, Bool.not_true, Bool.not_false, BEq.rfl, Int.toNat_natCast, and_self, and_true, true_and, List.contains_cons, List.contains_nil, List.isEmpty_cons, List.isEmpty_nil, Option.getD_none, Option.getD_some, Option.map_none, Option.map_some, Option.isSome_none, Option.isSome_some, encEs_top, encEs_pure, encEs_under, encSs_top, encSs_pure, encSs_under, cx_pure, pureL_append, hk, encSs_len, h1, h0, encSs_at, e1, S.enc, h2, retv, ca_ret]
    | true =>
      rw [hR] at h2
      obtain ⟨σ', ih'⟩ := ih b' (a ++ [x]) (a' ++ [y]) (by simpa using hb) (by simp [ha]) (by simpa using hl) (fun e he z hz => hc e (by simp [he]) z (by simp [hz]))
      refine ⟨σ', ?_⟩
      rw [lim_round f28_l0.eq_1]
      have w2 : IntKind.i64.wrap ((a.length : Nat) + 1) = ((a ++ [x]).length : Nat) := by rw [wrap_ok (by omega)]; simp
      simp only [List.append_assoc, List.singleton_append] at ih'
      obtain ⟨k1, num1, ty1, nm1, es1, x1, y1, z1, nth1⟩ := x
      obtain ⟨k2, num2, ty2, nm2, es2, x2, y2, z2, nth2⟩ := y
      simp only [S.enc, List.cons_append, List.nil_append] at h2 e1
      simp only [wc, wb, wz, wo, wv, wm, wx, wl, wk, wu, wd, wr, wf, wt, d_alloc, d_box, dbx_ok, d_store, dst_ptr, dstb_box, w_cond, w_gd, w_build, d_build, w_parts, fill_cons, bx_ok, st_ptr, stb_box, w_dreg, dv, dz, d_op, d_gd, dn_ok, Nat.reduceAdd, Nat.reduceSub, Nat.reduceMul, Nat.reduceLeDiff, Nat.reduceLT, Nat.reduceBEq, Nat.reduceEqDiff, Nat.zero_add, Nat.add_zero, Nat.le_refl, Nat.max_self, reduceIte, reduceCtorEq, decide_true, decide_false, Bool.and_true, Bool.true_and, Bool.and_false, Bool.false_and, Bool.or_false, Bool.false_or, Bool.or_true, Bool.true_or, Bool.not_true, Bool.not_false, BEq.rfl, Int.toNat_natCast, and_self, and_true, true_and, List.contains_cons, List.contains_nil, List.isEmpty_cons, List.isEmpty_nil, Option.getD_none, Option.getD_some, Option.map_none, Option.map_some, Option.isSome_none, Option.isSome_some, encEs_top, encEs_pure, encEs_under, encSs_top, encSs_pure, encSs_under, cx_pure, pureL_append, underL_pure _ _ hk, hk, encSs_len, h1, h0, encSs_at, e1, S.enc, h2, retv, ca_ret, w2, tidy_ok, tidy_same, ih']

theorem run28 (k : Nat) (caps : List V) (hk : V.pureL caps = true) (R : S → S → Bool) (l l' : List S) (hl : l.length ≤ 1099511627776) (hl' : l'.length ≤ 1099511627776)
    (hc : ∀ x ∈ l, ∀ y ∈ l', lim F G (.call k ([x.enc, y.enc] ++ caps) [] false) = retv (.bool (R x y))) :
    lim F G (.call 28 [.sl .any (encSs l), .sl .any (encSs l'), .fn k caps] [] false) = retv (.bool (l.length == l'.length && all2 R l l')) := by
  rw [lim_fun F28 rfl]
  by_cases he : l.length = l'.length
  · obtain ⟨σ', lp⟩ := f28_loop (G := G) k caps hk R l l' [] [] [] he rfl (by simp only [List.nil_append]; omega) hc
    simp only [List.nil_append, List.length_nil, Int.natCast_zero] at lp
    have h1 : ((l.length : Int) != (l'.length : Int)) = false := by simp [he]
    have h2 : (l.length == l'.length) = true := by simp [he]
    cases hr : all2 R l l' with
    | true =>
      rw [hr] at lp
      simp only [f28, f28_b, wc, wb, wz, wo, wv, wm, wx, wl, wk, wu, wd, wr, wf, wt, d_alloc, d_box, dbx_ok, d_store, dst_ptr, dstb_box, w_cond, w_gd, w_build, d_build, w_parts, fill_cons, bx_ok, st_ptr, stb_box, w_dreg, dv, dz, d_op, d_gd, dn_ok, Nat.reduceAdd, Nat.reduceSub, Nat.reduceMul, Nat.reduceLeDiff, Nat.reduceLT, Nat.reduceBEq, Nat.reduceEqDiff, Nat.zero_add, Nat.add_zero, Nat.le_refl, Nat.max_self, reduceIte, reduceCtorEq, decide_true, decide_false, Bool.and_true, Bool.true_and, Bool.and_false, Bool.false_and, Bool.or_false, Bool.false_or, Bool.or_true, Bool.true_or, Bool.not_true, Bool.not_false, BEq.rfl, Int.toNat_natCast, and_self, and_true, true_and, List.contains_cons, List.contains_nil, List.isEmpty_cons, List.isEmpty_nil, Option.getD_none, Option.getD_some, Option.map_none, Option.map_some, Option.isSome_none, Option.isSome_some, encSs_len, h1, h2, lp, leave_pure]
    | false =>
      rw [hr] at lp
      simp only [f28, f28_b, wc, wb, wz, wo, wv, wm, wx, wl, wk, wu, wd, wr, wf, wt, d_alloc, d_box, dbx_ok, d_store, dst_ptr, dstb_box, w_cond, w_gd, w_build, d_build, w_parts, fill_cons, bx_ok, st_ptr, stb_box, w_dreg, dv, dz, d_op, d_gd, dn_ok, Nat.reduceAdd, Nat.reduceSub, Nat.reduceMul, Nat.reduceLeDiff, Nat.reduceLT, Nat.reduceBEq, Nat.reduceEqDiff, Nat.zero_add, Nat.add_zero, Nat.le_refl, Nat.max_self, reduceIte, reduceCtorEq, decide_true, decide_false, Bool.and_true, Bool.true_and, Bool.and_false, Bool.false_and, Bool.or_false, Bool.false_or, Bool.or_true, Bool.true_or, Bool.not_true, Bool.not_false, BEq.rfl, Int.toNat_natCast, and_self, and_true, true_and, List.contains_cons, List.contains_nil, List.isEmpty_cons, List.isEmpty_nil, Option.getD_none, Option.getD_some, Option.map_none, Option.map_some, Option.isSome_none, Option.isSome_some, encSs_len, h1, h2, lp, leave_pure]
  · have h1 : ((l.length : Int) != (l'.length : Int)) = true := by simp; omega
    have h2 : (l.length == l'.length) = false := by simp [he]
    simp only [f28, f28_b, wc, wb, wz, wo, wv, wm, wx, wl, wk, wu, wd, wr, wf, wt, d_alloc, d_box, dbx_ok, d_store, dst_ptr, dstb_box, w_cond, w_gd, w_build, d_build, w_parts, fill_cons, bx_ok, st_ptr, stb_box, w_dreg, dv, dz, d_op, d_gd, dn_ok, Nat.reduceAdd, Nat.reduceSub, Nat.reduceMul, Nat.reduceLeDiff, Nat.reduceLT, Nat.reduceBEq, Nat.reduceEqDiff, Nat.zero_add, Nat.add_zero, Nat.le_refl, Nat.max_self, reduceIte, reduceCtorEq, decide_true, decide_false, Bool.and_true, Bool.true_and, Bool.and_false, Bool.false_and, Bool.or_false, Bool.false_or, Bool.or_true, Bool.true_or, Bool.not_true, Bool.not_false, BEq.rfl, Int.toNat_natCast, and_self, and_true, true_and, List.contains_cons, List.contains_nil, List.isEmpty_cons, List.isEmpty_nil, Option.getD_none, Option.getD_some, Option.map_none, Option.map_some, Option.isSome_none, Option.isSome_some, encSs_len, h1, h2, leave_pure]

mutual
def sameE : E → E → Bool
  | .mk k n tx nm ty l _ _, .mk k' n' tx' nm' ty' l' _ _ => (k == k' && (n == n' && (tx == tx' && (nm == nm' && ty == ty')))) && sameEs l l'
def sameEs : List E → List E → Bool
  | [], [] => true
  | x :: l, y :: m => sameE x y && sameEs l m
  | _, _ => false
end
mutual
def sameS : S → S → Bool
  | .mk k n ty nm es a b c _, .mk k' n' ty' nm' es' a' b' c' _ => k == k' && (n == n' && (ty == ty' && (nm == nm' && (sameEs es es' && (sameSs a a' && (sameSs b b' && sameSs c c'))))))
def sameSs : List S → List S → Bool
  | [], [] => true
  | x :: l, y :: m => sameS x y && sameSs l m
  | _, _ => false
end
theorem sameEs_all2 : ∀ (l m : List E), sameEs l m = (l.length == m.length && all2 sameE l m)
  | [], [] => rfl
  | [], _ :: _ => rfl
  | _ :: _, [] => rfl
  | x :: l, y :: m => by
    have e : ((x :: l).length == (y :: m).length) = (l.length == m.length) := by simp
    rw [sameEs, sameEs_all2 l m, e, all2]
    cases sameE x y <;> cases (l.length == m.length) <;> simp
theorem sameSs_all2 : ∀ (l m : List S), sameSs l m = (l.length == m.length && all2 sameS l m)
  | [], [] => rfl
  | [], _ :: _ => rfl
  | _ :: _, [] => rfl
  | x :: l, y :: m => by
    have e : ((x :: l).length == (y :: m).length) = (l.length == m.length) := by simp
    rw [sameSs, sameSs_all2 l m, e, all2]
    cases sameS x y <;> cases (l.length == m.length) <;> simp

theorem run25 (k num : Int) (tx nm ty : List Nat) (l : List E) (own : List Nat) (nth : Int) :
    lim F G (.call 25 [.agg [.int .i64 k, .int .i32 num, .str tx, .str nm, .str ty, .sl .any (encEs l), .str own, .int .i64 nth]] [] false) = retv (.agg [.int .i64 k, .int .i32 num, .str tx, .str nm, .str ty]) := by
  rw [lim_fun F25 rfl]
  simp only [f25, f25_b, wc, wb, wz, wo, wv, wm, wx, wl, wk, wu, wd, wr, wf, wt, d_alloc, d_box, dbx_ok, d_store, dst_ptr, dstb_box, w_cond, w_gd, w_build, d_build, w_parts, fill_cons, bx_ok, st_ptr, stb_box, w_dreg, dv, dz, d_op, d_gd, dn_ok, Nat.reduceAdd, Nat.reduceSub, Nat.reduceMul, Nat.reduceLeDiff, Nat.reduceLT, Nat.reduceBEq, Nat.reduceEqDiff, Nat.zero_add, Nat.add_zero, Nat.le_refl, Nat.max_self, reduceIte, reduceCtorEq, decide_true, decide_false, Bool.and_true, Bool.true_and, Bool.and_false, Bool.false_and, Bool.or_false, Bool.false_or, Bool.or_true, Bool.true_or, Bool.not_true, Bool.not_false, BEq.rfl, Int.toNat_natCast, and_self, and_true, true_and, List.contains_cons, List.contains_nil, List.isEmpty_cons, List.isEmpty_nil, Option.getD_none, Option.getD_some, Option.map_none, Option.map_some, Option.isSome_none, Option.isSome_some, encEs_top, leave_pure]

theorem run9 (e : E) : ∀ e' : E, e.size ≤ 1099511627776 → e'.size ≤ 1099511627776 → lim F G (.call 9 [e.enc, e'.enc] [] false) = retv (.bool (sameE e e')) := by
  induction e using E.all with
  | h k num tx nm ty l own nth ih =>
    rintro ⟨k', num', tx', nm', ty', l', own', nth'⟩ h h'
    have hs : (E.mk k num tx nm ty l own nth).size = 1 + sizeEs l := rfl
    have hs' : (E.mk k' num' tx' nm' ty' l' own' nth').size = 1 + sizeEs l' := rfl
    have hl := len_size l
    have hl' := len_size l'
    have hr := run26 (G := G) 9 [] rfl sameE l l' (by omega) (by omega) fun x hx y hy => ih x hx y (by have := size_mem hx; omega) (by have := size_mem hy; omega)
    rw [← sameEs_all2] at hr
    rw [lim_fun F9 rfl]
    simp only [f9, f9_b, wc, wb, wz, wo, wv, wm, wx, wl, wk, wu, wd, wr, wf, wt, d_alloc, d_box, dbx_ok, d_store, dst_ptr, dstb_box, w_cond, w_gd, w_build, d_build, w_parts, fill_cons, bx_ok, st_ptr, stb_box, w_dreg, dv, dz, d_op, d_gd, dn_ok, Nat.reduceAdd, Nat.reduceSub, Nat.reduceMul, Nat.reduceLeDiff, Nat.reduceLT, Nat.reduceBEq, Nat.reduceEqDiff, Nat.zero_add, Nat.add_zero, Nat.le_refl, Nat.max_self, reduceIte, reduceCtorEq, decide_true, decide_false, Bool.and_true, Bool.true_and, Bool.and_false, Bool.false_and, Bool.or_false, Bool.false_or, Bool.or_true, Bool.true_or, Bool.not_true, Bool.not_false, BEq.rfl, Int.toNat_natCast, and_self, and_true, true_and, List.contains_cons, List.contains_nil, List.isEmpty_cons, List.isEmpty_nil, Option.getD_none, Option.getD_some, Option.map_none, Option.map_some, Option.isSome_none, Option.isSome_some, E.enc, encEs_top, encEs_pure, dcx_pure, run25, retv, dca_ret, sameE]
    refine dgv_go (fun h => ?_) (fun h => ?_)
    · simp only [wc, wb, wz, wo, wv, wm, wx, wl, wk, wu, wd, wr, wf, wt, d_alloc, d_box, dbx_ok, d_store, dst_ptr, dstb_box, w_cond, w_gd, w_build, d_build, w_parts, fill_cons, bx_ok, st_ptr, stb_box, w_dreg, dv, dz, d_op, d_gd, dn_ok, Nat.reduceAdd, Nat.reduceSub, Nat.reduceMul, Nat.reduceLeDiff, Nat.reduceLT, Nat.reduceBEq, Nat.reduceEqDiff, Nat.zero_add, Nat.add_zero, Nat.le_refl, Nat.max_self, reduceIte, reduceCtorEq, decide_true, decide_false, Bool.and_true, Bool.true_and, Bool.and_false, Bool.false_and, Bool.or_false, Bool.false_or, Bool.or_true, Bool.true_or, Bool.not_true, Bool.not_false, BEq.rfl, Int.toNat_natCast, and_self, and_true, true_and, List.contains_cons, List.contains_nil, List.isEmpty_cons, List.isEmpty_nil, Option.getD_none, Option.getD_some, Option.map_none, Option.map_some, Option.isSome_none, Option.isSome_some, h, encEs_pure, dcx_pure, hr, retv, dca_ret, leave_pure]
    · simp only [wc, wb, wz, wo, wv, wm, wx, wl, wk, wu, wd, wr, wf, wt, d_alloc, d_box, dbx_ok, d_store, dst_ptr, dstb_box, w_cond, w_gd, w_build, d_build, w_parts, fill_cons, bx_ok, st_ptr, stb_box, w_dreg, dv, dz, d_op, d_gd, dn_ok, Nat.reduceAdd, Nat.reduceSub, Nat.reduceMul, Nat.reduceLeDiff, Nat.reduceLT, Nat.reduceBEq, Nat.reduceEqDiff, Nat.zero_add, Nat.add_zero, Nat.le_refl, Nat.max_self, reduceIte, reduceCtorEq, decide_true, decide_false, Bool.and_true, Bool.true_and, Bool.and_false, Bool.false_and, Bool.or_false, Bool.false_or, Bool.or_true, Bool.true_or, Bool.not_true, Bool.not_false, BEq.rfl, Int.toNat_natCast, and_self, and_true, true_and, List.contains_cons, List.contains_nil, List.isEmpty_cons, List.isEmpty_nil, Option.getD_none, Option.getD_some, Option.map_none, Option.map_some, Option.isSome_none, Option.isSome_some, h, encEs_pure, retv, leave_pure]

theorem f27_loop (b b' a a' : List E) (σ : Store) (hb : b.length = b'.length) (ha : a.length = a'.length) (hl : ((a ++ b).length : Int) ≤ 1099511627776)
    (hc : ∀ x ∈ b, ∀ y ∈ b', lim F G (.call 10 [x.enc, y.enc] [] false) = retv (.bool (sameE x y))) :
    ∃ σ', lim F G (.loop [0, 1, 5] f27_l0 ⟨[.sl .any (encEs (a ++ b)), .sl .any (encEs (a' ++ b')), .any, .any, .any, .int .i64 a.length, .any, .any, .any, .any, .any, .any, .any, .any, .any, .any, .any, .any, .any, .any, .any, .any, .any, .any, .any, .any, .any], σ, []⟩) =
      if all2 sameE b b' then some (.code (.exit 0) ⟨[.any, .any, .any, .any, .any, .any, .any, .any, .any, .any, .any, .any, .any, .any, .any, .any, .any, .any, .any, .any, .any, .any, .any, .any, .any, .any, .any], σ, []⟩) else some (.code .ret ⟨[.any, .any, .any, .any, .bool false, .any, .any, .any, .any, .any, .any, .any, .any, .any, .any, .any, .any, .any, .any, .any, .any, .any, .any, .any, .any, .any, .any], σ', []⟩) := by
  induction b generalizing a a' b' with
  | nil =>
    cases b' with
    | cons => simp at hb
    | nil =>
    refine ⟨[], ?_⟩
    rw [lim_round f27_l0.eq_1]
    simp only [wc, wb, wz, wo, wv, wm, wx, wl, wk, wu, wd, wr, wf, wt, d_alloc, d_box, dbx_ok, d_store, dst_ptr, dstb_box, w_cond, w_gd, w_build, d_build, w_parts, fill_cons, bx_ok, st_ptr, stb_box, w_dreg, dv, dz, d_op, d_gd, dn_ok, Nat.reduceAdd, Nat.reduceSub, Nat.reduceMul, Nat.reduceLeDiff, Nat.reduceLT, Nat.reduceBEq, Nat.reduceEqDiff, Nat.zero_add, Nat.add_zero, Nat.le_refl, Nat.max_self, reduceIte, reduceCtorEq, decide_true, decide_false, Bool.and_true, Bool.true_and, Bool.and_false, Bool.false_and, Bool.or_false, Bool.false_or, Bool.or_true, Bool.true_or, Bool.not_true, Bool.not_false, BEq.rfl, Int.toNat_natCast, and_self, and_true, true_and, List.contains_cons, List.contains_nil, List.isEmpty_cons, List.isEmpty_nil, Option.getD_none, Option.getD_some, Option.map_none, Option.map_some, Option.isSome_none, Option.isSome_some, List.append_nil, encEs_len, Int.lt_irrefl, all2]
  | cons x b ih =>
    cases b' with
    | nil => simp at hb
    | cons y b' =>
    have h1 : ((a.length : Nat) : Int) < ((a ++ x :: b).length : Nat) := by simp; omega
    have h2 := hc x (by simp) y (by simp)
    have h0 : (0:Int) ≤ a.length := by omega
    have e1 : (encEs (a' ++ y :: b'))[a.length]? = some y.enc := by rw [ha]; exact encEs_at a' y b'
    have hd : all2 sameE (x :: b) (y :: b') = (sameE x y && all2 sameE b b') := rfl
    rw [hd]
    cases hR : sameE x y with
    | false =>
      rw [hR] at h2
      refine ⟨σ, ?_⟩
      rw [lim_round f27_l0.eq_1]
      obtain ⟨k1, num1, tx1, nm1, ty1, l1, own1, nth1⟩ := x
      obtain ⟨k2, num2, tx2, nm2, ty2, l2, own2, nth2⟩ := y
      simp only [E.enc, List.cons_append, List.nil_append] at h2 e1
      simp only [wc, wb, wz, wo, wv, wm, wx, wl, wk, wu, wd, wr, wf, wt, d_alloc, d_box, dbx_ok, d_store, dst_ptr, dstb_box, w_cond, w_gd, w_build, d_build, w_parts, fill_cons, bx_ok, st_ptr, stb_box, w_dreg, dv, dz, d_op, d_gd, dn_ok, Nat.reduceAdd, Nat.reduceSub, Nat.reduceMul, Nat.reduceLeDiff, Nat.reduceLT, Nat.reduceBEq, Nat.reduceEqDiff, Nat.zero_add, Nat.add_zero, Nat.le_refl, Nat.max_self, reduceIte, reduceCtorEq, decide_true, decide_false, Bool.and_true, Bool.true_and, Bool.and_false, Bool.false_and, Bool.or_false, Bool.false_or, Bool.or_true, Bool.true_or, Bool.not_true, Bool.not_false, BEq.rfl, Int.toNat_natCast, and_self, and_true, true_and, List.contains_cons, List.contains_nil, List.isEmpty_cons, List.isEmpty_nil, Option.getD_none, Option.getD_some, Option.map_none, Option.map_some, Option.isSome_none, Option.isSome_some, encEs_top, encEs_pure, encEs_under, dcx_pure, encEs_len, h1, h0, encEs_at, e1, E.enc, h2, retv, dca_ret]
    | true =>
      rw [hR] at h2
      obtain ⟨σ', ih'⟩ := ih b' (a ++ [x]) (a' ++ [y]) (by simpa using hb) (by simp [ha]) (by simpa using hl) (fun e he z hz => hc e (by simp [he]) z (by simp [hz]))
      refine ⟨σ', ?_⟩
      rw [lim_round f27_l0.eq_1]
      have w2 : IntKind.i64.wrap ((a.length : Nat) + 1) = ((a ++ [x]).length : Nat) := by rw [wrap_ok (by omega)]; simp
      simp only [List.append_assoc, List.singleton_append] at ih'
      obtain ⟨k1, num1, tx1, nm1, ty1, l1, own1, nth1⟩ := x
      obtain ⟨k2, num2, tx2, nm2, ty2, l2, own2, nth2⟩ := y
      simp only [E.enc, List.cons_append, List.nil_append] at h2 e1
      simp only [wc, wb, wz, wo, wv, wm, wx, wl, wk, wu, wd, wr, wf, wt, d_alloc, d_box, dbx_ok, d_store, dst_ptr, dstb_box, w_cond, w_gd, w_build, d_build, w_parts, fill_cons, bx_ok, st_ptr, stb_box, w_dreg, dv, dz, d_op, d_gd, dn_ok, Nat.reduceAdd, Nat.reduceSub, Nat.reduceMul, Nat.reduceLeDiff, Nat.reduceLT, Nat.reduceBEq, Nat.reduceEqDiff, Nat.zero_add, Nat.add_zero, Nat.le_refl, Nat.max_self, reduceIte, reduceCtorEq, decide_true, decide_false, Bool.and_true, Bool.true_and, Bool.and_false, Bool.false_and, Bool.or_false, Bool.false_or, Bool.or_true, Bool.true_or, Bool.not_true, Bool.not_false, BEq.rfl, Int.toNat_natCast, and_self, and_true, true_and, List.contains_cons, List.contains_nil, List.isEmpty_cons, List.isEmpty_nil, Option.getD_none, Option.getD_some, Option.map_none, Option.map_some, Option.isSome_none, Option.isSome_some, encEs_top, encEs_pure, encEs_under, dcx_pure, encEs_len, h1, h0, encEs_at, e1, E.enc, h2, retv, dca_ret, w2, tidy_ok, tidy_same, ih']

theorem run27_of (l l' : List E) (hl : l.length ≤ 1099511627776) (hl' : l'.length ≤ 1099511627776)
    (hc : ∀ x ∈ l, ∀ y ∈ l', lim F G (.call 10 [x.enc, y.enc] [] false) = retv (.bool (sameE x y))) :
    lim F G (.call 27 [.sl .any (encEs l), .sl .any (encEs l')] [] false) = retv (.bool (sameEs l l')) := by
  rw [lim_fun F27 rfl, sameEs_all2]
  by_cases he : l.length = l'.length
  · obtain ⟨σ', lp⟩ := f27_loop (G := G) l l' [] [] [] he rfl (by simp only [List.nil_append]; omega) hc
    simp only [List.nil_append, List.length_nil, Int.natCast_zero] at lp
    have h1 : ((l.length : Int) != (l'.length : Int)) = false := by simp [he]
    have h2 : (l.length == l'.length) = true := by simp [he]
    cases hr : all2 sameE l l' with
    | true =>
      rw [hr] at lp
      simp only [f27, f27_b, wc, wb, wz, wo, wv, wm, wx, wl, wk, wu, wd, wr, wf, wt, d_alloc, d_box, dbx_ok, d_store, dst_ptr, dstb_box, w_cond, w_gd, w_build, d_build, w_parts, fill_cons, bx_ok, st_ptr, stb_box, w_dreg, dv, dz, d_op, d_gd, dn_ok, Nat.reduceAdd, Nat.reduceSub, Nat.reduceMul, Nat.reduceLeDiff, Nat.reduceLT, Nat.reduceBEq, Nat.reduceEqDiff, Nat.zero_add, Nat.add_zero, Nat.le_refl, Nat.max_self, reduceIte, reduceCtorEq, decide_true, decide_false, Bool.and_true, Bool.true_and, Bool.and_false, Bool.false_and, Bool.or_false, Bool.false_or, Bool.or_true, Bool.true_or, Bool.not_true, Bool.not_false, BEq.rfl, Int.toNat_natCast, and_self, and_true, true_and, List.contains_cons, List.contains_nil, List.isEmpty_cons, List.isEmpty_nil, Option.getD_none, Option.getD_some, Option.map_none, Option.map_some, Option.isSome_none, Option.isSome_some, encEs_len, h1, h2, lp, leave_pure]
    | false =>
      rw [hr] at lp
      simp only [f27, f27_b, wc, wb, wz, wo, wv, wm, wx, wl, wk, wu, wd, wr, wf, wt, d_alloc, d_box, dbx_ok, d_store, dst_ptr, dstb_box, w_cond, w_gd, w_build, d_build, w_parts, fill_cons, bx_ok, st_ptr, stb_box, w_dreg, dv, dz, d_op, d_gd, dn_ok, Nat.reduceAdd, Nat.reduceSub, Nat.reduceMul, Nat.reduceLeDiff, Nat.reduceLT, Nat.reduceBEq, Nat.reduceEqDiff, Nat.zero_add, Nat.add_zero, Nat.le_refl, Nat.max_self, reduceIte, reduceCtorEq, decide_true, decide_false, Bool.and_true, Bool.true_and, Bool.and_false, Bool.false_and, Bool.or_false, Bool.false_or, Bool.or_true, Bool.true_or, Bool.not_true, Bool.not_false, BEq.rfl, Int.toNat_natCast, and_self, and_true, true_and, List.contains_cons, List.contains_nil, List.isEmpty_cons, List.isEmpty_nil, Option.getD_none, Option.getD_some, Option.map_none, Option.map_some, Option.isSome_none, Option.isSome_some, encEs_len, h1, h2, lp, leave_pure]
  · have h1 : ((l.length : Int) != (l'.length : Int)) = true := by simp; omega
    have h2 : (l.length == l'.length) = false := by simp [he]
    simp only [f27, f27_b, wc, wb, wz, wo, wv, wm, wx, wl, wk, wu, wd, wr, wf, wt, d_alloc, d_box, dbx_ok, d_store, dst_ptr, dstb_box, w_cond, w_gd, w_build, d_build, w_parts, fill_cons, bx_ok, st_ptr, stb_box, w_dreg, dv, dz, d_op, d_gd, dn_ok, Nat.reduceAdd, Nat.reduceSub, Nat.reduceMul, Nat.reduceLeDiff, Nat.reduceLT, Nat.reduceBEq, Nat.reduceEqDiff, Nat.zero_add, Nat.add_zero, Nat.le_refl, Nat.max_self, reduceIte, reduceCtorEq, decide_true, decide_false, Bool.and_true, Bool.true_and, Bool.and_false, Bool.false_and, Bool.or_false, Bool.false_or, Bool.or_true, Bool.true_or, Bool.not_true, Bool.not_false, BEq.rfl, Int.toNat_natCast, and_self, and_true, true_and, List.contains_cons, List.contains_nil, List.isEmpty_cons, List.isEmpty_nil, Option.getD_none, Option.getD_some, Option.map_none, Option.map_some, Option.isSome_none, Option.isSome_some, encEs_len, h1, h2, leave_pure]

theorem run10 (e : E) : ∀ e' : E, e.size ≤ 1099511627776 → e'.size ≤ 1099511627776 → lim F G (.call 10 [e.enc, e'.enc] [] false) = retv (.bool (sameE e e')) := by
  induction e using E.all with
  | h k num tx nm ty l own nth ih =>
    rintro ⟨k', num', tx', nm', ty', l', own', nth'⟩ h h'
    have hs : (E.mk k num tx nm ty l own nth).size = 1 + sizeEs l := rfl
    have hs' : (E.mk k' num' tx' nm' ty' l' own' nth').size = 1 + sizeEs l' := rfl
    have hl := len_size l
    have hl' := len_size l'
    have hr := run27_of (G := G) l l' (by omega) (by omega) fun x hx y hy => ih x hx y (by have := size_mem hx; omega) (by have := size_mem hy; omega)
    rw [lim_fun F10 rfl]
    simp only [f10, f10_b, wc, wb, wz, wo, wv, wm, wx, wl, wk, wu, wd, wr, wf, wt, d_alloc, d_box, dbx_ok, d_store, dst_ptr, dstb_box, w_cond, w_gd, w_build, d_build, w_parts, fill_cons, bx_ok, st_ptr, stb_box, w_dreg, dv, dz, d_op, d_gd, dn_ok, Nat.reduceAdd, Nat.reduceSub, Nat.reduceMul, Nat.reduceLeDiff, Nat.reduceLT, Nat.reduceBEq, Nat.reduceEqDiff, Nat.zero_add, Nat.add_zero, Nat.le_refl, Nat.max_self, reduceIte, reduceCtorEq, decide_true, decide_false, Bool.and_true, Bool.true_and, Bool.and_false, Bool.false_and, Bool.or_false, Bool.false_or, Bool.or_true, Bool.true_or, Bool.not_true, Bool.not_false, BEq.rfl, Int.toNat_natCast, and_self, and_true, true_and, List.contains_cons, List.contains_nil, List.isEmpty_cons, List.isEmpty_nil, Option.getD_none, Option.getD_some, Option.map_none, Option.map_some, Option.isSome_none, Option.isSome_some, E.enc, encEs_top, sameE]
    refine gv_go (fun q0 => ?_) (fun q0 => ?_)
    rotate_left
    · simp only [wc, wb, wz, wo, wv, wm, wx, wl, wk, wu, wd, wr, wf, wt, d_alloc, d_box, dbx_ok, d_store, dst_ptr, dstb_box, w_cond, w_gd, w_build, d_build, w_parts, fill_cons, bx_ok, st_ptr, stb_box, w_dreg, dv, dz, d_op, d_gd, dn_ok, Nat.reduceAdd, Nat.reduceSub, Nat.reduceMul, Nat.reduceLeDiff, Nat.reduceLT, Nat.reduceBEq, Nat.reduceEqDiff, Nat.zero_add, Nat.add_zero, Nat.le_refl, Nat.max_self, reduceIte, reduceCtorEq, decide_true, decide_false, Bool.and_true, Bool.true_and, Bool.and_false, Bool.false_and, Bool.or_false, Bool.false_or, Bool.or_true, Bool.true_or, Bool.not_true, Bool.not_false, BEq.rfl, Int.toNat_natCast, and_self, and_true, true_and, List.contains_cons, List.contains_nil, List.isEmpty_cons, List.isEmpty_nil, Option.getD_none, Option.getD_some, Option.map_none, Option.map_some, Option.isSome_none, Option.isSome_some, q0, leave_pure, retv]
    simp only [wc, wb, wz, wo, wv, wm, wx, wl, wk, wu, wd, wr, wf, wt, d_alloc, d_box, dbx_ok, d_store, dst_ptr, dstb_box, w_cond, w_gd, w_build, d_build, w_parts, fill_cons, bx_ok, st_ptr, stb_box, w_dreg, dv, dz, d_op, d_gd, dn_ok, Nat.reduceAdd, Nat.reduceSub, Nat.reduceMul, Nat.reduceLeDiff, Nat.reduceLT, Nat.reduceBEq, Nat.reduceEqDiff, Nat.zero_add, Nat.add_zero, Nat.le_refl, Nat.max_self, reduceIte, reduceCtorEq, decide_true, decide_false, Bool.and_true, Bool.true_and, Bool.and_false, Bool.false_and, Bool.or_false, Bool.false_or, Bool.or_true, Bool.true_or, Bool.not_true, Bool.not_false, BEq.rfl, Int.toNat_natCast, and_self, and_true, true_and, List.contains_cons, List.contains_nil, List.isEmpty_cons, List.isEmpty_nil, Option.getD_none, Option.getD_some, Option.map_none, Option.map_some, Option.isSome_none, Option.isSome_some, q0, encEs_pure, cx_pure, hr, retv, ca_ret, leave_pure]
    refine gv_go (fun q1 => ?_) (fun q1 => ?_)
    rotate_left
    · simp only [wc, wb, wz, wo, wv, wm, wx, wl, wk, wu, wd, wr, wf, wt, d_alloc, d_box, dbx_ok, d_store, dst_ptr, dstb_box, w_cond, w_gd, w_build, d_build, w_parts, fill_cons, bx_ok, st_ptr, stb_box, w_dreg, dv, dz, d_op, d_gd, dn_ok, Nat.reduceAdd, Nat.reduceSub, Nat.reduceMul, Nat.reduceLeDiff, Nat.reduceLT, Nat.reduceBEq, Nat.reduceEqDiff, Nat.zero_add, Nat.add_zero, Nat.le_refl, Nat.max_self, reduceIte, reduceCtorEq, decide_true, decide_false, Bool.and_true, Bool.true_and, Bool.and_false, Bool.false_and, Bool.or_false, Bool.false_or, Bool.or_true, Bool.true_or, Bool.not_true, Bool.not_false, BEq.rfl, Int.toNat_natCast, and_self, and_true, true_and, List.contains_cons, List.contains_nil, List.isEmpty_cons, List.isEmpty_nil, Option.getD_none, Option.getD_some, Option.map_none, Option.map_some, Option.isSome_none, Option.isSome_some, q0, q1, leave_pure, retv]
    simp only [wc, wb, wz, wo, wv, wm, wx, wl, wk, wu, wd, wr, wf, wt, d_alloc, d_box, dbx_ok, d_store, dst_ptr, dstb_box, w_cond, w_gd, w_build, d_build, w_parts, fill_cons, bx_ok, st_ptr, stb_box, w_dreg, dv, dz, d_op, d_gd, dn_ok, Nat.reduceAdd, Nat.reduceSub, Nat.reduceMul, Nat.reduceLeDiff, Nat.reduceLT, Nat.reduceBEq, Nat.reduceEqDiff, Nat.zero_add, Nat.add_zero, Nat.le_refl, Nat.max_self, reduceIte, reduceCtorEq, decide_true, decide_false, Bool.and_true, Bool.true_and, Bool.and_false, Bool.false_and, Bool.or_false, Bool.false_or, Bool.or_true, Bool.true_or, Bool.not_true, Bool.not_false, BEq.rfl, Int.toNat_natCast, and_self, and_true, true_and, List.contains_cons, List.contains_nil, List.isEmpty_cons, List.isEmpty_nil, Option.getD_none, Option.getD_some, Option.map_none, Option.map_some, Option.isSome_none, Option.isSome_some, q0, q1, encEs_pure, cx_pure, hr, retv, ca_ret, leave_pure]
    refine gv_go (fun q2 => ?_) (fun q2 => ?_)
    rotate_left
    · simp only [wc, wb, wz, wo, wv, wm, wx, wl, wk, wu, wd, wr, wf, wt, d_alloc, d_box, dbx_ok, d_store, dst_ptr, dstb_box, w_cond, w_gd, w_build, d_build, w_parts, fill_cons, bx_ok, st_ptr, stb_box, w_dreg, dv, dz, d_op, d_gd, dn_ok, Nat.reduceAdd, Nat.reduceSub, Nat.reduceMul, Nat.reduceLeDiff, Nat.reduceLT, Nat.reduceBEq, Nat.reduceEqDiff, Nat.zero_add, Nat.add_zero, Nat.le_refl, Nat.max_self, reduceIte, reduceCtorEq, decide_true, decide_false, Bool.and_true, Bool.true_and, Bool.and_false, Bool.false_and, Bool.or_false, Bool.false_or, Bool.or_true, Bool.true_or, Bool.not_true, Bool.not_false, BEq.rfl, Int.toNat_natCast, and_self, and_true, true_and, List.contains_cons, List.contains_nil, List.isEmpty_cons, List.isEmpty_nil, Option.getD_none, Option.getD_some, Option.map_none, Option.map_some, Option.isSome_none, Option.isSome_some, q0, q1, q2, leave_pure, retv]
    simp only [wc, wb, wz, wo, wv, wm, wx, wl, wk, wu, wd, wr, wf, wt, d_alloc, d_box, dbx_ok, d_store, dst_ptr, dstb_box, w_cond, w_gd, w_build, d_build, w_parts, fill_cons, bx_ok, st_ptr, stb_box, w_dreg, dv, dz, d_op, d_gd, dn_ok, Nat.reduceAdd, Nat.reduceSub, Nat.reduceMul, Nat.reduceLeDiff, Nat.reduceLT, Nat.reduceBEq, Nat.reduceEqDiff, Nat.zero_add, Nat.add_zero, Nat.le_refl, Nat.max_self, reduceIte, reduceCtorEq, decide_true, decide_false, Bool.and_true, Bool.true_and, Bool.and_false, Bool.false_and, Bool.or_false, Bool.false_or, Bool.or_true, Bool.true_or, Bool.not_true, Bool.not_false, BEq.rfl, Int.toNat_natCast, and_self, and_true, true_and, List.contains_cons, List.contains_nil, List.isEmpty_cons, List.isEmpty_nil, Option.getD_none, Option.getD_some, Option.map_none, Option.map_some, Option.isSome_none, Option.isSome_some, q0, q1, q2, encEs_pure, cx_pure, hr, retv, ca_ret, leave_pure]
    refine gv_go (fun q3 => ?_) (fun q3 => ?_)
    rotate_left
    · simp only [wc, wb, wz, wo, wv, wm, wx, wl, wk, wu, wd, wr, wf, wt, d_alloc, d_box, dbx_ok, d_store, dst_ptr, dstb_box, w_cond, w_gd, w_build, d_build, w_parts, fill_cons, bx_ok, st_ptr, stb_box, w_dreg, dv, dz, d_op, d_gd, dn_ok, Nat.reduceAdd, Nat.reduceSub, Nat.reduceMul, Nat.reduceLeDiff, Nat.reduceLT, Nat.reduceBEq, Nat.reduceEqDiff, Nat.zero_add, Nat.add_zero, Nat.le_refl, Nat.max_self, reduceIte, reduceCtorEq, decide_true, decide_false, Bool.and_true, Bool.true_and, Bool.and_false, Bool.false_and, Bool.or_false, Bool.false_or, Bool.or_true, Bool.true_or, Bool.not_true, Bool.not_false, BEq.rfl, Int.toNat_natCast, and_self, and_true, true_and, List.contains_cons, List.contains_nil, List.isEmpty_cons, List.isEmpty_nil, Option.getD_none, Option.getD_some, Option.map_none, Option.map_some, Option.isSome_none, Option.isSome_some, q0, q1, q2, q3, leave_pure, retv]
    simp only [wc, wb, wz, wo, wv, wm, wx, wl, wk, wu, wd, wr, wf, wt, d_alloc, d_box, dbx_ok, d_store, dst_ptr, dstb_box, w_cond, w_gd, w_build, d_build, w_parts, fill_cons, bx_ok, st_ptr, stb_box, w_dreg, dv, dz, d_op, d_gd, dn_ok, Nat.reduceAdd, Nat.reduceSub, Nat.reduceMul, Nat.reduceLeDiff, Nat.reduceLT, Nat.reduceBEq, Nat.reduceEqDiff, Nat.zero_add, Nat.add_zero, Nat.le_refl, Nat.max_self, reduceIte, reduceCtorEq, decide_true, decide_false, Bool.and_true, Bool.true_and, Bool.and_false, Bool.false_and, Bool.or_false, Bool.false_or, Bool.or_true, Bool.true_or, Bool.not_true, Bool.not_false, BEq.rfl, Int.toNat_natCast, and_self, and_true, true_and, List.contains_cons, List.contains_nil, List.isEmpty_cons, List.isEmpty_nil, Option.getD_none, Option.getD_some, Option.map_none, Option.map_some, Option.isSome_none, Option.isSome_some, q0, q1, q2, q3, encEs_pure, cx_pure, hr, retv, ca_ret, leave_pure]
    refine gv_go (fun q4 => ?_) (fun q4 => ?_)
    rotate_left
    · simp only [wc, wb, wz, wo, wv, wm, wx, wl, wk, wu, wd, wr, wf, wt, d_alloc, d_box, dbx_ok, d_store, dst_ptr, dstb_box, w_cond, w_gd, w_build, d_build, w_parts, fill_cons, bx_ok, st_ptr, stb_box, w_dreg, dv, dz, d_op, d_gd, dn_ok, Nat.reduceAdd, Nat.reduceSub, Nat.reduceMul, Nat.reduceLeDiff, Nat.reduceLT, Nat.reduceBEq, Nat.reduceEqDiff, Nat.zero_add, Nat.add_zero, Nat.le_refl, Nat.max_self, reduceIte, reduceCtorEq, decide_true, decide_false, Bool.and_true, Bool.true_and, Bool.and_false, Bool.false_and, Bool.or_false, Bool.false_or, Bool.or_true, Bool.true_or, Bool.not_true, Bool.not_false, BEq.rfl, Int.toNat_natCast, and_self, and_true, true_and, List.contains_cons, List.contains_nil, List.isEmpty_cons, List.isEmpty_nil, Option.getD_none, Option.getD_some, Option.map_none, Option.map_some, Option.isSome_none, Option.isSome_some, q0, q1, q2, q3, q4, leave_pure, retv]
    simp only [wc, wb, wz, wo, wv, wm, wx, wl, wk, wu, wd, wr, wf, wt, d_alloc, d_box, dbx_ok, d_store, dst_ptr, dstb_box, w_cond, w_gd, w_build, d_build, w_parts, fill_cons, bx_ok, st_ptr, stb_box, w_dreg, dv, dz, d_op, d_gd, dn_ok, Nat.reduceAdd, Nat.reduceSub, Nat.reduceMul, Nat.reduceLeDiff, Nat.reduceLT, Nat.reduceBEq, Nat.reduceEqDiff, Nat.zero_add, Nat.add_zero, Nat.le_refl, Nat.max_self, reduceIte, reduceCtorEq, decide_true, decide_false, Bool.and_true, Bool.true_and, Bool.and_false, Bool.false_and, Bool.or_false, Bool.false_or, Bool.or_true, Bool.true_or, Bool.not_true, Bool.not_false, BEq.rfl, Int.toNat_natCast, and_self, and_true, true_and, List.contains_cons, List.contains_nil, List.isEmpty_cons, List.isEmpty_nil, Option.getD_none, Option.getD_some, Option.map_none, Option.map_some, Option.isSome_none, Option.isSome_some, q0, q1, q2, q3, q4, encEs_pure, cx_pure, hr, retv, ca_ret, leave_pure]

theorem run27 (l l' : List E) (hl : sizeEs l ≤ 1099511627776) (hl' : sizeEs l' ≤ 1099511627776) : lim F G (.call 27 [.sl .any (encEs l), .sl .any (encEs l')] [] false) = retv (.bool (sameEs l l')) := by
  have h1 := len_size l
  have h2 := len_size l'
  exact run27_of l l' (by omega) (by omega) fun x hx y hy => run10 x y (by have := size_mem hx; omega) (by have := size_mem hy; omega)

theorem run26same (l l' : List E) (hl : sizeEs l ≤ 1099511627776) (hl' : sizeEs l' ≤ 1099511627776) : lim F G (.call 26 [.sl .any (encEs l), .sl .any (encEs l'), .fn 9 []] [] false) = retv (.bool (sameEs l l')) := by
  have h1 := len_size l
  have h2 := len_size l'
  rw [sameEs_all2]
  exact run26 9 [] rfl sameE l l' (by omega) (by omega) fun x hx y hy => run9 x y (by have := size_mem hx; omega) (by have := size_mem hy; omega)

/-- Statements that are the same, by lists of at most so many nodes. -/
theorem run11_of (l l' : List S) (hl : l.length ≤ 1099511627776) (hl' : l'.length ≤ 1099511627776)
    (hc : ∀ x ∈ l, ∀ y ∈ l', lim F G (.call 29 [x.enc, y.enc] [] false) = retv (.bool (sameS x y))) :
    lim F G (.call 11 [.sl .any (encSs l), .sl .any (encSs l')] [] false) = retv (.bool (sameSs l l')) := by
  have hr := run28 (G := G) 29 [] rfl sameS l l' hl hl' hc
  rw [← sameSs_all2] at hr
  rw [lim_fun F11 rfl]
  simp only [f11, f11_b, wc, wb, wz, wo, wv, wm, wx, wl, wk, wu, wd, wr, wf, wt, d_alloc, d_box, dbx_ok, d_store, dst_ptr, dstb_box, w_cond, w_gd, w_build, d_build, w_parts, fill_cons, bx_ok, st_ptr, stb_box, w_dreg, dv, dz, d_op, d_gd, dn_ok, Nat.reduceAdd, Nat.reduceSub, Nat.reduceMul, Nat.reduceLeDiff, Nat.reduceLT, Nat.reduceBEq, Nat.reduceEqDiff, Nat.zero_add, Nat.add_zero, Nat.le_refl, Nat.max_self, reduceIte, reduceCtorEq, decide_true, decide_false, Bool.and_true, Bool.true_and, Bool.and_false, Bool.false_and, Bool.or_false, Bool.false_or, Bool.or_true, Bool.true_or, Bool.not_true, Bool.not_false, BEq.rfl, Int.toNat_natCast, and_self, and_true, true_and, List.contains_cons, List.contains_nil, List.isEmpty_cons, List.isEmpty_nil, Option.getD_none, Option.getD_some, Option.map_none, Option.map_some, Option.isSome_none, Option.isSome_some, encSs_pure, cx_pure, hr, retv, ca_ret, leave_pure]

theorem run29 (e : S) : ∀ e' : S, e.size ≤ 1099511627776 → e'.size ≤ 1099511627776 → lim F G (.call 29 [e.enc, e'.enc] [] false) = retv (.bool (sameS e e')) := by
  induction e using S.all with
  | h k num ty nm es a b c nth iha ihb ihc =>
    rintro ⟨k', num', ty', nm', es', a', b', c', nth'⟩ h h'
    have hs : (S.mk k num ty nm es a b c nth).size = 1 + sizeEs es + sizeSs a + sizeSs b + sizeSs c := rfl
    have hs' : (S.mk k' num' ty' nm' es' a' b' c' nth').size = 1 + sizeEs es' + sizeSs a' + sizeSs b' + sizeSs c' := rfl
    have k1 := len_sizeS a; have k2 := len_sizeS b; have k3 := len_sizeS c
    have m1 := len_sizeS a'; have m2 := len_sizeS b'; have m3 := len_sizeS c'
    have he := run26same (G := G) es es' (by omega) (by omega)
    have ha := run11_of (G := G) a a' (by omega) (by omega) fun x hx y hy => iha x hx y (by have := size_memS hx; omega) (by have := size_memS hy; omega)
    have hb := run11_of (G := G) b b' (by omega) (by omega) fun x hx y hy => ihb x hx y (by have := size_memS hx; omega) (by have := size_memS hy; omega)
    have hc := run11_of (G := G) c c' (by omega) (by omega) fun x hx y hy => ihc x hx y (by have := size_memS hx; omega) (by have := size_memS hy; omega)
    rw [lim_fun F29 rfl]
    simp only [f29, f29_b, wc, wb, wz, wo, wv, wm, wx, wl, wk, wu, wd, wr, wf, wt, d_alloc, d_box, dbx_ok, d_store, dst_ptr, dstb_box, w_cond, w_gd, w_build, d_build, w_parts, fill_cons, bx_ok, st_ptr, stb_box, w_dreg, dv, dz, d_op, d_gd, dn_ok, Nat.reduceAdd, Nat.reduceSub, Nat.reduceMul, Nat.reduceLeDiff, Nat.reduceLT, Nat.reduceBEq, Nat.reduceEqDiff, Nat.zero_add, Nat.add_zero, Nat.le_refl, Nat.max_self, reduceIte, reduceCtorEq, decide_true, decide_false, Bool.and_true, Bool.true_and, Bool.and_false, Bool.false_and, Bool.or_false, Bool.false_or, Bool.or_true, Bool.true_or, Bool.not_true, Bool.not_false, BEq.rfl, Int.toNat_natCast, and_self, and_true, true_and, List.contains_cons, List.contains_nil, List.isEmpty_cons, List.isEmpty_nil, Option.getD_none, Option.getD_some, Option.map_none, Option.map_some, Option.isSome_none, Option.isSome_some, S.enc, encEs_top, encSs_top, sameS]
    refine gv_go (fun q0 => ?_) (fun q0 => ?_)
    rotate_left
    · simp only [wc, wb, wz, wo, wv, wm, wx, wl, wk, wu, wd, wr, wf, wt, d_alloc, d_box, dbx_ok, d_store, dst_ptr, dstb_box, w_cond, w_gd, w_build, d_build, w_parts, fill_cons, bx_ok, st_ptr, stb_box, w_dreg, dv, dz, d_op, d_gd, dn_ok, Nat.reduceAdd, Nat.reduceSub, Nat.reduceMul, Nat.reduceLeDiff, Nat.reduceLT, Nat.reduceBEq, Nat.reduceEqDiff, Nat.zero_add, Nat.add_zero, Nat.le_refl, Nat.max_self, reduceIte, reduceCtorEq, decide_true, decide_false, Bool.and_true, Bool.true_and, Bool.and_false, Bool.false_and, Bool.or_false, Bool.false_or, Bool.or_true, Bool.true_or, Bool.not_true, Bool.not_false, BEq.rfl, Int.toNat_natCast, and_self, and_true, true_and, List.contains_cons, List.contains_nil, List.isEmpty_cons, List.isEmpty_nil, Option.getD_none, Option.getD_some, Option.map_none, Option.map_some, Option.isSome_none, Option.isSome_some, q0, leave_pure, retv]
    simp only [wc, wb, wz, wo, wv, wm, wx, wl, wk, wu, wd, wr, wf, wt, d_alloc, d_box, dbx_ok, d_store, dst_ptr, dstb_box, w_cond, w_gd, w_build, d_build, w_parts, fill_cons, bx_ok, st_ptr, stb_box, w_dreg, dv, dz, d_op, d_gd, dn_ok, Nat.reduceAdd, Nat.reduceSub, Nat.reduceMul, Nat.reduceLeDiff, Nat.reduceLT, Nat.reduceBEq, Nat.reduceEqDiff, Nat.zero_add, Nat.add_zero, Nat.le_refl, Nat.max_self, reduceIte, reduceCtorEq, decide_true, decide_false, Bool.and_true, Bool.true_and, Bool.and_false, Bool.false_and, Bool.or_false, Bool.false_or, Bool.or_true, Bool.true_or, Bool.not_true, Bool.not_false, BEq.rfl, Int.toNat_natCast, and_self, and_true, true_and, List.contains_cons, List.contains_nil, List.isEmpty_cons, List.isEmpty_nil, Option.getD_none, Option.getD_some, Option.map_none, Option.map_some, Option.isSome_none, Option.isSome_some, q0, encEs_pure, encSs_pure, cx_pure, he, ha, hb, hc, retv, ca_ret, leave_pure]
    refine gv_go (fun q1 => ?_) (fun q1 => ?_)
    rotate_left
    · simp only [wc, wb, wz, wo, wv, wm, wx, wl, wk, wu, wd, wr, wf, wt, d_alloc, d_box, dbx_ok, d_store, dst_ptr, dstb_box, w_cond, w_gd, w_build, d_build, w_parts, fill_cons, bx_ok, st_ptr, stb_box, w_dreg, dv, dz, d_op, d_gd, dn_ok, Nat.reduceAdd, Nat.reduceSub, Nat.reduceMul, Nat.reduceLeDiff, Nat.reduceLT, Nat.reduceBEq, Nat.reduceEqDiff, Nat.zero_add, Nat.add_zero, Nat.le_refl, Nat.max_self, reduceIte, reduceCtorEq, decide_true, decide_false, Bool.and_true, Bool.true_and, Bool.and_false, Bool.false_and, Bool.or_false, Bool.false_or, Bool.or_true, Bool.true_or, Bool.not_true, Bool.not_false, BEq.rfl, Int.toNat_natCast, and_self, and_true, true_and, List.contains_cons, List.contains_nil, List.isEmpty_cons, List.isEmpty_nil, Option.getD_none, Option.getD_some, Option.map_none, Option.map_some, Option.isSome_none, Option.isSome_some, q0, q1, leave_pure, retv]
    simp only [wc, wb, wz, wo, wv, wm, wx, wl, wk, wu, wd, wr, wf, wt, d_alloc, d_box, dbx_ok, d_store, dst_ptr, dstb_box, w_cond, w_gd, w_build, d_build, w_parts, fill_cons, bx_ok, st_ptr, stb_box, w_dreg, dv, dz, d_op, d_gd, dn_ok, Nat.reduceAdd, Nat.reduceSub, Nat.reduceMul, Nat.reduceLeDiff, Nat.reduceLT, Nat.reduceBEq, Nat.reduceEqDiff, Nat.zero_add, Nat.add_zero, Nat.le_refl, Nat.max_self, reduceIte, reduceCtorEq, decide_true, decide_false, Bool.and_true, Bool.true_and, Bool.and_false, Bool.false_and, Bool.or_false, Bool.false_or, Bool.or_true, Bool.true_or, Bool.not_true, Bool.not_false, BEq.rfl, Int.toNat_natCast, and_self, and_true, true_and, List.contains_cons, List.contains_nil, List.isEmpty_cons, List.isEmpty_nil, Option.getD_none, Option.getD_some, Option.map_none, Option.map_some, Option.isSome_none, Option.isSome_some, q0, q1, encEs_pure, encSs_pure, cx_pure, he, ha, hb, hc, retv, ca_ret, leave_pure]
    refine gv_go (fun q2 => ?_) (fun q2 => ?_)
    rotate_left
    · simp only [wc, wb, wz, wo, wv, wm, wx, wl, wk, wu, wd, wr, wf, wt, d_alloc, d_box, dbx_ok, d_store, dst_ptr, dstb_box, w_cond, w_gd, w_build, d_build, w_parts, fill_cons, bx_ok, st_ptr, stb_box, w_dreg, dv, dz, d_op, d_gd, dn_ok, Nat.reduceAdd, Nat.reduceSub, Nat.reduceMul, Nat.reduceLeDiff, Nat.reduceLT, Nat.reduceBEq, Nat.reduceEqDiff, Nat.zero_add, Nat.add_zero, Nat.le_refl, Nat.max_self, reduceIte, reduceCtorEq, decide_true, decide_false, Bool.and_true, Bool.true_and, Bool.and_false, Bool.false_and, Bool.or_false, Bool.false_or, Bool.or_true, Bool.true_or, Bool.not_true, Bool.not_false, BEq.rfl, Int.toNat_natCast, and_self, and_true, true_and, List.contains_cons, List.contains_nil, List.isEmpty_cons, List.isEmpty_nil, Option.getD_none, Option.getD_some, Option.map_none, Option.map_some, Option.isSome_none, Option.isSome_some, q0, q1, q2, leave_pure, retv]
    simp only [wc, wb, wz, wo, wv, wm, wx, wl, wk, wu, wd, wr, wf, wt, d_alloc, d_box, dbx_ok, d_store, dst_ptr, dstb_box, w_cond, w_gd, w_build, d_build, w_parts, fill_cons, bx_ok, st_ptr, stb_box, w_dreg, dv, dz, d_op, d_gd, dn_ok, Nat.reduceAdd, Nat.reduceSub, Nat.reduceMul, Nat.reduceLeDiff, Nat.reduceLT, Nat.reduceBEq, Nat.reduceEqDiff, Nat.zero_add, Nat.add_zero, Nat.le_refl, Nat.max_self, reduceIte, reduceCtorEq, decide_true, decide_false, Bool.and_true, Bool.true_and, Bool.and_false, Bool.false_and, Bool.or_false, Bool.false_or, Bool.or_true, Bool.true_or, Bool.not_true, Bool.not_false, BEq.rfl, Int.toNat_natCast, and_self, and_true, true_and, List.contains_cons, List.contains_nil, List.isEmpty_cons, List.isEmpty_nil, Option.getD_none, Option.getD_some, Option.map_none, Option.map_some, Option.isSome_none, Option.isSome_some, q0, q1, q2, encEs_pure, encSs_pure, cx_pure, he, ha, hb, hc, retv, ca_ret, leave_pure]
    refine gv_go (fun q3 => ?_) (fun q3 => ?_)
    rotate_left
    · simp only [wc, wb, wz, wo, wv, wm, wx, wl, wk, wu, wd, wr, wf, wt, d_alloc, d_box, dbx_ok, d_store, dst_ptr, dstb_box, w_cond, w_gd, w_build, d_build, w_parts, fill_cons, bx_ok, st_ptr, stb_box, w_dreg, dv, dz, d_op, d_gd, dn_ok, Nat.reduceAdd, Nat.reduceSub, Nat.reduceMul, Nat.reduceLeDiff, Nat.reduceLT, Nat.reduceBEq, Nat.reduceEqDiff, Nat.zero_add, Nat.add_zero, Nat.le_refl, Nat.max_self, reduceIte, reduceCtorEq, decide_true, decide_false, Bool.and_true, Bool.true_and, Bool.and_false, Bool.false_and, Bool.or_false, Bool.false_or, Bool.or_true, Bool.true_or, Bool.not_true, Bool.not_false, BEq.rfl, Int.toNat_natCast, and_self, and_true, true_and, List.contains_cons, List.contains_nil, List.isEmpty_cons, List.isEmpty_nil, Option.getD_none, Option.getD_some, Option.map_none, Option.map_some, Option.isSome_none, Option.isSome_some, q0, q1, q2, q3, leave_pure, retv]
    simp only [wc, wb, wz, wo, wv, wm, wx, wl, wk, wu, wd, wr, wf, wt, d_alloc, d_box, dbx_ok, d_store, dst_ptr, dstb_box, w_cond, w_gd, w_build, d_build, w_parts, fill_cons, bx_ok, st_ptr, stb_box, w_dreg, dv, dz, d_op, d_gd, dn_ok, Nat.reduceAdd, Nat.reduceSub, Nat.reduceMul, Nat.reduceLeDiff, Nat.reduceLT, Nat.reduceBEq, Nat.reduceEqDiff, Nat.zero_add, Nat.add_zero, Nat.le_refl, Nat.max_self, reduceIte, reduceCtorEq, decide_true, decide_false, Bool.and_true, Bool.true_and, Bool.and_false, Bool.false_and, Bool.or_false, Bool.false_or, Bool.or_true, Bool.true_or, Bool.not_true, Bool.not_false, BEq.rfl, Int.toNat_natCast, and_self, and_true, true_and, List.contains_cons, List.contains_nil, List.isEmpty_cons, List.isEmpty_nil, Option.getD_none, Option.getD_some, Option.map_none, Option.map_some, Option.isSome_none, Option.isSome_some, q0, q1, q2, q3, encEs_pure, encSs_pure, cx_pure, he, ha, hb, hc, retv, ca_ret, leave_pure]
    refine gv_go (fun q4 => ?_) (fun q4 => ?_)
    rotate_left
    · simp only [wc, wb, wz, wo, wv, wm, wx, wl, wk, wu, wd, wr, wf, wt, d_alloc, d_box, dbx_ok, d_store, dst_ptr, dstb_box, w_cond, w_gd, w_build, d_build, w_parts, fill_cons, bx_ok, st_ptr, stb_box, w_dreg, dv, dz, d_op, d_gd, dn_ok, Nat.reduceAdd, Nat.reduceSub, Nat.reduceMul, Nat.reduceLeDiff, Nat.reduceLT, Nat.reduceBEq, Nat.reduceEqDiff, Nat.zero_add, Nat.add_zero, Nat.le_refl, Nat.max_self, reduceIte, reduceCtorEq, decide_true, decide_false, Bool.and_true, Bool.true_and, Bool.and_false, Bool.false_and, Bool.or_false, Bool.false_or, Bool.or_true, Bool.true_or, Bool.not_true, Bool.not_false, BEq.rfl, Int.toNat_natCast, and_self, and_true, true_and, List.contains_cons, List.contains_nil, List.isEmpty_cons, List.isEmpty_nil, Option.getD_none, Option.getD_some, Option.map_none, Option.map_some, Option.isSome_none, Option.isSome_some, q0, q1, q2, q3, q4, leave_pure, retv]
    simp only [wc, wb, wz, wo, wv, wm, wx, wl, wk, wu, wd, wr, wf, wt, d_alloc, d_box, dbx_ok, d_store, dst_ptr, dstb_box, w_cond, w_gd, w_build, d_build, w_parts, fill_cons, bx_ok, st_ptr, stb_box, w_dreg, dv, dz, d_op, d_gd, dn_ok, Nat.reduceAdd, Nat.reduceSub, Nat.reduceMul, Nat.reduceLeDiff, Nat.reduceLT, Nat.reduceBEq, Nat.reduceEqDiff, Nat.zero_add, Nat.add_zero, Nat.le_refl, Nat.max_self, reduceIte, reduceCtorEq, decide_true, decide_false, Bool.and_true, Bool.true_and, Bool.and_false, Bool.false_and, Bool.or_false, Bool.false_or, Bool.or_true, Bool.true_or, Bool.not_true, Bool.not_false, BEq.rfl, Int.toNat_natCast, and_self, and_true, true_and, List.contains_cons, List.contains_nil, List.isEmpty_cons, List.isEmpty_nil, Option.getD_none, Option.getD_some, Option.map_none, Option.map_some, Option.isSome_none, Option.isSome_some, q0, q1, q2, q3, q4, encEs_pure, encSs_pure, cx_pure, he, ha, hb, hc, retv, ca_ret, leave_pure]
    refine gv_go (fun q5 => ?_) (fun q5 => ?_)
    rotate_left
    · simp only [wc, wb, wz, wo, wv, wm, wx, wl, wk, wu, wd, wr, wf, wt, d_alloc, d_box, dbx_ok, d_store, dst_ptr, dstb_box, w_cond, w_gd, w_build, d_build, w_parts, fill_cons, bx_ok, st_ptr, stb_box, w_dreg, dv, dz, d_op, d_gd, dn_ok, Nat.reduceAdd, Nat.reduceSub, Nat.reduceMul, Nat.reduceLeDiff, Nat.reduceLT, Nat.reduceBEq, Nat.reduceEqDiff, Nat.zero_add, Nat.add_zero, Nat.le_refl, Nat.max_self, reduceIte, reduceCtorEq, decide_true, decide_false, Bool.and_true, Bool.true_and, Bool.and_false, Bool.false_and, Bool.or_false, Bool.false_or, Bool.or_true, Bool.true_or, Bool.not_true, Bool.not_false, BEq.rfl, Int.toNat_natCast, and_self, and_true, true_and, List.contains_cons, List.contains_nil, List.isEmpty_cons, List.isEmpty_nil, Option.getD_none, Option.getD_some, Option.map_none, Option.map_some, Option.isSome_none, Option.isSome_some, q0, q1, q2, q3, q4, q5, leave_pure, retv]
    simp only [wc, wb, wz, wo, wv, wm, wx, wl, wk, wu, wd, wr, wf, wt, d_alloc, d_box, dbx_ok, d_store, dst_ptr, dstb_box, w_cond, w_gd, w_build, d_build, w_parts, fill_cons, bx_ok, st_ptr, stb_box, w_dreg, dv, dz, d_op, d_gd, dn_ok, Nat.reduceAdd, Nat.reduceSub, Nat.reduceMul, Nat.reduceLeDiff, Nat.reduceLT, Nat.reduceBEq, Nat.reduceEqDiff, Nat.zero_add, Nat.add_zero, Nat.le_refl, Nat.max_self, reduceIte, reduceCtorEq, decide_true, decide_false, Bool.and_true, Bool.true_and, Bool.and_false, Bool.false_and, Bool.or_false, Bool.false_or, Bool.or_true, Bool.true_or, Bool.not_true, Bool.not_false, BEq.rfl, Int.toNat_natCast, and_self, and_true, true_and, List.contains_cons, List.contains_nil, List.isEmpty_cons, List.isEmpty_nil, Option.getD_none, Option.getD_some, Option.map_none, Option.map_some, Option.isSome_none, Option.isSome_some, q0, q1, q2, q3, q4, q5, encEs_pure, encSs_pure, cx_pure, he, ha, hb, hc, retv, ca_ret, leave_pure]
    refine gv_go (fun q6 => ?_) (fun q6 => ?_)
    rotate_left
    · simp only [wc, wb, wz, wo, wv, wm, wx, wl, wk, wu, wd, wr, wf, wt, d_alloc, d_box, dbx_ok, d_store, dst_ptr, dstb_box, w_cond, w_gd, w_build, d_build, w_parts, fill_cons, bx_ok, st_ptr, stb_box, w_dreg, dv, dz, d_op, d_gd, dn_ok, Nat.reduceAdd, Nat.reduceSub, Nat.reduceMul, Nat.reduceLeDiff, Nat.reduceLT, Nat.reduceBEq, Nat.reduceEqDiff, Nat.zero_add, Nat.add_zero, Nat.le_refl, Nat.max_self, reduceIte, reduceCtorEq, decide_true, decide_false, Bool.and_true, Bool.true_and, Bool.and_false, Bool.false_and, Bool.or_false, Bool.false_or, Bool.or_true, Bool.true_or, Bool.not_true, Bool.not_false, BEq.rfl, Int.toNat_natCast, and_self, and_true, true_and, List.contains_cons, List.contains_nil, List.isEmpty_cons, List.isEmpty_nil, Option.getD_none, Option.getD_some, Option.map_none, Option.map_some, Option.isSome_none, Option.isSome_some, q0, q1, q2, q3, q4, q5, q6, leave_pure, retv]
    simp only [wc, wb, wz, wo, wv, wm, wx, wl, wk, wu, wd, wr, wf, wt, d_alloc, d_box, dbx_ok, d_store, dst_ptr, dstb_box, w_cond, w_gd, w_build, d_build, w_parts, fill_cons, bx_ok, st_ptr, stb_box, w_dreg, dv, dz, d_op, d_gd, dn_ok, Nat.reduceAdd, Nat.reduceSub, Nat.reduceMul, Nat.reduceLeDiff, Nat.reduceLT, Nat.reduceBEq, Nat.reduceEqDiff, Nat.zero_add, Nat.add_zero, Nat.le_refl, Nat.max_self, reduceIte, reduceCtorEq, decide_true, decide_false, Bool.and_true, Bool.true_and, Bool.and_false, Bool.false_and, Bool.or_false, Bool.false_or, Bool.or_true, Bool.true_or, Bool.not_true, Bool.not_false, BEq.rfl, Int.toNat_natCast, and_self, and_true, true_and, List.contains_cons, List.contains_nil, List.isEmpty_cons, List.isEmpty_nil, Option.getD_none, Option.getD_some, Option.map_none, Option.map_some, Option.isSome_none, Option.isSome_some, q0, q1, q2, q3, q4, q5, q6, encEs_pure, encSs_pure, cx_pure, he, ha, hb, hc, retv, ca_ret, leave_pure]

theorem run11 (l l' : List S) (hl : sizeSs l ≤ 1099511627776) (hl' : sizeSs l' ≤ 1099511627776) : lim F G (.call 11 [.sl .any (encSs l), .sl .any (encSs l')] [] false) = retv (.bool (sameSs l l')) := by
  have h1 := len_sizeS l
  have h2 := len_sizeS l'
  exact run11_of l l' (by omega) (by omega) fun x hx y hy => run29 x y (by have := size_memS hx; omega) (by have := size_memS hy; omega)
end Go.Ev
