/-
  Steps of a region that draws: those that nothing orders may change places.
-/
import Derived.Test.YthajiefjebcobaaDoorEvAll
set_option linter.all false
set_option linter.unusedSimpArgs false
set_option linter.unusedVariables false
namespace Go.Ev

mutual
theorem V.same_eq : ∀ {x y : V}, V.same x y = true → x = y
  | .any, y, h => by cases y <;> first | rfl | exact absurd h Bool.false_ne_true
  | .skip, y, h => by cases y <;> first | rfl | exact absurd h Bool.false_ne_true
  | .nilp, y, h => by cases y <;> first | rfl | exact absurd h Bool.false_ne_true
  | .nilf, y, h => by cases y <;> first | rfl | exact absurd h Bool.false_ne_true
  | .nili, y, h => by cases y <;> first | rfl | exact absurd h Bool.false_ne_true
  | .int .., y, h => by cases y <;> first | (simp only [V.same, Bool.and_eq_true, beq_iff_eq] at h; rw [h.1, h.2]; done) | exact absurd h Bool.false_ne_true
  | .bool _, y, h => by cases y <;> first | (simp only [V.same, beq_iff_eq] at h; rw [h]; done) | exact absurd h Bool.false_ne_true
  | .str _, y, h => by cases y <;> first | (simp only [V.same, beq_iff_eq] at h; rw [h]; done) | exact absurd h Bool.false_ne_true
  | .sl _ xs, y, h => by cases y <;> first | (simp only [V.same, Bool.and_eq_true, beq_iff_eq] at h; rw [h.1, V.sameL_eq h.2]; done) | exact absurd h Bool.false_ne_true
  | .row .., y, h => by cases y <;> first | (simp only [V.same, Bool.and_eq_true, beq_iff_eq] at h; obtain ⟨⟨⟨rfl, rfl⟩, rfl⟩, rfl⟩ := h; rfl) | exact absurd h Bool.false_ne_true
  | .ptr .., y, h => by cases y <;> first | (simp only [V.same, Bool.and_eq_true, beq_iff_eq] at h; rw [h.1, h.2]; done) | exact absurd h Bool.false_ne_true
  | .rptr .., y, h => by cases y <;> first | (simp only [V.same, Bool.and_eq_true, beq_iff_eq] at h; obtain ⟨⟨⟨rfl, rfl⟩, rfl⟩, rfl⟩ := h; rfl) | exact absurd h Bool.false_ne_true
  | .iptr cs, y, h => by cases y <;> first | (simp only [V.same] at h; rw [V.sameL_eq h]; done) | exact absurd h Bool.false_ne_true
  | .fn _ cs, y, h => by cases y <;> first | (simp only [V.same, Bool.and_eq_true, beq_iff_eq] at h; rw [h.1, V.sameL_eq h.2]; done) | exact absurd h Bool.false_ne_true
  | .ifc _ v, y, h => by cases y <;> first | (simp only [V.same, Bool.and_eq_true, beq_iff_eq] at h; rw [h.1, V.same_eq h.2]; done) | exact absurd h Bool.false_ne_true
  | .agg cs, y, h => by cases y <;> first | (simp only [V.same] at h; rw [V.sameL_eq h]; done) | exact absurd h Bool.false_ne_true
  | .tup cs, y, h => by cases y <;> first | (simp only [V.same] at h; rw [V.sameL_eq h]; done) | exact absurd h Bool.false_ne_true
  | .mref _, y, h => by cases y <;> first | (simp only [V.same, beq_iff_eq] at h; rw [h]; done) | exact absurd h Bool.false_ne_true
theorem V.sameL_eq : ∀ {xs ys : List V}, V.sameL xs ys = true → xs = ys
  | [], [], _ => rfl
  | x :: xs, y :: ys, h => by
    simp only [V.sameL, Bool.and_eq_true] at h
    rw [V.same_eq h.1, V.sameL_eq h.2]
  | [], _ :: _, h => absurd h Bool.false_ne_true
  | _ :: _, [], h => absurd h Bool.false_ne_true
end

theorem Obj.same_eq {a b : Obj} (h : Obj.same a b = true) : a = b := by
  cases a <;> cases b <;> simp only [Obj.same, Bool.false_eq_true] at h
  · rfl
  · rw [V.sameL_eq h]
  · simp only [Bool.and_eq_true, beq_iff_eq] at h
    obtain ⟨⟨⟨rfl, rfl⟩, rfl⟩, h⟩ := h
    rw [V.sameL_eq h]

theorem changed_out : ∀ {a b : Store} {k : Nat}, b.length = a.length → ∀ id, k + id ∉ changed k a b → b[id]? = a[id]?
  | [], b, k, h, id, _ => by
    have : b = [] := List.eq_nil_of_length_eq_zero h
    rw [this]
  | x :: a, [], k, h, id, _ => by simp at h
  | x :: a, y :: b, k, h, id, hid => by
    have hl : b.length = a.length := by simpa using h
    simp only [changed] at hid
    cases id with
    | zero =>
      split at hid
      · rename_i e
        rw [Obj.same_eq e]; rfl
      · simp at hid
    | succ id =>
      have : k + 1 + id ∉ changed (k + 1) a b := by
        split at hid
        · rw [show k + 1 + id = k + (id + 1) by omega]; exact hid
        · rw [show k + 1 + id = k + (id + 1) by omega]
          intro hc
          exact hid (List.mem_cons_of_mem _ hc)
      simpa using changed_out hl id this

theorem Moves.eq {σ σ' : Store} (h : Moves σ σ' []) : σ' = σ := by
  apply List.ext_getElem?
  intro id
  exact h.out id (by simp)

/-! ### What a step depends on -/
def IOper.reads (o : IOper) : List Nat :=
  (match o.gd with | some (t, _) => [t] | none => []) ++ o.op.rds.filterMap fun x => match x with | .t n => some n | _ => none

theorem rdV_congr {G : List (List V)} {tm tm' : List V} {o : IOper} (h : ∀ t ∈ o.reads, tm'.getD t .any = tm.getD t .any) : ∀ x ∈ o.op.rds, rdV G tm' x = rdV G tm x := by
  intro x hx
  cases x with
  | t n =>
    refine h n (List.mem_append_right _ (List.mem_filterMap.2 ⟨_, hx, rfl⟩))
  | _ => rfl

theorem wanted_congr {tm tm' : List V} {o : IOper} (h : ∀ t ∈ o.reads, tm'.getD t .any = tm.getD t .any) : wanted tm' o.gd = wanted tm o.gd := by
  unfold IOper.reads at h
  cases hg : o.gd with
  | none => rfl
  | some p =>
    obtain ⟨t, b⟩ := p
    rw [hg] at h
    simp only [wanted, h t (by simp)]

theorem draw1_congr {go : Job → Option Res} {G : List (List V)} {b0 : Nat} {o : IOper} {d : Ord} {tm tm' : List V} {σ : Store} (h : ∀ t ∈ o.reads, tm'.getD t .any = tm.getD t .any) :
    draw1 go G b0 o d tm' σ = draw1 go G b0 o d tm σ := by
  have hr := rdV_congr (G := G) h
  unfold draw1
  rw [wanted_congr h]
  split
  · rfl
  · rfl
  · generalize o.op = op at hr
    cases op with
    | call deep keep f args =>
      have h1 : rdV G tm' f = rdV G tm f := hr f (by simp [IOp.rds])
      have h2 : args.map (rdV G tm') = args.map (rdV G tm) := List.map_congr_left fun x hx => hr x (by simp [IOp.rds, hx])
      simp only [h1, h2]
    | _ => simp only [ev1_congr hr, foot_congr hr, escOf_congr hr]

theorem putT_get {tm : List V} {d : Option Nat} {v : V} {t : Nat} (h : d ≠ some t) : (putT tm d v).getD t .any = tm.getD t .any := by
  cases d with
  | none => rfl
  | some k =>
    simp only [putT, List.getD_eq_getElem?_getD]
    rw [List.getElem?_set_ne (fun e => h (by rw [e]))]

theorem putT_comm (tm : List V) {d e : Option Nat} (v u : V) (h : d = none ∨ d ≠ e) : putT (putT tm d v) e u = putT (putT tm e u) d v := by
  cases d with
  | none => cases e <;> rfl
  | some k => cases e with
    | none => rfl
    | some l =>
      have hkl : k ≠ l := by
        rcases h with h | h
        · cases h
        · exact fun e => h (by rw [e])
      simp only [putT]
      exact List.set_comm _ _ hkl

theorem escOf_agree {r : Rd → V} {σ σ2 : Store} {nid : Nat} {op : IOp} (h : Agree σ σ2 (foot r nid op).R) : escOf r σ2 nid op = escOf r σ nid op := by
  cases op
  case app esz bytes x y =>
    simp only [escOf, elems_agree (a := r y) h, h.1]
  all_goals rfl

theorem clash_false {a b : Fp} (h : clash a b = false) : (∀ id ∈ a.W, id ∉ b.R) ∧ (∀ id ∈ a.W, id ∉ b.W) ∧ (∀ id ∈ a.R, id ∉ b.W) ∧ (a.all = true → b.W = []) ∧ (b.all = true → a.W = []) := by
  have hm : ∀ {x y : List Nat}, meets x y = false → ∀ id ∈ x, id ∉ y := by
    intro x y hxy id hid hy
    have : meets x y = true := List.any_eq_true.2 ⟨id, hid, by simpa using hy⟩
    rw [hxy] at this
    cases this
  simp only [clash, Bool.or_eq_false_iff, Bool.and_eq_false_iff, Bool.not_eq_false'] at h
  obtain ⟨⟨⟨⟨h1, h2⟩, h3⟩, h4⟩, h5⟩ := h
  refine ⟨hm h1, hm h2, hm h3, fun ha => ?_, fun hb => ?_⟩
  · rcases h4 with h4 | h4
    · rw [ha] at h4; cases h4
    · simpa using h4
  · rcases h5 with h5 | h5
    · rw [hb] at h5; cases h5
    · simpa using h5

/-- A step that looks at some objects alone. -/
theorem draw1_local {go : Job → Option Res} {G : List (List V)} {b0 : Nat} {o : IOper} {d : Ord} {tm : List V} {σ σ' : Store} {v : V} {fp : Fp} {ec : Esc} (hd : d.cx ≠ []) (hb : allocs o.op = true → b0 + d.slot.getD 0 < σ.length)
    (h : draw1 go G b0 o d tm σ = some (v, σ', fp, ec)) :
    Moves σ σ' fp.W ∧ (fp.all = false → ∀ σ2, Agree σ σ2 (fp.R ++ fp.W) → ∃ σ3, draw1 go G b0 o d tm σ2 = some (v, σ3, fp, ec) ∧ Agree σ' σ3 (fp.R ++ fp.W)) := by
  have hcx : (!d.cx.isEmpty) = true := by cases hc : d.cx with
    | nil => exact absurd hc hd
    | cons => rfl
  unfold draw1 at h ⊢
  rw [hcx] at h ⊢
  split at h
  · cases h
  · simp only [Option.some.injEq, Prod.mk.injEq] at h
    obtain ⟨rfl, rfl, rfl, rfl⟩ := h
    exact ⟨Moves.refl _ _, fun _ σ2 h2 => ⟨σ2, rfl, h2⟩⟩
  · split at h
    · -- a call
      rename_i deep keep f args hop
      split at h
      rotate_left
      · cases h
      rename_i v' σ1 ec' dp hcall
      split at h
      rotate_left
      · cases h
      rename_i hlen
      simp only [Option.some.injEq, Prod.mk.injEq] at h
      obtain ⟨rfl, rfl, hfp, rfl⟩ := h
      cases dp with
      | true =>
        simp only [if_true] at hfp
        subst hfp
        exact ⟨⟨hlen, fun id hid => changed_out (k := 0) hlen id (by rw [Nat.zero_add]; exact hid)⟩, fun e => by cases e⟩
      | false =>
        simp only [Bool.false_eq_true, if_false] at hfp
        subst hfp
        unfold evCall at hcall
        split at hcall
        rotate_left
        · cases hcall
        rename_i F caps hf
        simp only [if_true] at hcall
        split at hcall
        · cases hcall
        rename_i as s1 hho
        have hids : ∀ id ∈ (args.map (rdV G tm) ++ caps).flatMap V.ids, id ∈ (args.map (rdV G tm)).flatMap V.ids ++ caps.flatMap V.ids := by
          intro id hid
          rw [List.flatMap_append] at hid
          exact hid
        split at hcall
        rotate_left
        · split at hcall
          · split at hcall
            · simp at hcall
            · cases hcall
          · cases hcall
        rename_i hpure
        split at hcall
        · rename_i u _ _ hgo
          split at hcall
          rotate_left
          · cases hcall
          rename_i hu0
          simp only [Option.some.injEq, Prod.mk.injEq, End.ret.injEq, and_true] at hcall
          obtain ⟨rfl, hσ, rfl⟩ := hcall
          have hmv : Moves σ s1 ((args.map (rdV G tm)).flatMap V.ids ++ caps.flatMap V.ids) := ((handOn_one (W := (args.map (rdV G tm) ++ caps).flatMap V.ids) hho ⟨rfl, fun _ _ => rfl⟩ (fun _ h => h)).1).mono hids
          refine ⟨?_, fun _ σ2 h2 => ?_⟩
          · rw [← hσ]
            split
            · exact Moves.refl _ _
            · simpa [hf] using hmv
          · obtain ⟨-, s3, h3, h4⟩ := handOn_one hho h2 (fun id hid => by
              have := hids id hid
              simp only [hf, List.mem_append] at this ⊢
              exact .inl this)
            refine ⟨if u.flat then σ2 else s3, ?_, ?_⟩
            · simp only [evCall, hf, if_true, h3, hgo]
              rw [if_pos hpure, if_pos hu0]
              simp only [Bool.false_eq_true, if_false]
              have hl3 : (if u.flat = true then σ2 else s3).length = σ2.length := by
                split
                · rfl
                · have := (handOn_raise h3).len; exact this
              rw [if_pos hl3]
            · rw [← hσ]
              split
              · rename_i hfl; rw [if_pos hfl] at h2; exact h2
              · rename_i hfl; rw [if_neg hfl] at h4; exact h4
        · split at hcall
          · simp at hcall
          · cases hcall
        · cases hcall
    · -- another operation
      rename_i op hop hnc
      split at h
      · cases h
      rename_i hfree
      split at h
      rotate_left
      · cases h
      rename_i v' σ1 hev
      simp only [Option.some.injEq, Prod.mk.injEq] at h
      obtain ⟨rfl, rfl, rfl, rfl⟩ := h
      have hl := ev1_local hb hev
      refine ⟨hl.mv, fun _ σ2 h2 => ?_⟩
      obtain ⟨σ3, h3, h4⟩ := hl.at_ σ2 h2
      have hfree2 : ¬ (allocs o.op && !isFree σ2[b0 + d.slot.getD 0]?) = true := by
        intro hc
        apply hfree
        simp only [Bool.and_eq_true] at hc ⊢
        refine ⟨hc.1, ?_⟩
        have hin : b0 + d.slot.getD 0 ∈ (foot (rdV G tm) (b0 + d.slot.getD 0) o.op).W := by
          have := hc.1
          generalize o.op = op at this
          cases op <;> simp only [allocs, Bool.false_eq_true] at this <;> simp [foot, this]
        rw [h2.2 _ (List.mem_append_right _ hin)] at hc
        exact hc.2
      refine ⟨σ3, ?_, h4⟩
      rw [if_neg hfree2]
      simp only [h3, escOf_agree (h2.mono fun id hid => List.mem_append_left _ hid)]

/-- It doesn't touch the store. -/
def IOp.pu : IOp → Bool
  | .mov _ | .pick .. | .build .. | .nilck _ | .ari .. | .eq .. | .un .. | .conv .. | .mki .. | .asrt .. | .asrt1 .. | .mkf .. | .slcs .. | .faddr .. | .fld .. | .aaddr .. | .idxs .. | .idxa .. | .ext .. | .mn _ | .mx _ => true
  | .len st _ => st
  | _ => false

/-- It looks at the store alone. -/
def IOp.ro : IOp → Bool
  | .load .. | .iaddr .. | .lkup .. => true
  | .len st _ => !st
  | .slc _ _ _ _ m => m.isNone
  | _ => false

theorem ev1_pu {r : Rd → V} {op : IOp} (h : op.pu = true) (dr dr' : Bool) (σ σ2 : Store) (n n' : Nat) : ev1 r dr' σ2 n' op = okV σ2 ((ev1 r dr σ n op).map (·.1)) := by
  cases op <;> simp only [IOp.pu, Bool.false_eq_true] at h
  case len st x =>
    subst h
    simp only [ev1]
    generalize r x = vx
    cases vx <;> rfl
  all_goals
    simp only [ev1]
    repeat' (first | rfl | exact okV_map _ _ _ | split)

theorem ev1_ro {r : Rd → V} {op : IOp} (h : op.ro = true) (dr dr' : Bool) (σ : Store) (n n' : Nat) : ev1 r dr' σ n' op = okV σ ((ev1 r dr σ n op).map (·.1)) := by
  cases op <;> simp only [IOp.ro, Bool.false_eq_true] at h
  case len st x =>
    have h : st = false := by simpa using h
    subst h
    simp only [ev1]
    generalize r x = vx
    cases vx <;> try rfl
    dsimp only
    repeat' (first | rfl | split)
  case slc esz x lo hi mx =>
    have h : mx = none := by simpa using h
    subst h
    simp only [ev1, Option.isSome_none, Bool.false_eq_true, if_false]
    generalize r x = vx
    cases vx <;> try rfl
    all_goals
      dsimp only
      repeat' (first | rfl | split)
  case iaddr esz x i =>
    simp only [ev1]
    generalize r x = vx
    generalize r i = vi
    cases vx <;> cases vi <;> try rfl
    all_goals
      dsimp only
      repeat' (first | rfl | split)
  all_goals
    simp only [ev1]
    repeat' (first | rfl | split)

section
variable {go : Job → Option Res} {G : List (List V)} {b0 : Nat}

theorem draw1_pu {o : IOper} {d : Ord} {tm : List V} {σ σ' : Store} {v : V} {fp : Fp} {ec : Esc} (hp : o.op.pu = true) (h : draw1 go G b0 o d tm σ = some (v, σ', fp, ec)) :
    σ' = σ ∧ ∀ σ2, draw1 go G b0 o d tm σ2 = some (v, σ2, fp, ec) := by
  unfold draw1 at h ⊢
  split at h
  · cases h
  · simp only [Option.some.injEq, Prod.mk.injEq] at h
    obtain ⟨rfl, rfl, rfl, rfl⟩ := h
    exact ⟨rfl, fun _ => rfl⟩
  · split at h
    · rename_i hop
      rw [hop] at hp
      cases hp
    · have hna : allocs o.op = false := by
        generalize o.op = op at hp
        cases op <;> first | rfl | exact absurd hp Bool.false_ne_true
      have hes : ∀ σ2, escOf (rdV G tm) σ2 (b0 + d.slot.getD 0) o.op = escOf (rdV G tm) σ (b0 + d.slot.getD 0) o.op := by
        intro σ2
        generalize o.op = op at hp
        cases op <;> first | rfl | exact absurd hp Bool.false_ne_true
      rw [hna] at h ⊢
      simp only [Bool.false_and, Bool.false_eq_true, if_false] at h ⊢
      split at h
      rotate_left
      · cases h
      rename_i v' σ1 hev
      simp only [Option.some.injEq, Prod.mk.injEq] at h
      obtain ⟨rfl, rfl, rfl, rfl⟩ := h
      have h1 := fun σ2 => ev1_pu hp (!d.cx.isEmpty) (!d.cx.isEmpty) σ σ2 (b0 + d.slot.getD 0) (b0 + d.slot.getD 0) (r := rdV G tm)
      rw [hev] at h1
      have h2 := h1 σ
      rw [hev] at h2
      simp only [Option.map_some, okV, Option.some.injEq, Prod.mk.injEq, true_and] at h2
      refine ⟨h2, fun σ2 => ?_⟩
      rw [h1 σ2, hes σ2]
      rfl

theorem draw1_ro {o : IOper} {d : Ord} {tm : List V} {σ σ' : Store} {v : V} {fp : Fp} {ec : Esc} (hp : o.op.ro = true) (h : draw1 go G b0 o d tm σ = some (v, σ', fp, ec)) : σ' = σ := by
  unfold draw1 at h
  split at h
  · cases h
  · simp only [Option.some.injEq, Prod.mk.injEq] at h
    exact h.2.1.symm
  · split at h
    · rename_i hop
      rw [hop] at hp
      cases hp
    · split at h
      · cases h
      split at h
      rotate_left
      · cases h
      rename_i v' σ1 hev
      simp only [Option.some.injEq, Prod.mk.injEq] at h
      obtain ⟨rfl, rfl, rfl, rfl⟩ := h
      have h1 := ev1_ro hp (!d.cx.isEmpty) (!d.cx.isEmpty) σ (b0 + d.slot.getD 0) (b0 + d.slot.getD 0) (r := rdV G tm)
      rw [hev] at h1
      simp only [Option.map_some, okV, Option.some.injEq, Prod.mk.injEq, true_and] at h1
      exact h1

/-- Two steps that nothing orders. -/
structure Apart (i p : Nat) (oi : IOper) (di : Ord) (op : IOper) (dp : Ord) : Prop where
  ne : i ≠ p
  d1 : ∀ t, oi.dst = some t → t ∉ op.reads
  d2 : ∀ t, op.dst = some t → t ∉ oi.reads
  dd : oi.dst = none ∨ oi.dst ≠ op.dst
  cx : p ∈ di.cx ↔ i ∈ dp.cx
  calm : (p ∈ di.cx) ∨ oi.op.pu = true ∨ op.op.pu = true ∨ (oi.op.ro = true ∧ op.op.ro = true)

theorem clash_symm (a b : Fp) : clash a b = clash b a := by
  have hm : ∀ x y : List Nat, meets x y = meets y x := by
    intro x y
    rw [Bool.eq_iff_iff]
    simp only [meets, List.any_eq_true, List.contains_iff_mem]
    constructor <;> rintro ⟨k, h1, h2⟩ <;> exact ⟨k, h2, h1⟩
  simp only [clash, hm a.W b.R, hm a.W b.W, hm a.R b.W]
  cases meets b.R a.W <;> cases meets b.W a.W <;> cases meets b.W a.R <;> cases (a.all && !b.W.isEmpty) <;> cases (b.all && !a.W.isEmpty) <;> rfl

/-- The bare steps change places. -/
theorem draw_comm {i p : Nat} {oi op : IOper} {di dp : Ord} (ha : Apart i p oi di op dp) {tm : List V} {σ σ1 σ2 : Store} {vi vp : V} {fi fq : Fp} {ei ep : Esc}
    (hbi : allocs oi.op = true → b0 + di.slot.getD 0 < σ.length) (hbp : allocs op.op = true → b0 + dp.slot.getD 0 < σ.length)
    (h1 : draw1 go G b0 oi di tm σ = some (vi, σ1, fi, ei)) (h2 : draw1 go G b0 op dp tm σ1 = some (vp, σ2, fq, ep)) (hcl : p ∈ di.cx → clash fq fi = false) :
    ∃ σ3, draw1 go G b0 op dp tm σ = some (vp, σ3, fq, ep) ∧ draw1 go G b0 oi di tm σ3 = some (vi, σ2, fi, ei) := by
  rcases ha.calm with hx | hx | hx | ⟨hx, hy⟩
  · have hdi : di.cx ≠ [] := fun e => by rw [e] at hx; cases hx
    have hdp : dp.cx ≠ [] := fun e => by have := ha.cx.1 hx; rw [e] at this; cases this
    obtain ⟨c1, c2, c3, c4, c5⟩ := clash_false (hcl hx)
    obtain ⟨m1, l1⟩ := draw1_local hdi hbi h1
    obtain ⟨m2, l2⟩ := draw1_local hdp (by rw [m1.len]; exact hbp) h2
    cases hfi : fi.all with
    | true =>
      have hW := c5 hfi
      rw [hW] at m2
      have e2 := m2.eq
      subst e2
      cases hfq : fq.all with
      | true =>
        have hW1 := c4 hfq
        rw [hW1] at m1
        have e1 := m1.eq
        subst e1
        exact ⟨_, h2, h1⟩
      | false =>
        obtain ⟨σ3, h3, h4⟩ := l2 hfq σ ⟨m1.len.symm, fun id hid => (m1.out id (by
          rw [hW, List.append_nil] at hid
          exact fun hc => c3 id hid hc)).symm⟩
        have m3 := (draw1_local hdp hbp h3).1
        rw [hW] at m3
        have e3 := m3.eq
        subst e3
        exact ⟨_, h3, h1⟩
    | false =>
      cases hfq : fq.all with
      | true =>
        have hW1 := c4 hfq
        rw [hW1] at m1 l1
        have e1 := m1.eq
        subst e1
        obtain ⟨σ3, h3, h4⟩ := l1 hfi σ2 ⟨m2.len, fun id hid => m2.out id (by
          rw [List.append_nil] at hid
          exact fun hc => c1 id hc hid)⟩
        have m3 := (draw1_local hdi (by rw [m2.len]; exact hbi) h3).1
        rw [hW1] at m3
        have e3 := m3.eq
        subst e3
        exact ⟨_, h2, h3⟩
      | false =>
        obtain ⟨σ3, h3, h4⟩ := l2 hfq σ ⟨m1.len.symm, fun id hid => (m1.out id (by
          intro hc
          rcases List.mem_append.1 hid with hid | hid
          · exact c3 id hid hc
          · exact c2 id hid hc)).symm⟩
        have m3 := (draw1_local hdp hbp h3).1
        obtain ⟨σ4, h5, h6⟩ := l1 hfi σ3 ⟨m3.len, fun id hid => m3.out id (by
          intro hc
          rcases List.mem_append.1 hid with hid | hid
          · exact c1 id hc hid
          · exact c2 id hc hid)⟩
        have m4 := (draw1_local hdi (by rw [m3.len]; exact hbi) h5).1
        have e : σ4 = σ2 := by
          apply List.ext_getElem?
          intro id
          by_cases hi : id ∈ fi.W
          · have hp : id ∉ fq.W := fun hc => c2 id hc hi
            rw [h6.2 id (List.mem_append_right _ hi), m2.out id hp]
          · rw [m4.out id hi]
            by_cases hp : id ∈ fq.W
            · exact h4.2 id (List.mem_append_right _ hp)
            · rw [m3.out id hp, m2.out id hp, m1.out id hi]
        subst e
        exact ⟨σ3, h3, h5⟩
  · obtain ⟨e1, k1⟩ := draw1_pu hx h1
    subst e1
    exact ⟨σ2, h2, k1 σ2⟩
  · obtain ⟨e2, k2⟩ := draw1_pu hx h2
    subst e2
    exact ⟨σ, k2 σ, h1⟩
  · have e1 := draw1_ro hx h1
    subst e1
    have e2 := draw1_ro hy h2
    subst e2
    exact ⟨_, h2, h1⟩

/-- The steps change places. -/
theorem step_comm {i p : Nat} {oi op : IOper} {di dp : Ord} (ha : Apart i p oi di op dp) {D D1 D2 : DSt} (hbi : allocs oi.op = true → b0 + di.slot.getD 0 < D.σ.length) (hbp : allocs op.op = true → b0 + dp.slot.getD 0 < D.σ.length)
    (hil : i < D.log.length) (hi0 : D.log.getD i (Fp.nil, []) = (Fp.nil, [])) (h1 : dstep go G b0 i oi di D = some D1) (h2 : dstep go G b0 p op dp D1 = some D2) :
    ∃ D3, dstep go G b0 p op dp D = some D3 ∧ dstep go G b0 i oi di D3 = some D2 := by
  unfold dstep at h1
  split at h1
  · cases h1
  rename_i vi σ1 fi ei hdi
  simp only [Option.ite_none_left_eq_some, Option.some.injEq] at h1
  obtain ⟨n1, rfl⟩ := h1
  unfold dstep at h2
  simp only at h2
  have htm : ∀ t ∈ op.reads, (putT D.tm oi.dst vi).getD t .any = D.tm.getD t .any := fun t ht => putT_get (fun e => ha.d1 t e ht)
  rw [draw1_congr htm] at h2
  split at h2
  · cases h2
  rename_i vp σ2 fq ep hdp
  simp only [Option.ite_none_left_eq_some, Option.some.injEq] at h2
  obtain ⟨n2, rfl⟩ := h2
  have hget : ∀ k (x : Fp × Esc), (D.log.set i x).getD k (Fp.nil, []) = if k = i then x else D.log.getD k (Fp.nil, []) := by
    intro k x
    simp only [List.getD_eq_getElem?_getD, List.getElem?_set]
    by_cases e : i = k
    · subst e; simp [hil]
    · rw [if_neg e, if_neg (Ne.symm e)]
  have hcl : p ∈ di.cx → clash fq fi = false := by
    intro hx
    have hm := ha.cx.1 hx
    cases hc : clash fq fi with
    | false => rfl
    | true =>
      exact absurd (List.any_eq_true.2 ⟨i, hm, by rw [hget, if_pos rfl]; exact hc⟩) n2
  obtain ⟨σ3, k1, k2⟩ := draw_comm ha hbi hbp hdi hdp hcl
  have htm2 : ∀ t ∈ oi.reads, (putT D.tm op.dst vp).getD t .any = D.tm.getD t .any := fun t ht => putT_get (fun e => ha.d2 t e ht)
  refine ⟨⟨putT D.tm op.dst vp, σ3, D.log.set p (fq, ep)⟩, ?_, ?_⟩
  · unfold dstep
    rw [k1]
    simp only
    rw [if_neg]
    intro hc
    obtain ⟨k, hk, hck⟩ := List.any_eq_true.1 hc
    apply n2
    refine List.any_eq_true.2 ⟨k, hk, ?_⟩
    rw [hget]
    split
    · rename_i e
      subst e
      rw [hi0] at hck
      have h0 : clash fq Fp.nil = false := by
        simp only [clash, Fp.nil, meets]
        simp
      rw [h0] at hck
      cases hck
    · exact hck
  · unfold dstep
    simp only
    rw [draw1_congr htm2, k2]
    simp only
    rw [if_neg]
    · congr 2
      · exact (putT_comm D.tm vi vp ha.dd).symm
      · exact List.set_comm _ _ (Ne.symm ha.ne)
    · intro hc
      obtain ⟨k, hk, hck⟩ := List.any_eq_true.1 hc
      by_cases e : k = p
      · subst e
        have := hcl hk
        rw [clash_symm] at this
        have hkl : ∀ x, (D.log.set k x).getD k (Fp.nil, []) = x ∨ (D.log.set k x).getD k (Fp.nil, []) = (Fp.nil, []) := by
          intro x
          simp only [List.getD_eq_getElem?_getD, List.getElem?_set]
          rcases Nat.lt_or_ge k D.log.length with h | h
          · left; simp [h]
          · right; simp [Nat.not_lt.2 h]
        rcases hkl (fq, ep) with e | e
        · rw [e] at hck
          simp only at hck
          rw [this] at hck
          cases hck
        · rw [e] at hck
          simp only [clash, Fp.nil, meets] at hck
          simp at hck
      · apply n1
        refine List.any_eq_true.2 ⟨k, hk, ?_⟩
        have : (D.log.set p (fq, ep)).getD k (Fp.nil, []) = D.log.getD k (Fp.nil, []) := by
          simp only [List.getD_eq_getElem?_getD]
          rw [List.getElem?_set_ne (Ne.symm e)]
        rw [this] at hck
        exact hck
end
end Go.Ev
