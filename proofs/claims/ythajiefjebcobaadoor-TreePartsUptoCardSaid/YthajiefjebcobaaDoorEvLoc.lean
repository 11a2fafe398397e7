/-
  What an operation looks at: operands, objects.
-/
import Derived.Test.YthajiefjebcobaaDoorEvApp2
set_option linter.all false
set_option linter.unusedSimpArgs false
set_option linter.unusedVariables false
namespace Go.Ev

theorem foldl_congr {α β : Type} {f f' : β → α → β} : ∀ {l : List α} {b : β}, (∀ b, ∀ x ∈ l, f b x = f' b x) → l.foldl f b = l.foldl f' b
  | [], _, _ => rfl
  | x :: l, b, h => by
    rw [List.foldl_cons, List.foldl_cons, h b x (by simp), foldl_congr fun b y hy => h b y (by simp [hy])]

section
variable {r r' : Rd → V} {dr : Bool} {σ : Store} {nid : Nat}

theorem opt_congr {x : Option Rd} (h : ∀ y ∈ x.toList, r y = r' y) : x.map r = x.map r' := by
  cases x with
  | none => rfl
  | some y => simp [h y (by simp)]

theorem ev1_congr {op : IOp} (h : ∀ x ∈ op.rds, r x = r' x) : ev1 r dr σ nid op = ev1 r' dr σ nid op := by
  cases op <;> simp only [IOp.rds, List.mem_cons, List.not_mem_nil, or_false, forall_eq_or_imp, forall_eq, List.mem_append, List.mem_map] at h
  case build z ps =>
    have : (ps.map fun (o, s, x) => (o, s, r x)) = ps.map fun (o, s, x) => (o, s, r' x) := List.map_congr_left fun p hp => by
      obtain ⟨o, s, x⟩ := p
      simp only [Prod.mk.injEq, true_and]
      exact h x ⟨(o, s, x), hp, rfl⟩
    simp only [ev1, this]
  case bslice mu n esz ag z ps =>
    have : ps.foldl (fun l p => l.set p.1 (r p.2)) (List.replicate n (grp ag z)) = ps.foldl (fun l p => l.set p.1 (r' p.2)) (List.replicate n (grp ag z)) :=
      foldl_congr fun b p hp => by rw [h p.2 ⟨p, hp, rfl⟩]
    simp only [ev1, this]
  case mkf f cs =>
    have : cs.map r = cs.map r' := List.map_congr_left h
    simp only [ev1, this]
  case mn xs =>
    have : xs.map r = xs.map r' := List.map_congr_left h
    simp only [ev1, this]
  case mx xs =>
    have : xs.map r = xs.map r' := List.map_congr_left h
    simp only [ev1, this]
  case slc esz x lo hi mx =>
    obtain ⟨h0, h1⟩ := h
    have e1 := opt_congr (x := lo) fun y hy => h1 y (.inl (.inl hy))
    have e2 := opt_congr (x := hi) fun y hy => h1 y (.inl (.inr hy))
    have e3 := opt_congr (x := mx) fun y hy => h1 y (.inr hy)
    simp only [ev1, h0, e1, e2, e3]
  case slcs x lo hi =>
    obtain ⟨h0, h1⟩ := h
    have e1 := opt_congr (x := lo) fun y hy => h1 y (.inl hy)
    have e2 := opt_congr (x := hi) fun y hy => h1 y (.inr hy)
    simp only [ev1, h0, e1, e2]
  all_goals first | rfl | simp only [ev1, h]

theorem foot_congr {op : IOp} (h : ∀ x ∈ op.rds, r x = r' x) : foot r nid op = foot r' nid op := by
  cases op <;> simp only [IOp.rds, List.mem_cons, List.not_mem_nil, or_false, forall_eq_or_imp, forall_eq, List.mem_append, List.mem_map] at h <;> first | rfl | simp only [foot, h]

theorem escOf_congr {op : IOp} (h : ∀ x ∈ op.rds, r x = r' x) : escOf r σ nid op = escOf r' σ nid op := by
  cases op <;> simp only [IOp.rds, List.mem_cons, List.not_mem_nil, or_false, forall_eq_or_imp, forall_eq, List.mem_append, List.mem_map] at h
  case bslice mu n esz ag z ps =>
    have : (ps.map fun p => r p.2) = ps.map fun p => r' p.2 := List.map_congr_left fun p hp => h p.2 ⟨p, hp, rfl⟩
    simp only [escOf, this]
  all_goals first | rfl | simp only [escOf, h]

/-! ### Handing on what has no rows -/
theorem norowL_iff : ∀ {l : List V}, V.norowL l = true ↔ ∀ x ∈ l, x.norow = true
  | [] => by simp [V.norowL]
  | a :: l => by simp [V.norowL, norowL_iff (l := l)]

theorem optAll_congr {α β : Type} {f f' : α → Option β} : ∀ {l : List α}, (∀ x ∈ l, f x = f' x) → optAll f l = optAll f' l
  | [], _ => rfl
  | x :: l, h => by
    simp only [optAll, h x (by simp), optAll_congr (l := l) fun y hy => h y (by simp [hy])]

theorem snap_norow (σ σ2 : Store) : ∀ (n : Nat) (v : V), v.norow = true → snap n σ v = snap n σ2 v
  | 0, _, _ => rfl
  | n + 1, v, h => by
    have ih : ∀ {l : List V}, V.norowL l = true → optAll (snap n σ) l = optAll (snap n σ2) l := fun hl =>
      optAll_congr fun x hx => snap_norow σ σ2 n x (norowL_iff.1 hl x hx)
    simp only [snap]
    split
    · rfl
    · cases v <;> simp only [V.norow, Bool.false_eq_true] at h <;> first | rfl | (simp only [ih h]; done) | (simp only [snap_norow σ σ2 n _ h]; done)

theorem frz_norow (n : Nat) (v : V) (σ : Store) (h : v.norow = true) : frz n v σ = σ := by
  cases n with
  | zero => rfl
  | succ n => simp [frz, h]

theorem frzs_norow (n : Nat) : ∀ (l : List V) (σ : Store), V.norowL l = true → l.foldl (fun s x => frz n x s) σ = σ
  | [], _, _ => rfl
  | a :: l, σ, h => by
    simp only [V.norowL, Bool.and_eq_true] at h
    rw [List.foldl_cons, frz_norow n a σ h.1]
    exact frzs_norow n l σ h.2

/-- No rows: the store doesn't matter. -/
theorem handOn_zero {vs as : List V} {σ1 : Store} (h : handOn 0 σ vs = some (as, σ1)) : σ1 = σ ∧ ∀ σ2, handOn 0 σ2 vs = some (as, σ2) := by
  simp only [handOn] at h ⊢
  split at h
  · rename_i hp
    simp only [Option.some.injEq, Prod.mk.injEq] at h
    obtain ⟨rfl, rfl⟩ := h
    exact ⟨rfl, fun σ2 => by rw [if_pos hp]⟩
  · rename_i hp
    split at h
    · cases h
    · rename_i hn
      have hnr : V.norowL vs = true := by simpa using hn
      split at h
      rotate_left
      · cases h
      rename_i l hl
      simp only [Option.some.injEq, Prod.mk.injEq] at h
      obtain ⟨rfl, rfl⟩ := h
      refine ⟨frzs_norow DEEP vs σ hnr, fun σ2 => ?_⟩
      have e : optAll (snap DEEP σ2) vs = optAll (snap DEEP σ) vs := optAll_congr fun x hx => snap_norow σ2 σ DEEP x (norowL_iff.1 hnr x hx)
      rw [if_neg hp, if_neg (by simp [hnr]), e, hl, frzs_norow DEEP vs σ2 hnr]

/-! ### One row -/
/-- Two stores with the same objects at some numbers. -/
def Agree (σ σ2 : Store) (l : List Nat) : Prop := σ2.length = σ.length ∧ ∀ id ∈ l, σ2[id]? = σ[id]?

theorem Agree.mono {σ σ2 : Store} {l l' : List Nat} (h : Agree σ σ2 l) (hs : ∀ id ∈ l', id ∈ l) : Agree σ σ2 l' := ⟨h.1, fun id hid => h.2 id (hs id hid)⟩

/-- A step's place: what is changed lies in W; on another store that agrees there it does the same. -/
structure Moves (σ σ' : Store) (W : List Nat) : Prop where
  len : σ'.length = σ.length
  out : ∀ id, id ∉ W → σ'[id]? = σ[id]?

theorem Moves.refl (σ : Store) (W : List Nat) : Moves σ σ W := ⟨rfl, fun _ _ => rfl⟩
theorem Moves.set (σ : Store) (id : Nat) (o : Obj) : Moves σ (σ.set id o) [id] := ⟨by simp, fun k hk => by
  simp only [List.mem_singleton] at hk
  rw [List.getElem?_set_ne (Ne.symm hk)]⟩
theorem Moves.mono {σ σ' : Store} {W W' : List Nat} (h : Moves σ σ' W) (hs : ∀ id ∈ W, id ∈ W') : Moves σ σ' W' := ⟨h.len, fun id hid => h.out id fun hi => hid (hs id hi)⟩
theorem Moves.trans {σ σ' σ'' : Store} {W : List Nat} (h : Moves σ σ' W) (h' : Moves σ' σ'' W) : Moves σ σ'' W := ⟨h'.len.trans h.len, fun id hid => (h'.out id hid).trans (h.out id hid)⟩

theorem set_agree {σ σ2 : Store} {W : List Nat} (h : Agree σ σ2 W) (id : Nat) (o : Obj) : Agree (σ.set id o) (σ2.set id o) W := by
  refine ⟨by simp [h.1], fun k hk => ?_⟩
  rw [List.getElem?_set, List.getElem?_set, h.1]
  split
  · rfl
  · exact h.2 k hk

theorem put_agree {σ σ2 : Store} {W : List Nat} (h : Agree σ σ2 W) {nid : Nat} (hn : nid < σ.length) (o : Obj) : Agree (σ.put nid o) (σ2.put nid o) W := by
  unfold Store.put
  rw [if_neg (by omega), if_neg (by rw [h.1]; omega)]
  exact set_agree h nid o

theorem put_moves {σ : Store} {nid : Nat} (hn : nid < σ.length) (o : Obj) : Moves σ (σ.put nid o) [nid] := by
  unfold Store.put
  rw [if_neg (by omega)]
  exact Moves.set σ nid o

theorem frzRow_agree {σ σ2 : Store} {W : List Nat} (h : Agree σ σ2 W) {id : Nat} (hi : id ∈ W) (u : Nat) : Agree (frzRow id u σ) (frzRow id u σ2) W := by
  have e := h.2 id hi
  unfold frzRow
  rw [e]
  split
  · exact set_agree h _ _
  · exact h

theorem frzRow_moves (id u : Nat) (σ : Store) : Moves σ (frzRow id u σ) [id] := by
  unfold frzRow
  split
  · exact Moves.set _ _ _
  · exact Moves.refl _ _

theorem oneRow_agree {σ σ2 : Store} {v : V} (h : Agree σ σ2 v.ids) : oneRow σ2 v = oneRow σ v := by
  cases v <;> first | rfl | (simp only [oneRow, h.2 _ (List.mem_singleton.2 rfl)])

theorem snap_agree {σ σ2 : Store} {v : V} (h : Agree σ σ2 v.ids) (ho : oneRow σ v = true) (n : Nat) : snap (n + 1) σ2 v = snap (n + 1) σ v := by
  cases v
  case row id g off len =>
    have e := h.2 id (List.mem_singleton.2 rfl)
    simp only [snap, e]
    simp only [oneRow] at ho
    split
    · rfl
    · split
      rotate_left
      · rfl
      rename_i xs hid
      rw [hid] at ho
      simp only at ho
      have e2 : optAll (snap n σ2) ((xs.drop off).take len) = optAll (snap n σ) ((xs.drop off).take len) := optAll_congr fun x hx =>
        snap_norow σ2 σ n x (norowL_iff.1 ho x (List.mem_of_mem_drop (List.mem_of_mem_take hx)))
      rw [e2]
  all_goals exact snap_norow σ2 σ _ _ ho

theorem frz_agree {σ σ2 : Store} {W : List Nat} (h : Agree σ σ2 W) {v : V} (hs : ∀ id ∈ v.ids, id ∈ W) (ho : oneRow σ v = true) (n : Nat) :
    Agree (frz (n + 1) v σ) (frz (n + 1) v σ2) W ∧ Moves σ (frz (n + 1) v σ) v.ids := by
  cases v
  case row id g off len =>
    have e := h.2 id (hs id (List.mem_singleton.2 rfl))
    simp only [oneRow] at ho
    have key : ∀ s : Store, s[id]? = σ[id]? → frz (n + 1) (.row id g off len) s = frzRow id (off + len) s := by
      intro s es
      simp only [frz, V.norow, Bool.false_eq_true, if_false, es]
      split
      · rename_i hid
        rw [hid] at ho
        simp only at ho
        rw [if_pos ho]
      · rfl
    rw [key σ rfl, key σ2 e]
    exact ⟨frzRow_agree h (hs id (List.mem_singleton.2 rfl)) _, frzRow_moves _ _ _⟩
  all_goals
    rw [frz_norow _ _ σ ho, frz_norow _ _ σ2 ho]
    exact ⟨h, Moves.refl _ _⟩

theorem oneRow_raise {σ σ1 : Store} (h : Raise σ σ1) {v : V} (hv : oneRow σ v = true) : oneRow σ1 v = true := by
  cases v
  case row id g off len =>
    simp only [oneRow] at hv ⊢
    split at hv
    · rename_i hid
      obtain ⟨fz', -, -, h2⟩ := h.row _ _ _ _ _ hid
      rw [h2]
      exact hv
    · cases hv
  all_goals exact hv

theorem frzs_agree {W : List Nat} (n : Nat) : ∀ {vs : List V} {σ σ2 : Store}, Agree σ σ2 W → (∀ v ∈ vs, ∀ id ∈ v.ids, id ∈ W) → (∀ v ∈ vs, oneRow σ v = true) →
    Agree (vs.foldl (fun s x => frz (n + 1) x s) σ) (vs.foldl (fun s x => frz (n + 1) x s) σ2) W ∧ Moves σ (vs.foldl (fun s x => frz (n + 1) x s) σ) (vs.flatMap V.ids)
  | [], σ, σ2, h, _, _ => ⟨h, Moves.refl _ _⟩
  | v :: vs, σ, σ2, h, hs, ho => by
    obtain ⟨h1, h2⟩ := frz_agree h (hs v (by simp)) (ho v (by simp)) n
    have hr := Raise.frz (n + 1) v σ
    obtain ⟨h3, h4⟩ := frzs_agree n (vs := vs) h1 (fun x hx => hs x (by simp [hx])) (fun x hx => oneRow_raise hr (ho x (by simp [hx])))
    rw [List.foldl_cons, List.foldl_cons, List.flatMap_cons]
    exact ⟨h3, (h2.mono fun id hid => by simp [hid]).trans (h4.mono fun id hid => by simp only [List.mem_append]; exact .inr hid)⟩

theorem ids_pure : ∀ {v : V}, v.pure = true → v.ids = [] := by intro v h; cases v <;> first | rfl | exact absurd h Bool.false_ne_true

/-- Values with rows at their heads alone. -/
theorem handOn_one {σ σ1 σ2 : Store} {vs as : List V} {W : List Nat} (h : handOn 1 σ vs = some (as, σ1)) (ha : Agree σ σ2 W) (hs : ∀ id ∈ vs.flatMap V.ids, id ∈ W) :
    Moves σ σ1 (vs.flatMap V.ids) ∧ ∃ σ3, handOn 1 σ2 vs = some (as, σ3) ∧ Agree σ1 σ3 W := by
  simp only [handOn] at h ⊢
  split at h
  · rename_i hp
    simp only [Option.some.injEq, Prod.mk.injEq] at h
    obtain ⟨rfl, rfl⟩ := h
    exact ⟨Moves.refl _ _, σ2, by rw [if_pos hp], ha⟩
  · rename_i hp
    split at h
    · cases h
    · rename_i hn
      have hone : ∀ v ∈ vs, oneRow σ v = true := by
        have : vs.all (oneRow σ) = true := by simpa using hn
        exact List.all_eq_true.1 this
      have hv : ∀ v ∈ vs, ∀ id ∈ v.ids, id ∈ W := fun v hv id hid => hs id (List.mem_flatMap.2 ⟨v, hv, hid⟩)
      split at h
      rotate_left
      · cases h
      rename_i l hl
      simp only [Option.some.injEq, Prod.mk.injEq] at h
      obtain ⟨rfl, rfl⟩ := h
      obtain ⟨h1, h2⟩ := frzs_agree 11 ha hv hone
      refine ⟨h2, vs.foldl (fun s x => frz DEEP x s) σ2, ?_, h1⟩
      have e1 : vs.all (oneRow σ2) = true := List.all_eq_true.2 fun v hv' => by rw [oneRow_agree (ha.mono (hv v hv'))]; exact hone v hv'
      have e2 : optAll (snap DEEP σ2) vs = optAll (snap DEEP σ) vs := optAll_congr fun v hv' => snap_agree (ha.mono (hv v hv')) (hone v hv') 11
      rw [if_neg hp, if_neg (by simp [e1]), e2, hl]

/-! ### One operation -/
section
variable {r : Rd → V} {σ σ2 σ' : Store} {nid : Nat} {v : V}

theorem load_agree {n : Nat} {a : V} (h : Agree σ σ2 a.ids) : loadAt σ2 n a = loadAt σ n a := by
  cases a <;> first | rfl | (simp only [loadAt, h.2 _ (List.mem_singleton.2 rfl)])
theorem store_agree {n : Nat} {a x : V} (h : Agree σ σ2 a.ids) : storeAt σ2 n a x = storeAt σ n a x := by
  cases a <;> first | rfl | (simp only [storeAt, h.2 _ (List.mem_singleton.2 rfl)])
theorem store_id {n id : Nat} {a x : V} {o : Obj} (h : storeAt σ n a x = some (id, o)) : id ∈ a.ids := by
  unfold storeAt at h
  split at h
  rotate_left
  · cases h
  split at h
  · split at h
    · split at h
      · simp only [Option.some.injEq, Prod.mk.injEq] at h
        rw [← h.1]; exact List.mem_singleton.2 rfl
      · cases h
    · cases h
  · split at h
    · split at h
      · split at h
        · split at h
          · simp only [Option.some.injEq, Prod.mk.injEq] at h
            rw [← h.1]; exact List.mem_singleton.2 rfl
          · cases h
        · cases h
      · cases h
    · cases h
  · cases h
theorem elems_agree {a : V} (h : Agree σ σ2 a.ids) : elemsOf σ2 a = elemsOf σ a := by
  cases a <;> first | rfl | (simp only [elemsOf, h.2 _ (List.mem_singleton.2 rfl)])

/-- What an operation of a region that draws looks at and changes. -/
structure Local (r : Rd → V) (op : IOp) (σ : Store) (nid : Nat) (v : V) (σ' : Store) (R W : List Nat) : Prop where
  mv : Moves σ σ' W
  at_ : ∀ σ2, Agree σ σ2 (R ++ W) → ∃ σ3, ev1 r true σ2 nid op = some (v, σ3) ∧ Agree σ' σ3 (R ++ W)

theorem Local.same {op : IOp} {R W : List Nat} (h : ∀ σ2, Agree σ σ2 (R ++ W) → ev1 r true σ2 nid op = some (v, σ2)) : Local r op σ nid v σ R W :=
  ⟨Moves.refl _ _, fun σ2 h2 => ⟨σ2, h σ2 h2, h2⟩⟩

theorem okV_iff {σ σ' : Store} {x : Option V} {v : V} (hx : okV σ x = some (v, σ')) : x = some v ∧ σ' = σ := by
  cases x with
  | none => cases hx
  | some y => simp only [okV, Option.some.injEq, Prod.mk.injEq] at hx; exact ⟨by rw [hx.1], hx.2.symm⟩

theorem okV_map (σ σ2 : Store) (x : Option V) : okV σ2 x = okV σ2 ((okV σ x).map (·.1)) := by cases x <;> rfl

theorem Local.look {op : IOp} {R W : List Nat} (H : ∀ σ2, Agree σ σ2 (R ++ W) → ev1 r true σ2 nid op = okV σ2 ((ev1 r true σ nid op).map (·.1))) (h : ev1 r true σ nid op = some (v, σ')) : Local r op σ nid v σ' R W := by
  have h1 := H σ ⟨rfl, fun _ _ => rfl⟩
  rw [h] at h1
  simp only [Option.map_some, okV, Option.some.injEq, Prod.mk.injEq, true_and] at h1
  subst h1
  refine .same fun σ2 h2 => ?_
  rw [H σ2 h2, h]
  rfl

theorem ev1_local {op : IOp} (hn : allocs op = true → nid < σ.length) (h : ev1 r true σ nid op = some (v, σ')) : Local r op σ nid v σ' (foot r nid op).R (foot r nid op).W := by
  cases op
  case alloc cs =>
    simp only [ev1, Option.some.injEq, Prod.mk.injEq] at h
    obtain ⟨rfl, rfl⟩ := h
    have hlt := hn rfl
    exact ⟨put_moves hlt _, fun σ2 h2 => ⟨_, rfl, put_agree h2 hlt _⟩⟩
  case box n x =>
    simp only [ev1, Option.ite_none_right_eq_some, Option.some.injEq, Prod.mk.injEq] at h
    obtain ⟨hc, rfl, rfl⟩ := h
    have hlt := hn rfl
    exact ⟨put_moves hlt _, fun σ2 h2 => ⟨_, by simp only [ev1]; rw [if_pos hc], put_agree h2 hlt _⟩⟩
  case mkmap =>
    simp only [ev1, Option.some.injEq, Prod.mk.injEq] at h
    obtain ⟨rfl, rfl⟩ := h
    have hlt := hn rfl
    exact ⟨put_moves hlt _, fun σ2 h2 => ⟨_, rfl, put_agree h2 hlt _⟩⟩
  case rng x =>
    simp only [ev1] at h
    split at h
    · rename_i hx
      simp only [Option.some.injEq, Prod.mk.injEq] at h
      obtain ⟨rfl, rfl⟩ := h
      have hlt := hn rfl
      exact ⟨put_moves hlt _, fun σ2 h2 => ⟨_, by simp only [ev1, hx], put_agree h2 hlt _⟩⟩
    · cases h
  case nxt x =>
    simp only [ev1] at h
    split at h
    rotate_left
    · cases h
    rename_i id hx
    split at h
    rotate_left
    · cases h
    rename_i s pos hs
    have hids : (foot r nid (.nxt x)).W = [id] := by simp only [foot, hx, V.ids]
    split at h
    · rename_i hp
      simp only [Option.some.injEq, Prod.mk.injEq] at h
      obtain ⟨rfl, rfl⟩ := h
      rw [hids]
      refine ⟨Moves.set _ _ _, fun σ2 h2 => ⟨_, ?_, set_agree (h2.mono fun k hk => List.mem_append_right _ hk) _ _⟩⟩
      have := h2.2 id (List.mem_append_right _ (by simp))
      simp only [ev1, hx, this, hs, if_pos hp]
    · rename_i hp
      simp only [Option.some.injEq, Prod.mk.injEq] at h
      obtain ⟨rfl, rfl⟩ := h
      rw [hids]
      refine ⟨Moves.refl _ _, fun σ2 h2 => ⟨_, ?_, h2.mono fun k hk => List.mem_append_right _ hk⟩⟩
      have := h2.2 id (List.mem_append_right _ (by simp))
      simp only [ev1, hx, this, hs, if_neg hp]
  case bslice mu n esz ag z ps =>
    simp only [ev1] at h
    split at h
    rotate_left
    · cases h
    rename_i hc
    cases mu
    · simp only [Bool.false_eq_true, if_false, if_true] at h
      split at h
      rotate_left
      · cases h
      rename_i l σ1 hho
      simp only [Option.some.injEq, Prod.mk.injEq] at h
      obtain ⟨rfl, rfl⟩ := h
      obtain ⟨rfl, h0⟩ := handOn_zero hho
      exact .same fun σ2 _ => by simp only [ev1]; rw [if_pos hc]; simp only [Bool.false_eq_true, if_false, if_true, h0 σ2]
    · simp only [if_true, Option.some.injEq, Prod.mk.injEq] at h
      obtain ⟨rfl, rfl⟩ := h
      have hlt := hn rfl
      exact ⟨put_moves hlt _, fun σ2 h2 => ⟨_, by simp only [ev1]; rw [if_pos hc]; simp only [if_true], put_agree h2 hlt _⟩⟩
  case store n a x =>
    simp only [ev1] at h
    split at h
    rotate_left
    · cases h
    rename_i id o hs
    simp only [Option.some.injEq, Prod.mk.injEq] at h
    obtain ⟨rfl, rfl⟩ := h
    have hid := store_id hs
    refine ⟨(Moves.set σ id o).mono fun k hk => by simp only [List.mem_singleton] at hk; subst hk; exact hid, fun σ2 h2 => ⟨σ2.set id o, ?_, set_agree h2 _ _⟩⟩
    simp only [ev1, store_agree (h2.mono fun id hid => by simpa [foot] using hid), hs]
  case load ag n a =>
    refine .look (fun σ2 h2 => ?_) h
    simp only [ev1, load_agree (h2.mono fun id hid => by simpa [foot] using hid)]
    repeat' (first | rfl | split)
  case iaddr esz x i =>
    refine .look (fun σ2 h2 => ?_) h
    have h2 : Agree σ σ2 (r x).ids := h2.mono fun id hid => by simpa [foot] using hid
    simp only [ev1]
    generalize r x = vx at h2
    generalize r i = vi
    cases vx <;> cases vi <;> try rfl
    · dsimp only
      repeat' (first | rfl | split)
    · rename_i id _ _ _ _ _
      have e := h2.2 id (List.mem_singleton.2 rfl)
      simp only [e]
      repeat' (first | rfl | split)
  case len st x =>
    refine .look (fun σ2 h2 => ?_) h
    have h2 : Agree σ σ2 (r x).ids := h2.mono fun id hid => by simpa [foot] using hid
    simp only [ev1]
    generalize r x = vx at h2
    cases st <;> cases vx <;> try rfl
    rename_i id _ _ _
    have e := h2.2 id (List.mem_singleton.2 rfl)
    simp only [e]
    repeat' (first | rfl | split)
  case lkup kk ok z m k =>
    refine .look (fun σ2 h2 => ?_) h
    have h2 : Agree σ σ2 (r m).ids := h2.mono fun id hid => by simpa [foot] using hid
    simp only [ev1]
    generalize r m = vx at h2
    cases vx
    case mref =>
      have e := h2.2 _ (List.mem_singleton.2 rfl)
      simp only [e]
      repeat' (first | rfl | split)
    all_goals repeat' (first | rfl | split)
  case slc esz x lo hi mx =>
    cases mx with
    | none =>
      refine .look (fun σ2 h2 => ?_) h
      have h2 : Agree σ σ2 (r x).ids := h2.mono fun id hid => by simpa [foot] using hid
      simp only [ev1]
      generalize r x = vx at h2
      cases vx
      case row =>
        have e := h2.2 _ (List.mem_singleton.2 rfl)
        simp only [e, Option.isSome_none, Bool.false_eq_true, if_false]
        repeat' (first | rfl | split)
      all_goals
        dsimp only
        repeat' (first | rfl | split)
    | some mx =>
      simp only [ev1] at h
      generalize hvx : r x = vx at h
      cases vx <;> try (cases h; done)
      · refine .look (fun σ2 h2 => ?_) (by simp only [ev1, hvx]; exact h)
        simp only [ev1, hvx]
        try dsimp only
        repeat' (first | rfl | split)
      · rename_i id g off n
        dsimp only at h
        split at h
        rotate_left
        · cases h
        rename_i gen es fz xs hid
        split at h
        rotate_left
        · cases h
        rename_i L H Y hL hH hY
        split at h
        rotate_left
        · cases h
        rename_i hc
        simp only [Option.isSome_some, if_true, Option.ite_none_right_eq_some] at h
        obtain ⟨hYH, h⟩ := h
        split at h
        rotate_left
        · cases h
        rename_i md ys σ3 hho
        simp only [Option.some.injEq, Prod.mk.injEq] at h
        obtain ⟨rfl, rfl⟩ := h
        have hfoot : (foot r nid (.slc esz x lo hi (some mx))).R = [id] ∧ (foot r nid (.slc esz x lo hi (some mx))).W = [id] := by simp [foot, hvx, V.ids]
        rw [hfoot.1, hfoot.2]
        refine ⟨?_, fun σ2 h2 => ?_⟩
        · have := (handOn_one (W := [id]) hho ⟨rfl, fun _ _ => rfl⟩ (by simp [V.ids])).1
          simpa [V.ids] using this
        · obtain ⟨-, σ4, h3, h4⟩ := handOn_one (W := [id] ++ [id]) hho h2 (by simp [V.ids])
          refine ⟨σ4, ?_, h4⟩
          have e := h2.2 id (by simp)
          simp only [ev1, hvx, e, hid, hL, hH, hY]
          rw [if_pos hc]
          simp only [Option.isSome_some, if_true]
          rw [if_pos hYH, h3]
  case app esz bytes x y =>
    simp only [ev1] at h
    split at h
    · cases h
    rename_i es hes
    split at h
    · cases h
    rename_i ns σ1 hho
    obtain ⟨rfl, h0⟩ := handOn_zero hho
    split at h
    rotate_left
    · cases h
    rename_i hones
    have hes2 : ∀ σ2, Agree σ1 σ2 ((foot r nid (.app esz bytes x y)).R ++ (foot r nid (.app esz bytes x y)).W) → elemsOf σ2 (r y) = some es ∧ (∀ id ∈ (r x).ids, σ2[id]? = σ1[id]?) := by
      intro σ2 h2
      exact ⟨by rw [elems_agree (h2.mono fun id hid => by simp only [foot, List.mem_append]; exact .inl hid)]; exact hes, fun id hid => h2.2 id (by simp only [foot, List.mem_append, List.mem_cons]; exact .inr (.inr hid))⟩
    have hlt := hn rfl
    generalize hvx : r x = vx at h
    cases vx <;> try (cases h; done)
    · rename_i m xs
      dsimp only at h
      split at h
      rotate_left
      · cases h
      rename_i hc
      split at h
      · rename_i hemp
        simp only [Option.some.injEq, Prod.mk.injEq] at h
        obtain ⟨rfl, rfl⟩ := h
        refine .same fun σ2 h2 => ?_
        obtain ⟨e1, e2⟩ := hes2 σ2 h2
        simp only [ev1, e1, if_true, h0 σ2, hones, hvx]
        rw [if_pos hc, if_pos hemp]
      · rename_i hemp
        split at h
        rotate_left
        · cases h
        rename_i hox
        simp only [Option.some.injEq, Prod.mk.injEq] at h
        obtain ⟨rfl, rfl⟩ := h
        refine ⟨(put_moves hlt _).mono fun k hk => by simp only [List.mem_singleton] at hk; subst hk; simp [foot], fun σ2 h2 => ⟨σ2.put nid _, ?_, put_agree h2 hlt _⟩⟩
        obtain ⟨e1, e2⟩ := hes2 σ2 h2
        simp only [ev1, e1, if_true, h0 σ2, hones, hvx]
        rw [if_pos hc, if_neg hemp, if_pos hox]
    · rename_i id g off n
      dsimp only at h
      split at h
      rotate_left
      · cases h
      rename_i gen es' fz xs hid
      split at h
      rotate_left
      · cases h
      rename_i hc
      have hidm : id ∈ (r x).ids := by rw [hvx]; exact List.mem_singleton.2 rfl
      have hmv : ∀ o, Moves σ1 (σ1.set id o) (foot r nid (.app esz bytes x y)).W := fun o => (Moves.set σ1 id o).mono fun k hk => by
        simp only [List.mem_singleton] at hk
        subst hk
        simp only [foot, List.mem_cons]
        exact .inr hidm
      have hev : ∀ σ2, Agree σ1 σ2 ((foot r nid (.app esz bytes x y)).R ++ (foot r nid (.app esz bytes x y)).W) → ev1 r true σ2 nid (.app esz bytes x y) =
          if ns.isEmpty then some (.row id g 0 n, σ2) else if n + ns.length ≤ xs.length then
            if fz ≤ n then some (.row id g 0 (n + ns.length), σ2.set id (.row gen es' fz (xs.take n ++ ns ++ xs.drop (n + ns.length)))) else none
          else if n = xs.length then some (.row id (gen + 1) 0 (n + ns.length), σ2.set id (.row (gen + 1) es' fz (xs ++ ns)))
          else none := by
        intro σ2 h2
        obtain ⟨e1, e2⟩ := hes2 σ2 h2
        have e3 := e2 id hidm
        simp only [ev1, e1, if_true, h0 σ2, hones, hvx, e3, hid]
        rw [if_pos hc]
      split at h
      · rename_i hemp
        simp only [Option.some.injEq, Prod.mk.injEq] at h
        obtain ⟨rfl, rfl⟩ := h
        exact .same fun σ2 h2 => by rw [hev σ2 h2, if_pos hemp]
      · rename_i hemp
        split at h
        · rename_i hfit
          split at h
          rotate_left
          · cases h
          rename_i hfz
          simp only [Option.some.injEq, Prod.mk.injEq] at h
          obtain ⟨rfl, rfl⟩ := h
          exact ⟨hmv _, fun σ2 h2 => ⟨_, by rw [hev σ2 h2, if_neg hemp, if_pos hfit, if_pos hfz], set_agree h2 _ _⟩⟩
        · rename_i hfit
          split at h
          rotate_left
          · cases h
          rename_i hnx
          simp only [Option.some.injEq, Prod.mk.injEq] at h
          obtain ⟨rfl, rfl⟩ := h
          exact ⟨hmv _, fun σ2 h2 => ⟨_, by rw [hev σ2 h2, if_neg hemp, if_neg hfit, if_pos hnx], set_agree h2 _ _⟩⟩
  case clr z x =>
    simp only [ev1] at h
    generalize hvx : r x = vx at h
    cases vx <;> try (cases h; done)
    · rename_i m xs
      refine .look (fun σ2 h2 => ?_) (by simp only [ev1, hvx]; exact h)
      simp only [ev1, hvx]
      cases xs <;> rfl
    · rename_i id g off n
      dsimp only at h
      split at h
      rotate_left
      · cases h
      rename_i gen es fz xs hid
      split at h
      rotate_left
      · cases h
      rename_i hc
      simp only [Option.some.injEq, Prod.mk.injEq] at h
      obtain ⟨rfl, rfl⟩ := h
      have hfoot : (foot r nid (.clr z x)).R = [] ∧ (foot r nid (.clr z x)).W = [id] := by simp [foot, hvx, V.ids]
      rw [hfoot.1, hfoot.2]
      refine ⟨Moves.set _ _ _, fun σ2 h2 => ⟨_, ?_, set_agree h2 _ _⟩⟩
      have e := h2.2 id (by simp)
      simp only [ev1, hvx, e, hid]
      rw [if_pos hc]
  case ins kk m k y =>
    simp only [ev1] at h
    generalize hvx : r m = vx at h
    cases vx <;> try (cases h; done)
    rename_i id
    dsimp only at h
    split at h
    rotate_left
    · cases h
    rename_i es hid
    split at h
    rotate_left
    · cases h
    rename_i hf
    simp only [Option.some.injEq, Prod.mk.injEq] at h
    obtain ⟨rfl, rfl⟩ := h
    have hfoot : (foot r nid (.ins kk m k y)).R = [] ∧ (foot r nid (.ins kk m k y)).W = [id] := by simp [foot, hvx, V.ids]
    rw [hfoot.1, hfoot.2]
    refine ⟨Moves.set _ _ _, fun σ2 h2 => ⟨_, ?_, set_agree h2 _ _⟩⟩
    have e := h2.2 id (by simp)
    simp only [ev1, hvx, e, hid, hf]
  all_goals
    refine .look (fun σ2 h2 => ?_) h
    simp only [ev1]
    repeat' (first | rfl | exact okV_map _ _ _ | split)
end
end
end Go.Ev
