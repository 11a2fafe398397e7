/-
  Values that are handed on: as they stand, and frozen.
-/
import Derived.Test.YthajiefjebcobaaDoorEvOp3
set_option linter.all false
set_option linter.unusedSimpArgs false
set_option linter.unusedVariables false
namespace Go.Ev
open Go

/-- The same objects, rows frozen further. -/
structure Raise (σ σ' : Store) : Prop where
  len : σ'.length = σ.length
  row : ∀ (id gen esz fz : Nat) (xs : List V), σ[id]? = some (.row gen esz fz xs) → ∃ fz', fz ≤ fz' ∧ (fz ≤ xs.length → fz' ≤ xs.length) ∧ σ'[id]? = some (.row gen esz fz' xs)
  oth : ∀ (id : Nat) (o : Obj), σ[id]? = some o → (∀ (gen esz fz : Nat) (xs : List V), o ≠ .row gen esz fz xs) → σ'[id]? = some o

theorem Raise.refl (σ : Store) : Raise σ σ := ⟨rfl, fun _ gen esz fz xs h => ⟨fz, Nat.le_refl _, fun h => h, h⟩, fun _ _ h _ => h⟩
theorem Raise.trans {σ σ' σ'' : Store} (h : Raise σ σ') (h' : Raise σ' σ'') : Raise σ σ'' := by
  refine ⟨h'.len.trans h.len, fun id gen esz fz xs ho => ?_, fun id o ho hn => h'.oth id o (h.oth id o ho hn) hn⟩
  obtain ⟨fz', h1, h2, h3⟩ := h.row id gen esz fz xs ho
  obtain ⟨fz'', h4, h5, h6⟩ := h'.row id gen esz fz' xs h3
  exact ⟨fz'', Nat.le_trans h1 h4, fun h => h5 (h2 h), h6⟩

theorem Raise.back {σ σ' : Store} (h : Raise σ σ') {id gen esz fz' : Nat} {xs : List V} (ho : σ'[id]? = some (.row gen esz fz' xs)) :
    ∃ fz, fz ≤ fz' ∧ σ[id]? = some (.row gen esz fz xs) ∧ (fz ≤ xs.length → fz' ≤ xs.length) := by
  have hlt : id < σ.length := by have := (List.getElem?_eq_some_iff.1 ho).1; rw [h.len] at this; exact this
  cases hx : σ[id]? with
  | none => rw [List.getElem?_eq_none_iff] at hx; omega
  | some o =>
    cases o with
    | row gen1 esz1 fz1 xs1 =>
      obtain ⟨fz2, h1, h2, h3⟩ := h.row id _ _ _ _ hx
      rw [ho] at h3
      simp only [Option.some.injEq, Obj.row.injEq] at h3
      obtain ⟨rfl, rfl, rfl, rfl⟩ := h3
      exact ⟨fz1, h1, rfl, h2⟩
    | _ =>
      have := h.oth id _ hx (by simp)
      rw [ho] at this
      cases this

theorem Raise.frzRow (id upto : Nat) (σ : Store) : Raise σ (frzRow id upto σ) := by
  unfold Go.Ev.frzRow
  split
  rotate_left
  · exact Raise.refl σ
  rename_i gen esz fz xs ho
  have hlt := (List.getElem?_eq_some_iff.1 ho).1
  refine ⟨by simp, fun i gen1 esz1 fz1 xs1 h1 => ?_, fun i o h1 hn => ?_⟩
  · rw [List.getElem?_set]
    by_cases e : id = i
    · subst e
      rw [ho] at h1
      simp only [Option.some.injEq, Obj.row.injEq] at h1
      obtain ⟨rfl, rfl, rfl, rfl⟩ := h1
      exact ⟨max fz (min upto xs.length), Nat.le_max_left _ _, fun h => by omega, by simp [hlt]⟩
    · exact ⟨fz1, Nat.le_refl _, fun h => h, by rw [if_neg e]; exact h1⟩
  · rw [List.getElem?_set]
    by_cases e : id = i
    · subst e
      rw [ho] at h1
      cases h1
      exact absurd rfl (hn _ _ _ _)
    · rw [if_neg e]; exact h1

theorem Raise.fold {α : Type} (f : α → Store → Store) (hf : ∀ x s, Raise s (f x s)) : ∀ (l : List α) (s : Store), Raise s (l.foldl (fun s x => f x s) s)
  | [], s => Raise.refl s
  | x :: l, s => (hf x s).trans (Raise.fold f hf l (f x s))

theorem Raise.frz : ∀ (n : Nat) (v : V) (σ : Store), Raise σ (frz n v σ)
  | 0, _, σ => Raise.refl σ
  | n + 1, v, σ => by
    unfold Go.Ev.frz
    split
    · exact Raise.refl σ
    · split
      · rename_i id g off len hnr
        dsimp only
        split
        · split
          · exact Raise.frzRow _ _ _
          · exact (Raise.frzRow _ _ _).trans (Raise.fold _ (fun x s => Raise.frz n x s) _ _)
        · exact Raise.frzRow _ _ _
      · exact Raise.fold _ (fun x s => Raise.frz n x s) _ _
      · exact Raise.fold _ (fun x s => Raise.frz n x s) _ _
      · exact Raise.fold _ (fun x s => Raise.frz n x s) _ _
      · exact Raise.fold _ (fun x s => Raise.frz n x s) _ _
      · exact Raise.frz n _ σ
      · exact Raise.refl σ

/-- What rows froze is never written. -/
def Gh.frozen (g : Gh) (σ : Store) : Gh :=
  { g with I := fun b j => g.I b j ∨ ∃ (id gen esz fz : Nat) (xs : List V), σ[id]? = some (.row gen esz fz xs) ∧ b = g.blk id ∧ j < fz * esz }

section
variable {P : Program} {C : Cfg} {G : List (List V)} {g : Gh} {σ σ1 : Store} {w : World}

theorem le_frozen (hI : Inv C g σ w G) (hr : Raise σ σ1) : Le g σ w (g.frozen σ1) σ1 w := by
  refine ⟨rfl, fun _ _ h => .inl h, fun _ _ _ => rfl, fun id o ho hf => ?_, fun b j hj => ?_, fun _ _ => rfl, Nat.le_refl _, rfl, rfl, rfl⟩
  · cases o with
    | row gen esz fz xs =>
      obtain ⟨fz', h1, h2, h3⟩ := hr.row id _ _ _ _ ho
      exact ⟨_, h3, Nat.le_refl _, rfl, fun _ => ⟨rfl, rfl, Nat.le_refl _⟩⟩
    | _ => exact ⟨_, hr.oth id _ ho (by simp), by simp [ObjLe, Gh.frozen]⟩
  · rcases hj with hj | ⟨id, gen, esz, fz, xs, ho, rfl, -⟩
    · exact .inl hj
    · obtain ⟨fz0, -, h1, -⟩ := hr.back ho
      exact .inr (hI.rng id _ h1 (by simp)).1

theorem inv_frozen (hI : Inv C g σ w G) (hr : Raise σ σ1) : Inv C (g.frozen σ1) σ1 w G := by
  have hle := le_frozen (C := C) (G := G) hI hr
  have hrow : ∀ (id : Nat) (o : Obj), σ[id]? = some o → o ≠ .free → (∀ gen esz fz xs, o ≠ .row gen esz fz xs) → ∀ j, (g.frozen σ1).I (g.blk id) j → g.I (g.blk id) j := by
    intro id o ho hf hn j hj
    rcases hj with hj | ⟨id2, gen, esz, fz, xs, h1, e, -⟩
    · exact hj
    · obtain ⟨fz0, -, h2, -⟩ := hr.back h1
      have := hI.inj id id2 o _ ho h2 hf (by simp) e
      subst this
      rw [h2] at ho
      cases ho
      exact absurd rfl (hn _ _ _ _)
  refine ⟨hI.lo, fun id o ho => ?_, fun id o ho hf => ?_, fun i j a b ha hb hfa hfb e => ?_, fun b j hb => ?_, fun n cs hc => (hI.glob n cs hc).mono hle⟩
  · have hlt : id < σ.length := by have := (List.getElem?_eq_some_iff.1 ho).1; rw [hr.len] at this; exact this
    cases hx : σ[id]? with
    | none => rw [List.getElem?_eq_none_iff] at hx; omega
    | some o0 =>
      cases o0 with
      | row gen esz fz xs =>
        obtain ⟨fz', h1, h2, h3⟩ := hr.row id _ _ _ _ hx
        rw [ho] at h3
        cases h3
        obtain ⟨us, t, k1, k2, k3, k4, k5, k6, k7, k8, k9⟩ := hI.obj id _ hx
        refine ⟨us, t, k1, k2, k3, k4, k5, k6.mono hle, k7, h2 k8, fun j hj => ?_⟩
        rcases hj with hj | ⟨id2, gen2, esz2, fz2, xs2, h4, e, h5⟩
        · exact Nat.lt_of_lt_of_le (k9 j hj) (Nat.mul_le_mul_right esz h1)
        · obtain ⟨fz0, -, h6, -⟩ := hr.back h4
          have := hI.inj id id2 _ _ hx h6 (by simp) (by simp) e
          subst this
          rw [ho] at h4
          cases h4
          exact h5
      | free =>
        have := hr.oth id _ hx (by simp)
        rw [ho] at this
        cases this
        exact True.intro
      | _ =>
        have := hr.oth id _ hx (by simp)
        rw [ho] at this
        cases this
        exact (hI.obj id _ hx).keep hle rfl rfl rfl (hrow id _ hx (by simp) (by simp))
  · cases o with
    | row gen esz fz xs =>
      obtain ⟨fz0, -, h1, -⟩ := hr.back ho
      exact hI.rng id _ h1 (by simp)
    | _ =>
      have hlt : id < σ.length := by have := (List.getElem?_eq_some_iff.1 ho).1; rw [hr.len] at this; exact this
      cases hx : σ[id]? with
      | none => rw [List.getElem?_eq_none_iff] at hx; omega
      | some o0 =>
        refine hI.rng id o0 hx ?_
        rintro rfl
        have := hr.oth id _ hx (by simp)
        rw [ho] at this
        cases this <;> exact hf rfl
  · have get : ∀ (i : Nat) (a : Obj), σ1[i]? = some a → a ≠ .free → ∃ a0, σ[i]? = some a0 ∧ a0 ≠ .free := by
      intro i a ha hfa
      have hlt : i < σ.length := by have := (List.getElem?_eq_some_iff.1 ha).1; rw [hr.len] at this; exact this
      cases hx : σ[i]? with
      | none => rw [List.getElem?_eq_none_iff] at hx; omega
      | some o0 =>
        refine ⟨o0, rfl, ?_⟩
        rintro rfl
        have := hr.oth i _ hx (by simp)
        rw [ha] at this
        cases this
        exact hfa rfl
    obtain ⟨a0, ha0, hfa0⟩ := get i a ha hfa
    obtain ⟨b0, hb0, hfb0⟩ := get j b hb hfb
    exact hI.inj i j a0 b0 ha0 hb0 hfa0 hfb0 e
  · rcases hb with hb | ⟨id, gen, esz, fz, xs, ho, rfl, -⟩
    · exact hI.imm b j hb
    · obtain ⟨fz0, -, h1, -⟩ := hr.back ho
      exact (hI.rng id _ h1 (by simp)).2

/-! ### What a list is turned into, one by one -/
theorem optAll_some {α β : Type} {f : α → Option β} {l : List α} {r : List β} (h : optAll f l = some r) : r.length = l.length ∧ ∀ (i : Nat) (x : α), l[i]? = some x → ∃ y, r[i]? = some y ∧ f x = some y := by
  induction l generalizing r with
  | nil => simp only [optAll, Option.some.injEq] at h; subst h; exact ⟨rfl, fun i x hx => by simp at hx⟩
  | cons a l ih =>
    simp only [optAll] at h
    split at h
    rotate_left
    · cases h
    rename_i y hy
    split at h
    rotate_left
    · cases h
    rename_i ys hys
    simp only [Option.some.injEq] at h
    subst h
    obtain ⟨h1, h2⟩ := ih hys
    refine ⟨by simp [h1], fun i x hx => ?_⟩
    cases i with
    | zero => simp at hx; subst hx; exact ⟨y, by simp, hy⟩
    | succ i => simpa using h2 i x (by simpa using hx)

/-- How a value's shape stays. -/
theorem snap_shape : ∀ {n : Nat} {x y : V}, snap n σ x = some y → (∃ cs ds, x = .agg cs ∧ y = .agg ds ∧ ds.length = cs.length) ∨ ((∀ cs, x ≠ .agg cs) ∧ ∀ ds, y ≠ .agg ds)
  | 0, x, y, h => by
    simp only [snap, Option.ite_none_right_eq_some, Option.some.injEq] at h
    obtain ⟨-, rfl⟩ := h
    cases x <;> first | exact .inl ⟨_, _, rfl, rfl, rfl⟩ | exact .inr ⟨by simp, by simp⟩
  | n + 1, x, y, h => by
    simp only [snap] at h
    split at h
    · simp only [Option.some.injEq] at h
      subst h
      cases x <;> first | exact .inl ⟨_, _, rfl, rfl, rfl⟩ | exact .inr ⟨by simp, by simp⟩
    · cases x with
      | agg cs =>
        simp only at h
        split at h
        rotate_left
        · cases h
        rename_i l hl
        simp only [Option.some.injEq] at h
        subst h
        exact .inl ⟨_, _, rfl, rfl, (optAll_some hl).1⟩
      | _ =>
        refine .inr ⟨by simp, fun ds e => ?_⟩
        subst e
        simp only at h
        repeat' (first | contradiction | (cases h; done) | split at h)

theorem cells_not_agg {x : V} (h : ∀ cs, x ≠ .agg cs) : x.cells = [x] := by cases x <;> first | rfl | exact absurd rfl (h _)

/-- It is frozen by s1, as far as it must. -/
def Fz (n : Nat) (σ σ1 : Store) (v : V) : Prop := v.norow = true ∨ ∃ s, Raise σ s ∧ Raise (frz n v s) σ1

theorem norowL_mem : ∀ {l : List V}, V.norowL l = true → ∀ x ∈ l, x.norow = true
  | [], _, x, hx => by simp at hx
  | a :: l, h, x, hx => by
    simp only [V.norowL, Bool.and_eq_true] at h
    rcases List.mem_cons.1 hx with rfl | hx
    · exact h.1
    · exact norowL_mem h.2 x hx

theorem fold_fz {n : Nat} : ∀ {l : List V} {s : Store}, Raise σ s → Raise (l.foldl (fun s x => frz n x s) s) σ1 → ∀ x ∈ l, Fz n σ σ1 x
  | [], s, _, _, x, hx => by simp at hx
  | a :: l, s, h, h1, x, hx => by
    rcases List.mem_cons.1 hx with rfl | hx
    · exact .inr ⟨s, h, (Raise.fold _ (fun x s => Raise.frz n x s) l _).trans h1⟩
    · exact fold_fz (h.trans (Raise.frz n a s)) h1 x hx

theorem fz_list {n : Nat} {v : V} {l : List V} (hn : v.norow = true → V.norowL l = true) (hf : v.norow = false → ∀ s, frz (n + 1) v s = l.foldl (fun s x => frz n x s) s) (h : Fz (n + 1) σ σ1 v) : ∀ x ∈ l, Fz n σ σ1 x := by
  intro x hx
  cases hv : v.norow with
  | true => exact .inl (norowL_mem (hn hv) x hx)
  | false =>
    rcases h with h | ⟨s, h1, h2⟩
    · rw [hv] at h; cases h
    · rw [hf hv] at h2
      exact fold_fz h1 h2 x hx

theorem VRel.noMode {m : Md} {xs : List V} {u : Value} (h : VRel C g σ w (.sl m xs) u) : VRel C g σ w (.sl .any xs) u := by
  cases h with
  | slnil => exact .slnil _ (.inr (.inl rfl))
  | sl _ _ a c n us hn hm hf hc hx hu => exact .sl _ _ a c n us hn (by simp) (by simp) hc hx hu

theorem snap_all {n : Nat} (ih : ∀ {v v' : V} {u : Value}, snap n σ v = some v' → Fz n σ σ1 v → VRel C g σ w v u → VRel C (g.frozen σ1) σ1 w v' u) {l l' : List V} {us : List Value}
    (h : optAll (snap n σ) l = some l') (hf : ∀ x ∈ l, Fz n σ σ1 x) (hr : VRels C g σ w l us) : VRels C (g.frozen σ1) σ1 w l' us := by
  obtain ⟨h1, h2⟩ := optAll_some h
  have hl := hr.length
  refine VRels.mk (by omega) fun i y u hy hu => ?_
  have hi := (List.getElem?_eq_some_iff.1 hy).1
  obtain ⟨x, hx⟩ : ∃ x, l[i]? = some x := ⟨l[i]'(by omega), List.getElem?_eq_getElem (by omega)⟩
  obtain ⟨y', hy', e⟩ := h2 i x hx
  rw [hy] at hy'
  cases hy'
  obtain ⟨u', hu', hr'⟩ := hr.get hx
  rw [hu] at hu'
  cases hu'
  exact ih e (hf x (List.mem_of_getElem? hx)) hr'

/-- An element's cells. -/
theorem snap_cells {n : Nat} (ih : ∀ {v v' : V} {u : Value}, snap n σ v = some v' → Fz n σ σ1 v → VRel C g σ w v u → VRel C (g.frozen σ1) σ1 w v' u) {x y : V} {us : List Value}
    (h : snap n σ x = some y) (hf : Fz n σ σ1 x) (hr : VRels C g σ w x.cells us) : VRels C (g.frozen σ1) σ1 w y.cells us ∧ y.cells.length = x.cells.length := by
  rcases snap_shape h with ⟨cs, ds, rfl, rfl, hl⟩ | ⟨h1, h2⟩
  · obtain ⟨us', e, hr'⟩ := inv_agg (ih h hf (.agg cs us hr))
    have e : us = us' := by simpa using e
    subst e
    exact ⟨hr', hl⟩
  · rw [cells_not_agg h1] at hr ⊢
    rw [cells_not_agg h2]
    obtain ⟨u, rfl, hv⟩ := hr.one
    exact ⟨.cons (ih h hf hv) .nil, rfl⟩

theorem snap_flat {n : Nat} (ih : ∀ {v v' : V} {u : Value}, snap n σ v = some v' → Fz n σ σ1 v → VRel C g σ w v u → VRel C (g.frozen σ1) σ1 w v' u) : ∀ {l l' : List V} {us : List Value},
    optAll (snap n σ) l = some l' → (∀ x ∈ l, Fz n σ σ1 x) → VRels C g σ w (l.flatMap V.cells) us → VRels C (g.frozen σ1) σ1 w (l'.flatMap V.cells) us ∧ l'.map (fun x => x.cells.length) = l.map (fun x => x.cells.length)
  | [], l', us, h, _, hr => by
    simp only [optAll, Option.some.injEq] at h
    subst h
    cases hr
    exact ⟨.nil, rfl⟩
  | x :: l, l', us, h, hf, hr => by
    simp only [optAll] at h
    split at h
    rotate_left
    · cases h
    rename_i y hy
    split at h
    rotate_left
    · cases h
    rename_i ys hys
    simp only [Option.some.injEq] at h
    subst h
    rw [List.flatMap_cons] at hr
    obtain ⟨ha, hb⟩ := hr.split
    obtain ⟨h1, h2⟩ := snap_cells ih hy (hf x (by simp)) ha
    obtain ⟨h3, h4⟩ := snap_flat ih hys (fun z hz => hf z (by simp [hz])) hb
    refine ⟨?_, by simp [h2, h4]⟩
    rw [List.flatMap_cons]
    have := h1.append h3
    rwa [List.take_append_drop] at this

theorem map_len_all {l l' : List V} {n : Nat} (h : l'.map (fun x => x.cells.length) = l.map (fun x => x.cells.length)) (hn : ∀ x ∈ l, x.cells.length = n) : ∀ y ∈ l', y.cells.length = n := by
  intro y hy
  have : y.cells.length ∈ l'.map (fun x => x.cells.length) := List.mem_map.2 ⟨y, hy, rfl⟩
  rw [h] at this
  obtain ⟨x, hx, e⟩ := List.mem_map.1 this
  rw [← e]; exact hn x hx

theorem snap_rel (hI : Inv C g σ w G) (hR : Raise σ σ1) : ∀ (n : Nat) {v v' : V} {u : Value}, snap n σ v = some v' → Fz n σ σ1 v → VRel C g σ w v u → VRel C (g.frozen σ1) σ1 w v' u
  | 0, v, v', u, h, _, hr => by
    simp only [snap, Option.ite_none_right_eq_some, Option.some.injEq] at h
    obtain ⟨-, rfl⟩ := h
    exact hr.mono (le_frozen hI hR)
  | n + 1, v, v', u, h, hf, hr => by
    have ih := @snap_rel hI hR n
    have hle := le_frozen (C := C) (G := G) hI hR
    simp only [snap] at h
    split at h
    · simp only [Option.some.injEq] at h
      subst h
      exact hr.mono hle
    · rename_i hnp
      cases v with
      | row id gn off len =>
        simp only at h
        split at h
        rotate_left
        · cases h
        rename_i gen esz fz xs hid
        simp only [Option.ite_none_right_eq_some] at h
        obtain ⟨eg, h⟩ := h
        obtain ⟨-, he⟩ := inv_row hr hid
        obtain ⟨e, hol⟩ := he eg
        obtain ⟨us, t, k1, k2, k3, k4, k5, k6, k7, k8, k9⟩ := hI.obj id _ hid
        -- what is frozen
        rcases hf with hf | ⟨s, hs1, hs2⟩
        · simp [V.norow] at hf
        obtain ⟨fs, hfs, -, hsid⟩ := hs1.row id _ _ _ _ hid
        have hslt : id < s.length := (List.getElem?_eq_some_iff.1 hsid).1
        have hra : Raise (frzRow id (off + len) s) σ1 ∧ ∀ x ∈ xs, Fz n σ σ1 x := by
          simp only [frz, V.norow, Bool.false_eq_true, if_false, hsid] at hs2
          split at hs2
          · rename_i hnr
            exact ⟨hs2, fun x hx => .inl (norowL_mem hnr x hx)⟩
          · exact ⟨(Raise.fold _ (fun x s => Raise.frz n x s) _ _).trans hs2, fold_fz (hs1.trans (Raise.frzRow _ _ _)) hs2⟩
        obtain ⟨hra, hfx⟩ := hra
        have hfrz : ∃ fz1, off + len ≤ fz1 ∧ σ1[id]? = some (.row gen esz fz1 xs) := by
          have : (frzRow id (off + len) s)[id]? = some (.row gen esz (max fs (min (off + len) xs.length)) xs) := by unfold Go.Ev.frzRow; rw [hsid]; simp [hslt]
          obtain ⟨fz1, h1, -, h2⟩ := hra.row id _ _ _ _ this
          exact ⟨fz1, by omega, h2⟩
        obtain ⟨fz1, hfz1, hid1⟩ := hfrz
        have hsome : ∃ ys, ((xs.drop off).take len).length = ys.length ∧ v' = .sl .any ys ∧ VRels C (g.frozen σ1) σ1 w (ys.flatMap V.cells) (((us.toList.take (xs.length * esz)).drop (off * esz)).take (len * esz)) ∧ ∀ y ∈ ys, y.cells.length = esz := by
          have hch : VRels C g σ w (((xs.drop off).take len).flatMap V.cells) (((us.toList.take (xs.length * esz)).drop (off * esz)).take (len * esz)) := by
            rw [flat_take (fun x hx => k7 x (List.mem_of_mem_drop hx)), flat_drop k7]
            exact (k6.drop _).take _
          have hlen : ∀ x ∈ (xs.drop off).take len, x.cells.length = esz := fun x hx => k7 x (List.mem_of_mem_drop (List.mem_of_mem_take hx))
          split at h
          rotate_left
          · cases h
          rename_i ys hys
          simp only [Option.some.injEq] at h
          split at hys
          · simp only [Option.some.injEq] at hys
            subst hys
            exact ⟨_, rfl, h.symm, hch.mono hle, hlen⟩
          · obtain ⟨h1, h2⟩ := snap_flat ih hys (fun x hx => hfx x (List.mem_of_mem_drop (List.mem_of_mem_take hx))) hch
            exact ⟨ys, (optAll_some hys).1.symm, h.symm, h1, map_len_all h2 hlen⟩
        obtain ⟨ys, hyl, rfl, hyr, hyn⟩ := hsome
        have hyl : ys.length = len := by rw [← hyl]; simp; omega
        rw [e, ← hyl]
        refine .sl .any ys _ _ esz _ hyn (by simp) (by simp) (by omega) hyr (fun j x hj => ?_)
        rw [List.getElem?_take] at hj
        split at hj
        rotate_left
        · cases hj
        rename_i hjl
        rw [List.getElem?_drop, List.getElem?_take] at hj
        split at hj
        rotate_left
        · cases hj
        refine ⟨.inr ⟨id, gen, esz, fz1, xs, hid1, rfl, ?_⟩, ?_⟩
        · have h1 : (off + ys.length) * esz ≤ fz1 * esz := Nat.mul_le_mul_right esz (by omega)
          rw [Nat.add_mul] at h1
          rw [hyl] at h1
          show off * esz + j < _
          omega
        · rw [Addr.add_mk, cell_of_row w _ _ _ _ _ k1]
          simpa using hj
      | sl m xs =>
        simp only [Option.some.injEq] at h
        subst h
        exact (VRel.noMode hr).mono hle
      | agg cs =>
        simp only at h
        split at h
        rotate_left
        · cases h
        rename_i l hl
        simp only [Option.some.injEq] at h
        subst h
        obtain ⟨us, rfl, hus⟩ := inv_agg hr
        exact .agg _ _ (snap_all ih hl (fz_list (v := .agg cs) (fun h => by simpa [V.norow] using h) (fun h s => by simp [frz, h]) hf) hus)
      | tup cs =>
        simp only at h
        split at h
        rotate_left
        · cases h
        rename_i l hl
        simp only [Option.some.injEq] at h
        subst h
        obtain ⟨us, rfl, hus⟩ := inv_tup hr
        exact .tup _ _ (snap_all ih hl (fz_list (v := .tup cs) (fun h => by simpa [V.norow] using h) (fun h s => by simp [frz, h]) hf) hus)
      | fn f cs =>
        simp only at h
        split at h
        rotate_left
        · cases h
        rename_i l hl
        simp only [Option.some.injEq] at h
        subst h
        cases hr with
        | fn _ _ F us hF hus =>
          exact .fn _ _ _ _ hF (snap_all ih hl (fz_list (v := .fn f cs) (fun h => by simpa [V.norow] using h) (fun h s => by simp [frz, h]) hf) hus)
      | ifc t x =>
        simp only at h
        split at h
        rotate_left
        · cases h
        rename_i l hl
        simp only [Option.some.injEq] at h
        subst h
        obtain ⟨T, z, rfl, hT, hz⟩ := inv_ifc hr
        refine .ifc _ _ _ _ hT (ih hl ?_ hz)
        have := fz_list (v := .ifc t x) (n := n) (l := [x]) (fun h => by simpa [V.norow, V.norowL] using h) (fun h s => by simp [frz, h]) hf
        exact this x (by simp)
      | any => cases h
      | skip => cases h
      | _ =>
        simp only [Option.some.injEq] at h
        subst h
        exact hr.mono hle

theorem handOn_raise {d : Nat} {vs as : List V} (h : handOn d σ vs = some (as, σ1)) : Raise σ σ1 := by
  unfold handOn at h
  split at h
  · simp only [Option.some.injEq, Prod.mk.injEq] at h
    rw [← h.2]
    exact Raise.refl σ
  · split at h
    · cases h
    · split at h
      · simp only [Option.some.injEq, Prod.mk.injEq] at h
        rw [← h.2]
        exact Raise.fold _ (fun x s => Raise.frz _ x s) _ _
      · cases h

theorem Raise.room {nid : Nat} (h : Raise σ σ1) (hr : Room σ nid) : Room σ1 nid := by
  rcases hr with hr | hr
  · exact .inl (by rw [h.len]; exact hr)
  · exact .inr (h.oth _ _ hr (by simp))

/-- Values handed on. -/
theorem handOn_ok (hI : Inv C g σ w G) {d : Nat} {vs as : List V} (h : handOn d σ vs = some (as, σ1)) :
    ∃ g', Inv C g' σ1 w G ∧ Le g σ w g' σ1 w ∧ (∀ us, VRels C g σ w vs us → VRels C g' σ1 w as us) ∧ (∀ us, VRels C g σ w (vs.flatMap V.cells) us → VRels C g' σ1 w (as.flatMap V.cells) us) ∧
      as.length = vs.length ∧ as.map (fun x => x.cells.length) = vs.map (fun x => x.cells.length) := by
  unfold handOn at h
  split at h
  · simp only [Option.some.injEq, Prod.mk.injEq] at h
    obtain ⟨rfl, rfl⟩ := h
    exact ⟨g, hI, Le.refl g σ w, fun _ h => h, fun _ h => h, rfl, rfl⟩
  · split at h
    · cases h
    · split at h
      rotate_left
      · cases h
      rename_i l hl
      simp only [Option.some.injEq, Prod.mk.injEq] at h
      obtain ⟨rfl, rfl⟩ := h
      have hR : Raise σ (vs.foldl (fun s x => frz DEEP x s) σ) := Raise.fold _ (fun x s => Raise.frz _ x s) _ _
      have hf := fold_fz (n := DEEP) (Raise.refl σ) (Raise.refl (vs.foldl (fun s x => frz DEEP x s) σ))
      have ih := fun {v v' : V} {u : Value} => @snap_rel C G g σ _ w hI hR DEEP v v' u
      have hmap : ∀ us, VRels C g σ w (vs.flatMap V.cells) us → _ := fun us hu => snap_flat ih hl hf hu
      refine ⟨g.frozen _, inv_frozen hI hR, le_frozen hI hR, fun us hu => snap_all ih hl hf hu, fun us hu => (hmap us hu).1, (optAll_some hl).1, ?_⟩
      apply List.ext_getElem?
      intro i
      obtain ⟨h1, h2⟩ := optAll_some hl
      rw [List.getElem?_map, List.getElem?_map]
      cases hx : vs[i]? with
      | none =>
        rw [List.getElem?_eq_none_iff] at hx
        rw [List.getElem?_eq_none (by omega)]
      | some x =>
        obtain ⟨y, hy, e⟩ := h2 i x hx
        rw [hy]
        simp only [Option.map_some, Option.some.injEq]
        rcases snap_shape e with ⟨cs, ds, rfl, rfl, hq⟩ | ⟨q1, q2⟩
        · exact hq
        · rw [cells_not_agg q1, cells_not_agg q2]; rfl
end
end Go.Ev
