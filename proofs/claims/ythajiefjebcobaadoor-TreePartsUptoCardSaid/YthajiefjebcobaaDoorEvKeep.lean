/-
  Elder objects lead to elder objects, but for what is noted.
-/
import Derived.Test.YthajiefjebcobaaDoorEvRun
set_option linter.all false
set_option linter.unusedSimpArgs false
set_option linter.unusedVariables false
namespace Go.Ev

mutual
theorem under_top : ∀ (v : V) (n : Nat), v.under n = true ↔ v.top ≤ n
  | .row .., n => by simp [V.under, V.top]; omega
  | .ptr .., n => by simp [V.under, V.top]; omega
  | .rptr .., n => by simp [V.under, V.top]; omega
  | .mref _, n => by simp [V.under, V.top]; omega
  | .sl _ xs, n => by simp only [V.under, V.top]; exact underL_top xs n
  | .iptr cs, n => by simp only [V.under, V.top]; exact underL_top cs n
  | .fn _ cs, n => by simp only [V.under, V.top]; exact underL_top cs n
  | .ifc _ v, n => by simp only [V.under, V.top]; exact under_top v n
  | .agg cs, n => by simp only [V.under, V.top]; exact underL_top cs n
  | .tup cs, n => by simp only [V.under, V.top]; exact underL_top cs n
  | .any, n => by simp [V.under, V.top]
  | .skip, n => by simp [V.under, V.top]
  | .int .., n => by simp [V.under, V.top]
  | .bool _, n => by simp [V.under, V.top]
  | .str _, n => by simp [V.under, V.top]
  | .nilp, n => by simp [V.under, V.top]
  | .nilf, n => by simp [V.under, V.top]
  | .nili, n => by simp [V.under, V.top]
theorem underL_top : ∀ (l : List V) (n : Nat), V.underL n l = true ↔ V.topL l ≤ n
  | [], n => by simp [V.underL, V.topL]
  | v :: l, n => by
    simp only [V.underL, V.topL, Bool.and_eq_true, under_top v n, underL_top l n]
    omega
end

theorem underL_iff {n : Nat} : ∀ {l : List V}, V.underL n l = true ↔ ∀ x ∈ l, x.under n = true
  | [] => by simp [V.underL]
  | a :: l => by simp [V.underL, underL_iff (l := l)]

theorem under_mono {n m : Nat} (h : n ≤ m) {v : V} (hv : v.under n = true) : v.under m = true := by
  rw [under_top] at hv ⊢; omega
theorem underL_mono {n m : Nat} (h : n ≤ m) {l : List V} (hv : V.underL n l = true) : V.underL m l = true := by
  rw [underL_top] at hv ⊢; omega

def Closed (σ : Store) (b : Nat) : Prop := ∀ (id : Nat) (o : Obj), id < b → σ[id]? = some o → o.under b = true

theorem pure_under : ∀ {v : V}, v.pure = true → ∀ n, v.under n = true
  | .any, h, _ => rfl
  | .skip, h, _ => rfl
  | .row .., h, _ => by cases h
  | .ptr .., h, _ => by cases h
  | .rptr .., h, _ => by cases h
  | .iptr _, h, _ => by cases h
  | .mref _, h, _ => by cases h
  | .sl m xs, h, n => by
    simp only [V.pure, Bool.and_eq_true] at h
    simp only [V.under]
    exact pureL_under h.2 n
  | .fn _ cs, h, n => by simp only [V.pure] at h; simp only [V.under]; exact pureL_under h n
  | .ifc _ v, h, n => by simp only [V.pure] at h; simp only [V.under]; exact pure_under h n
  | .agg cs, h, n => by simp only [V.pure] at h; simp only [V.under]; exact pureL_under h n
  | .tup cs, h, n => by simp only [V.pure] at h; simp only [V.under]; exact pureL_under h n
  | .int .., _, _ => rfl
  | .bool _, _, _ => rfl
  | .str _, _, _ => rfl
  | .nilp, _, _ => rfl
  | .nilf, _, _ => rfl
  | .nili, _, _ => rfl
where
  pureL_under : ∀ {l : List V}, V.pureL l = true → ∀ n, V.underL n l = true
  | [], _, _ => rfl
  | v :: l, h, n => by
    simp only [V.pureL, Bool.and_eq_true] at h
    simp only [V.underL, Bool.and_eq_true]
    exact ⟨pure_under h.1 n, pureL_under h.2 n⟩

theorem optAll_mem {α β : Type} {f : α → Option β} {l : List α} {r : List β} (h : optAll f l = some r) : ∀ y ∈ r, ∃ x ∈ l, f x = some y := by
  obtain ⟨h1, h2⟩ := optAll_some h
  intro y hy
  obtain ⟨i, hi, rfl⟩ := List.mem_iff_getElem.1 hy
  have hil : i < l.length := by omega
  obtain ⟨y', e1, e2⟩ := h2 i l[i] (List.getElem?_eq_getElem hil)
  rw [List.getElem?_eq_getElem hi] at e1
  simp only [Option.some.injEq] at e1
  exact ⟨l[i], List.getElem_mem hil, by rw [e1]; exact e2⟩

/-- Snapshots lead nowhere else. -/
theorem snap_under {σ : Store} {b : Nat} (hc : Closed σ b) : ∀ (n : Nat) {v v' : V}, snap n σ v = some v' → v.under b = true → v'.under b = true
  | 0, v, v', h, hu => by
    simp only [snap, Option.ite_none_right_eq_some, Option.some.injEq] at h
    obtain ⟨-, rfl⟩ := h
    exact hu
  | n + 1, v, v', h, hu => by
    have ih := @snap_under σ b hc n
    have ihL : ∀ {l l' : List V}, optAll (snap n σ) l = some l' → V.underL b l = true → V.underL b l' = true := by
      intro l l' hl hub
      rw [underL_iff] at hub ⊢
      intro y hy
      obtain ⟨x, hx, e⟩ := optAll_mem hl y hy
      exact ih e (hub x hx)
    simp only [snap] at h
    split at h
    · simp only [Option.some.injEq] at h
      subst h
      exact hu
    · cases v with
      | row id gn off len =>
        simp only at h
        split at h
        rotate_left
        · cases h
        rename_i gen esz fz xs hid
        simp only [Option.ite_none_right_eq_some] at h
        obtain ⟨-, h⟩ := h
        have hx : V.underL b xs = true := by
          have := hc id _ (by simpa [V.under] using hu) hid
          simpa [Obj.under] using this
        have hch : V.underL b ((xs.drop off).take len) = true := by
          rw [underL_iff] at hx ⊢
          exact fun x hx' => hx x (List.mem_of_mem_drop (List.mem_of_mem_take hx'))
        split at h
        rotate_left
        · cases h
        rename_i ys hys
        simp only [Option.some.injEq] at h
        subst h
        simp only [V.under]
        split at hys
        · simp only [Option.some.injEq] at hys
          subst hys
          exact hch
        · exact ihL hys hch
      | sl m xs =>
        simp only [Option.some.injEq] at h
        subst h
        exact hu
      | agg cs =>
        simp only at h
        split at h
        rotate_left
        · cases h
        rename_i l hl
        simp only [Option.some.injEq] at h
        subst h
        simp only [V.under] at hu ⊢
        exact ihL hl hu
      | tup cs =>
        simp only at h
        split at h
        rotate_left
        · cases h
        rename_i l hl
        simp only [Option.some.injEq] at h
        subst h
        simp only [V.under] at hu ⊢
        exact ihL hl hu
      | fn f cs =>
        simp only at h
        split at h
        rotate_left
        · cases h
        rename_i l hl
        simp only [Option.some.injEq] at h
        subst h
        simp only [V.under] at hu ⊢
        exact ihL hl hu
      | ifc t x =>
        simp only at h
        split at h
        rotate_left
        · cases h
        rename_i l hl
        simp only [Option.some.injEq] at h
        subst h
        simp only [V.under] at hu ⊢
        exact ih hl hu
      | any => cases h
      | skip => cases h
      | _ =>
        simp only [Option.some.injEq] at h
        subst h
        exact hu

theorem Raise.closed {σ σ1 : Store} (h : Raise σ σ1) {b : Nat} (hc : Closed σ b) : Closed σ1 b := by
  intro id o hid ho
  cases o with
  | row gen esz fz xs =>
    obtain ⟨fz0, -, h1, -⟩ := h.back ho
    have := hc id _ hid h1
    simpa [Obj.under] using this
  | _ =>
    have hlt : id < σ.length := by have := (List.getElem?_eq_some_iff.1 ho).1; rw [h.len] at this; exact this
    cases hx : σ[id]? with
    | none => rw [List.getElem?_eq_none_iff] at hx; omega
    | some o0 =>
      cases o0 with
      | row gen esz fz xs =>
        obtain ⟨fz', -, -, h3⟩ := h.row id _ _ _ _ hx
        rw [ho] at h3
        cases h3
      | _ =>
        have := h.oth id _ hx (by simp)
        rw [ho] at this
        cases this <;> exact hc id _ hid hx

theorem Closed.set {σ : Store} {b : Nat} (h : Closed σ b) (id : Nat) {o : Obj} (ho : id < b → o.under b = true) : Closed (σ.set id o) b := by
  intro k x hk hx
  rw [List.getElem?_set] at hx
  split at hx
  · rename_i e
    subst e
    split at hx
    · simp only [Option.some.injEq] at hx
      subst hx
      exact ho hk
    · cases hx
  · exact h k x hk hx

theorem Closed.put {σ : Store} {b : Nat} (h : Closed σ b) {nid : Nat} (hn : nid ≤ σ.length) {o : Obj} (ho : nid < b → o.under b = true) : Closed (σ.put nid o) b := by
  intro k x hk hx
  rw [put_get hn] at hx
  split at hx
  · rename_i e
    subst e
    simp only [Option.some.injEq] at hx
    subst hx
    exact ho hk
  · exact h k x hk hx

theorem esc1_ok {id t b : Nat} (h : broken (esc1 id t) b = false) (hid : id < b) : t ≤ b := by
  unfold esc1 at h
  split at h
  · omega
  · simp only [broken, List.any_cons, List.any_nil, Bool.or_false, Bool.and_eq_false_iff, decide_eq_false_iff_not] at h
    omega

theorem broken_append {e f : Esc} {b : Nat} : broken (e ++ f) b = false ↔ broken e b = false ∧ broken f b = false := by
  simp [broken, List.any_append, Bool.or_eq_false_iff]

theorem underL_set {b : Nat} {l : List V} (h : V.underL b l = true) {i : Nat} {v : V} (hv : v.under b = true) : V.underL b (l.set i v) = true := by
  rw [underL_iff] at h ⊢
  intro x hx
  rcases List.mem_or_eq_of_mem_set hx with hx | rfl
  · exact h x hx
  · exact hv

theorem underL_setCells {b : Nat} : ∀ {vs cs : List V} {off : Nat}, V.underL b cs = true → V.underL b vs = true → V.underL b (setCells cs off vs) = true
  | [], cs, off, h, _ => h
  | v :: vs, cs, off, h, hv => by
    simp only [V.underL, Bool.and_eq_true] at hv
    rw [setCells]
    exact underL_setCells (underL_set h hv.1) hv.2

theorem cells_under {b : Nat} {v : V} (h : v.under b = true) : V.underL b v.cells = true := by
  cases v
  case agg cs => simpa [V.cells, V.under] using h
  all_goals simpa [V.cells, V.underL, Bool.and_true] using h

theorem putElem_under {b : Nat} {x : V} {vs : List V} {fo : Nat} (hx : x.under b = true) (hv : V.underL b vs = true) : (putElem x fo vs).under b = true := by
  cases x
  case agg cs =>
    simp only [putElem, V.under] at hx ⊢
    exact underL_setCells hx hv
  all_goals
    simp only [putElem]
    cases vs with
    | nil => exact hx
    | cons v r =>
      simp only [V.underL, Bool.and_eq_true] at hv
      exact hv.1

theorem storeAt_under {σ : Store} {b n id : Nat} {a v : V} {o : Obj} (hc : Closed σ b) (h : storeAt σ n a v = some (id, o)) (hv : v.under b = true) (hid : id < b) : o.under b = true := by
  unfold storeAt at h
  split at h
  rotate_left
  · cases h
  split at h
  · split at h
    · rename_i cs hcs
      split at h
      · simp only [Option.some.injEq, Prod.mk.injEq] at h
        obtain ⟨rfl, rfl⟩ := h
        have := hc _ _ hid hcs
        simp only [Obj.under] at this ⊢
        exact underL_setCells this (cells_under hv)
      · cases h
    · cases h
  · split at h
    · rename_i xs hxs
      split at h
      · split at h
        · rename_i x hx
          split at h
          · simp only [Option.some.injEq, Prod.mk.injEq] at h
            obtain ⟨rfl, rfl⟩ := h
            have := hc _ _ hid hxs
            simp only [Obj.under] at this ⊢
            exact underL_set this (putElem_under (underL_iff.1 this x (List.mem_of_getElem? hx)) (cells_under hv))
          · cases h
        · cases h
      · cases h
    · cases h
  · cases h

theorem handOn_under {σ σ1 : Store} {b d : Nat} {vs as : List V} (h : handOn d σ vs = some (as, σ1)) (hc : Closed σ b) (hv : V.underL b vs = true) : V.underL b as = true := by
  unfold handOn at h
  split at h
  · simp only [Option.some.injEq, Prod.mk.injEq] at h
    rw [← h.1]; exact hv
  · split at h
    · cases h
    · split at h
      · rename_i l hl
        simp only [Option.some.injEq, Prod.mk.injEq] at h
        rw [← h.1]
        rw [underL_iff] at hv ⊢
        intro y hy
        obtain ⟨x, hx, e⟩ := optAll_mem hl y hy
        exact snap_under hc DEEP e (hv x hx)
      · cases h

/-- The same without rows: whatever the store. -/
theorem handOn_under0 {σ σ1 : Store} {b d : Nat} {vs as : List V} (h : handOn d σ vs = some (as, σ1)) (hn : V.norowL vs = true) (hv : V.underL b vs = true) : V.underL b as = true := by
  unfold handOn at h
  split at h
  · simp only [Option.some.injEq, Prod.mk.injEq] at h
    rw [← h.1]; exact hv
  · split at h
    · cases h
    · split at h
      · rename_i l hl
        simp only [Option.some.injEq, Prod.mk.injEq] at h
        rw [← h.1]
        rw [underL_iff] at hv ⊢
        intro y hy
        obtain ⟨x, hx, e⟩ := optAll_mem hl y hy
        rw [snap_norow σ [] DEEP x (norowL_iff.1 hn x hx)] at e
        exact snap_under (σ := []) (fun id o _ ho => by simp at ho) DEEP e (hv x hx)
      · cases h

theorem topL_le {b : Nat} {l : List V} (h : V.topL l ≤ b) : V.underL b l = true := (underL_top l b).2 h
theorem top_le {b : Nat} {v : V} (h : v.top ≤ b) : v.under b = true := (under_top v b).2 h

/-- One operation: what it puts into elder objects is noted. -/
theorem ev1_keeps {r : Rd → V} {dr : Bool} {σ σ' : Store} {nid b : Nat} {v : V} {op : IOp} (hc : Closed σ b) (hn : allocs op = true → nid ≤ σ.length) (hb : broken (escOf r σ nid op) b = false)
    (h : ev1 r dr σ nid op = some (v, σ')) : Closed σ' b := by
  have hpr : op.pu = true ∨ op.ro = true → Closed σ' b := by
    rintro (hp | hp)
    · have h1 := ev1_pu hp dr dr σ σ nid nid (r := r)
      rw [h] at h1
      simp only [Option.map_some, okV, Option.some.injEq, Prod.mk.injEq, true_and] at h1
      rw [h1]; exact hc
    · have h1 := ev1_ro hp dr dr σ nid nid (r := r)
      rw [h] at h1
      simp only [Option.map_some, okV, Option.some.injEq, Prod.mk.injEq, true_and] at h1
      rw [h1]; exact hc
  cases op
  case alloc cs =>
    simp only [ev1, Option.some.injEq, Prod.mk.injEq] at h
    rw [← h.2]
    exact hc.put (hn rfl) fun hid => topL_le (esc1_ok hb hid)
  case box n x =>
    simp only [ev1, Option.ite_none_right_eq_some, Option.some.injEq, Prod.mk.injEq] at h
    rw [← h.2.2]
    exact hc.put (hn rfl) fun hid => cells_under (top_le (esc1_ok hb hid))
  case mkmap =>
    simp only [ev1, Option.some.injEq, Prod.mk.injEq] at h
    rw [← h.2]
    exact hc.put (hn rfl) fun hid => rfl
  case rng x =>
    simp only [ev1] at h
    split at h
    · simp only [Option.some.injEq, Prod.mk.injEq] at h
      rw [← h.2]
      exact hc.put (hn rfl) fun hid => rfl
    · cases h
  case nxt x =>
    simp only [ev1] at h
    split at h
    rotate_left
    · cases h
    split at h
    rotate_left
    · cases h
    split at h
    · simp only [Option.some.injEq, Prod.mk.injEq] at h
      rw [← h.2]
      exact hc.set _ fun hid => rfl
    · simp only [Option.some.injEq, Prod.mk.injEq] at h
      rw [← h.2]
      exact hc
  case bslice mu n esz ag z ps =>
    simp only [ev1] at h
    split at h
    rotate_left
    · cases h
    split at h
    · rename_i hm
      simp only [Option.some.injEq, Prod.mk.injEq] at h
      rw [← h.2]
      refine hc.put (hn hm) fun hid => ?_
      subst hm
      simp only [escOf, if_true] at hb
      have ht := esc1_ok hb hid
      have hz : V.underL b z = true := topL_le (by omega)
      have hps : V.underL b (ps.map fun p => r p.2) = true := topL_le (by omega)
      have hg : (grp ag z).under b = true := by
        cases ag with
        | true => simpa [grp, V.under] using hz
        | false =>
          cases z with
          | nil => rfl
          | cons c l =>
            simp only [V.underL, Bool.and_eq_true] at hz
            exact hz.1
      have fold : ∀ (ps : List (Nat × Rd)) (l : List V), V.underL b (ps.map fun p => r p.2) = true → V.underL b l = true → V.underL b (ps.foldl (fun l p => l.set p.1 (r p.2)) l) = true := by
        intro ps
        induction ps with
        | nil => intro l _ hl; exact hl
        | cons p ps ih =>
          intro l hp hl
          simp only [List.map_cons, V.underL, Bool.and_eq_true] at hp
          exact ih _ hp.2 (underL_set hl hp.1)
      exact fold ps _ hps (underL_iff.2 fun x hx => by rw [List.eq_of_mem_replicate hx]; exact hg)
    · split at h
      · rename_i hho
        simp only [Option.some.injEq, Prod.mk.injEq] at h
        rw [← h.2]; exact (handOn_raise hho).closed hc
      · cases h
  case store n a x =>
    simp only [ev1] at h
    split at h
    · rename_i id o hs
      simp only [Option.some.injEq, Prod.mk.injEq] at h
      rw [← h.2]
      refine hc.set id fun hid => storeAt_under hc hs ?_ hid
      have hi := store_id hs
      have hids : (r a).ids = [id] := by
        generalize r a = va at hi
        cases va <;> first | (simp only [V.ids, List.mem_singleton] at hi; subst hi; rfl) | (cases hi; done)
      simp only [escOf, hids] at hb
      exact top_le (esc1_ok hb hid)
    · cases h
  case clr z x =>
    simp only [ev1] at h
    split at h
    · simp only [Option.some.injEq, Prod.mk.injEq] at h
      rw [← h.2]; exact hc
    · rename_i id g off n hx
      split at h
      · rename_i hid
        split at h
        · simp only [Option.some.injEq, Prod.mk.injEq] at h
          rw [← h.2]
          refine hc.set id fun hlt => ?_
          simp only [escOf, hx, V.ids] at hb
          have hz := top_le (esc1_ok hb hlt)
          have hxs := hc _ _ hlt hid
          simp only [Obj.under] at hxs ⊢
          rw [underL_iff] at hxs ⊢
          intro y hy
          simp only [List.mem_append] at hy
          rcases hy with (hy | hy) | hy
          · exact hxs y (List.mem_of_mem_take hy)
          · rw [List.eq_of_mem_replicate hy]; exact hz
          · exact hxs y (List.mem_of_mem_drop hy)
        · cases h
      · cases h
    · cases h
  case ins kk m k x =>
    simp only [ev1] at h
    split at h
    · rename_i id hm
      split at h
      · rename_i es hid
        split at h
        · simp only [Option.some.injEq, Prod.mk.injEq] at h
          rw [← h.2]
          refine hc.set id fun hlt => ?_
          simp only [escOf, hm, V.ids] at hb
          have ht := esc1_ok hb hlt
          have hes := hc _ _ hlt hid
          simp only [Obj.under, List.all_append, List.all_cons, List.all_nil, Bool.and_true, Bool.and_eq_true] at hes ⊢
          exact ⟨hes, top_le (by omega), top_le (by omega)⟩
        · cases h
      · cases h
    · cases h
  case slc esz x lo hi m =>
    cases m with
    | none => exact hpr (.inr rfl)
    | some m =>
      simp only [ev1] at h
      split at h
      · split at h
        · split at h
          · simp only [Option.some.injEq, Prod.mk.injEq] at h
            rw [← h.2]; exact hc
          · cases h
        · cases h
      · split at h
        · split at h
          · split at h
            · simp only [Option.isSome_some, if_true] at h
              split at h
              · split at h
                · rename_i hho
                  simp only [Option.some.injEq, Prod.mk.injEq] at h
                  rw [← h.2]; exact (handOn_raise hho).closed hc
                · cases h
              · cases h
            · cases h
          · cases h
        · cases h
      · cases h
  case len st x =>
    cases st with
    | true => exact hpr (.inl rfl)
    | false => exact hpr (.inr rfl)
  case app esz bytes x y =>
    simp only [ev1] at h
    split at h
    · cases h
    rename_i es hes
    split at h
    · cases h
    rename_i ns σ1 hho
    have hc1 := (handOn_raise hho).closed hc
    have hlen := (handOn_raise hho).len
    split at h
    rotate_left
    · cases h
    -- the new elements
    have hns : (if V.norowL es then V.topL es else max σ.length (V.topL es)) ≤ b → V.underL b ns = true := by
      intro ht
      split at ht
      · rename_i hnr
        exact handOn_under0 hho hnr (topL_le ht)
      · exact handOn_under hho hc (topL_le (by omega))
    split at h
    · rename_i id g off n hx
      split at h
      · rename_i gen es' fz xs hid
        split at h
        · split at h
          · simp only [Option.some.injEq, Prod.mk.injEq] at h
            rw [← h.2]; exact hc1
          · have hin : id < b → V.underL b ns = true ∧ V.underL b xs = true := by
              intro hlt
              simp only [escOf, hes, hx] at hb
              refine ⟨hns (esc1_ok hb hlt), ?_⟩
              have := hc1 _ _ hlt hid
              simpa [Obj.under] using this
            split at h
            · split at h
              · simp only [Option.some.injEq, Prod.mk.injEq] at h
                rw [← h.2]
                refine hc1.set id fun hlt => ?_
                obtain ⟨h1, h2⟩ := hin hlt
                simp only [Obj.under]
                rw [underL_iff] at h1 h2 ⊢
                intro y hy
                simp only [List.mem_append] at hy
                rcases hy with (hy | hy) | hy
                · exact h2 y (List.mem_of_mem_take hy)
                · exact h1 y hy
                · exact h2 y (List.mem_of_mem_drop hy)
              · cases h
            · split at h
              · simp only [Option.some.injEq, Prod.mk.injEq] at h
                rw [← h.2]
                refine hc1.set id fun hlt => ?_
                obtain ⟨h1, h2⟩ := hin hlt
                simp only [Obj.under]
                rw [underL_iff] at h1 h2 ⊢
                intro y hy
                rcases List.mem_append.1 hy with hy | hy
                · exact h2 y hy
                · exact h1 y hy
              · cases h
        · cases h
      · cases h
    · rename_i m xs hx
      split at h
      · split at h
        · simp only [Option.some.injEq, Prod.mk.injEq] at h
          rw [← h.2]; exact hc1
        · split at h
          · simp only [Option.some.injEq, Prod.mk.injEq] at h
            rw [← h.2]
            refine hc1.put (by rw [hlen]; exact hn rfl) fun hlt => ?_
            simp only [escOf, hes, hx] at hb
            have ht := esc1_ok hb hlt
            have h1 := hns (by omega)
            have h2 : V.underL b xs = true := topL_le (by omega)
            simp only [Obj.under]
            rw [underL_iff] at h1 h2 ⊢
            intro y hy
            rcases List.mem_append.1 hy with hy | hy
            · exact h2 y hy
            · exact h1 y hy
          · cases h
      · cases h
    · cases h
  case call => cases h
  case panic => cases h
  case defer => cases h
  case recover => cases h
  all_goals first | exact hpr (.inl rfl) | exact hpr (.inr rfl)
end Go.Ev
