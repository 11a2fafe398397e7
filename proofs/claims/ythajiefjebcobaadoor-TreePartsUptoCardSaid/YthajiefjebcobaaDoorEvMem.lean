/-
  Memory: new objects, writes, what is frozen.
-/
import Derived.Test.YthajiefjebcobaaDoorEvBuild
set_option linter.all false
set_option linter.unusedSimpArgs false
set_option linter.unusedVariables false
namespace Go.Ev
open Go

theorem put_get {σ : Store} {nid : Nat} {o : Obj} (h : nid ≤ σ.length) (i : Nat) : (σ.put nid o)[i]? = if i = nid then some o else σ[i]? := by
  unfold Store.put
  split
  · rename_i e
    subst e
    by_cases hi : i = σ.length
    · subst hi; simp
    · rw [if_neg hi]
      rcases Nat.lt_or_ge i σ.length with h1 | h1
      · rw [List.getElem?_append_left h1]
      · rw [List.getElem?_append_right h1, List.getElem?_eq_none h1]
        have : i - σ.length ≠ 0 := by omega
        cases hq : i - σ.length with
        | zero => omega
        | succ k => simp
  · rename_i e
    have hlt : nid < σ.length := by omega
    rw [List.getElem?_set]
    by_cases hi : i = nid
    · subst hi; simp [hlt]
    · rw [if_neg (Ne.symm hi), if_neg hi]

section
variable {P : Program} {C : Cfg} {G : List (List V)} {g g' : Gh} {σ σ' : Store} {w w' : World}

/-- An object that nobody touched. -/
theorem ObjOk.keep (hle : Le g σ w g' σ' w') {id : Nat} {o : Obj} (h : ObjOk C g σ w id o) (hb : g'.blk id = g.blk id) (hc : g'.cap id = g.cap id) (hh : w'.heap[g.blk id]? = w.heap[g.blk id]?)
    (hi : ∀ j, g'.I (g.blk id) j → g.I (g.blk id) j) : ObjOk C g' σ' w' id o := by
  cases o with
  | free => trivial
  | box cs =>
    obtain ⟨us, t, h1, h2, h3⟩ := h
    exact ⟨us, t, by rw [hb, hh]; exact h1, h2.mono hle, fun j hj => h3 j (hi j (by rw [hb] at hj; exact hj))⟩
  | row gen esz fz xs =>
    obtain ⟨us, t, h1, h2, h3, h4, h5, h6, h7, h8, h9⟩ := h
    exact ⟨us, t, by rw [hb, hh]; exact h1, h2, by rw [hc]; exact h3, by rw [hc]; exact h4, by rw [hc]; exact h5, h6.mono hle, h7, h8, fun j hj => h9 j (hi j (by rw [hb] at hj; exact hj))⟩
  | mp es =>
    obtain ⟨fs, k, h1, h2, h3⟩ := h
    exact ⟨fs, k, by rw [hb, hh]; exact h1, h2.mono hle, fun j hj => h3 j (hi j (by rw [hb] at hj; exact hj))⟩
  | iter s pos =>
    obtain ⟨b, h1, h2, h3⟩ := h
    exact ⟨b, by rw [hb, hh]; exact h1, h2, fun j hj => h3 j (hi j (by rw [hb] at hj; exact hj))⟩

theorem heap_at {w : World} {b : Nat} (h : b < w.heap.size) : ∃ o, w.heap[b]? = some o := ⟨_, Array.getElem?_eq_getElem h⟩

/-- The ghost behind a new object. -/
def Gh.fresh (g : Gh) (nid b c : Nat) : Gh := { g with blk := fun i => if i = nid then b else g.blk i, cap := fun i => if i = nid then c else g.cap i }

/-- A place for what is made: behind all, or held ready. -/
def Room (σ : Store) (nid : Nat) : Prop := nid = σ.length ∨ σ[nid]? = some .free

theorem Room.le {nid : Nat} (h : Room σ nid) : nid ≤ σ.length := by
  rcases h with h | h
  · omega
  · have := (List.getElem?_eq_some_iff.1 h).1; omega

theorem ObjLe.same {g g' : Gh} {id : Nat} (hb : g'.blk id = g.blk id) (hc : g'.cap id = g.cap id) (o : Obj) : ObjLe g g' id o o := by
  cases o <;> simp [ObjLe, hb, hc]

theorem le_alloc (hI : Inv C g σ w G) {nid : Nat} (hr : Room σ nid) (ob : Obj) (O : Go.Obj) (c : Nat) : Le g σ w (g.fresh nid w.heap.size c) (σ.put nid ob) (w.alloc O) := by
  refine ⟨rfl, fun _ _ h => h, fun b j hb => World.cell?_alloc_lt w O _ (hI.imm b j hb), fun id o ho hf => ?_, fun _ _ h => .inl h, fun b hb => heap_alloc_old w O b (Nat.lt_of_lt_of_le hb hI.lo), by simp, rfl, rfl, rfl⟩
  by_cases e : id = nid
  · subst e
    rcases hr with hr | hr
    · rw [hr] at ho; simp at ho
    · rw [hr] at ho
      cases ho
      exact ⟨ob, by rw [put_get (Room.le (.inr hr)), if_pos rfl], trivial⟩
  · exact ⟨o, by rw [put_get hr.le, if_neg e]; exact ho, ObjLe.same (by simp [Gh.fresh, e]) (by simp [Gh.fresh, e]) o⟩

theorem inv_alloc (hI : Inv C g σ w G) {nid : Nat} (hr : Room σ nid) (ob : Obj) (O : Go.Obj) (c : Nat) (hok : ObjOk C (g.fresh nid w.heap.size c) (σ.put nid ob) (w.alloc O) nid ob) :
    Inv C (g.fresh nid w.heap.size c) (σ.put nid ob) (w.alloc O) G := by
  have hle := le_alloc (C := C) (G := G) hI hr ob O c
  have hget := fun i => put_get (o := ob) hr.le i
  have hold : ∀ i a, σ[i]? = some a → a ≠ .free → i ≠ nid := by
    rintro i a ha hf rfl
    rcases hr with hr | hr
    · rw [hr] at ha; simp at ha
    · rw [hr] at ha; cases ha; exact hf rfl
  refine ⟨Nat.le_trans hI.lo (by simp), fun id o ho => ?_, fun id o ho hf => ?_, fun i j a b ha hb hfa hfb e => ?_, fun b j hb => ?_, fun n cs hc => (hI.glob n cs hc).mono hle⟩
  · rw [hget] at ho
    split at ho
    · rename_i e
      subst e
      cases ho
      exact hok
    · rename_i e
      cases o with
      | free => trivial
      | _ =>
        refine (hI.obj id _ ho).keep hle (by simp [Gh.fresh, e]) (by simp [Gh.fresh, e]) (heap_alloc_old w O _ (hI.rng id _ ho (by simp)).2) (fun j hj => hj)
  · rw [hget] at ho
    split at ho
    · rename_i e
      subst e
      simp only [Gh.fresh, if_true, World.size_alloc]
      exact ⟨hI.lo, by omega⟩
    · rename_i e
      obtain ⟨h1, h2⟩ := hI.rng id o ho hf
      simp only [Gh.fresh, e, if_false, World.size_alloc]
      exact ⟨h1, by omega⟩
  · rw [hget] at ha hb
    by_cases ei : i = nid <;> by_cases ej : j = nid
    · rw [ei, ej]
    · rw [if_neg ej] at hb
      have := (hI.rng j b hb hfb).2
      simp only [Gh.fresh, ei, ej, if_true, if_false] at e
      omega
    · rw [if_neg ei] at ha
      have := (hI.rng i a ha hfa).2
      simp only [Gh.fresh, ei, ej, if_true, if_false] at e
      omega
    · rw [if_neg ei] at ha
      rw [if_neg ej] at hb
      simp only [Gh.fresh, ei, ej, if_false] at e
      exact hI.inj i j a b ha hb hfa hfb e
  · have := hI.imm b j hb
    simp only [World.size_alloc]
    omega

/-- A block of the machine's own that is never written. -/
def Gh.shut (g : Gh) (b : Nat) : Gh := { g with I := fun c j => g.I c j ∨ c = b }

theorem le_shut (hI : Inv C g σ w G) (O : Go.Obj) : Le g σ w (g.shut w.heap.size) σ (w.alloc O) :=
  ⟨rfl, fun _ _ h => .inl h, fun b j hb => World.cell?_alloc_lt w O _ (hI.imm b j hb), fun id o ho _ => ⟨o, ho, ObjLe.same rfl rfl o⟩, fun b j hb => by rcases hb with hb | rfl; exact .inl hb; exact .inr hI.lo, fun b hb => heap_alloc_old w O b (Nat.lt_of_lt_of_le hb hI.lo), by simp, rfl, rfl, rfl⟩

theorem inv_shut (hI : Inv C g σ w G) (O : Go.Obj) : Inv C (g.shut w.heap.size) σ (w.alloc O) G := by
  have hle := le_shut (C := C) (G := G) hI O
  refine ⟨Nat.le_trans hI.lo (by simp), fun id o ho => ?_, fun id o ho hf => ?_, hI.inj, fun b j hb => ?_, fun n cs hc => (hI.glob n cs hc).mono hle⟩
  · cases o with
    | free => trivial
    | _ =>
      have hlt := (hI.rng id _ ho (by simp)).2
      exact (hI.obj id _ ho).keep hle rfl rfl (heap_alloc_old w O _ hlt) (fun j hj => hj.resolve_right (Nat.ne_of_lt hlt))
  · obtain ⟨h1, h2⟩ := hI.rng id o ho hf
    exact ⟨h1, by rw [World.size_alloc]; exact Nat.lt_succ_of_lt h2⟩
  · rw [World.size_alloc]
    rcases hb with hb | rfl
    · exact Nat.lt_succ_of_lt (hI.imm b j hb)
    · exact Nat.lt_succ_self _

/-- Writing into an object's block: all others stay. -/
theorem le_write (hI : Inv C g σ w G) {id : Nat} {o ob : Obj} (ho : σ[id]? = some o) (hf : o ≠ .free) (hob : ObjLe g g id o ob)
    (hh : ∀ b, b ≠ g.blk id → w'.heap[b]? = w.heap[b]?) (hcell : ∀ j, g.I (g.blk id) j → w'.cell? ⟨g.blk id, j, none⟩ = w.cell? ⟨g.blk id, j, none⟩) (hsz : w'.heap.size = w.heap.size)
    (hos : w'.os = w.os) (htp : w'.tape = w.tape) (hout : w'.output = w.output) : Le g σ w g (σ.set id ob) w' := by
  have hlt := (List.getElem?_eq_some_iff.1 ho).1
  refine ⟨rfl, fun _ _ h => h, fun b j hb => ?_, fun i x hx _ => ?_, fun _ _ h => .inl h, fun b hb => hh b ?_, by omega, hos, htp, hout⟩
  · by_cases e : b = g.blk id
    · subst e; exact hcell j hb
    · simp only [World.cell?, hh b e]
  · rw [List.getElem?_set]
    by_cases e : id = i
    · subst e
      rw [ho] at hx
      cases hx
      exact ⟨ob, by simp [hlt], hob⟩
    · exact ⟨x, by simp [e, hx], ObjLe.same rfl rfl x⟩
  · have := (hI.rng id o ho hf).1
    omega

theorem inv_write (hI : Inv C g σ w G) {id : Nat} {o ob : Obj} (ho : σ[id]? = some o) (hf : o ≠ .free) (hfo : ob ≠ .free) (hob : ObjLe g g id o ob)
    (hh : ∀ b, b ≠ g.blk id → w'.heap[b]? = w.heap[b]?) (hcell : ∀ j, g.I (g.blk id) j → w'.cell? ⟨g.blk id, j, none⟩ = w.cell? ⟨g.blk id, j, none⟩) (hsz : w'.heap.size = w.heap.size)
    (hos : w'.os = w.os) (htp : w'.tape = w.tape) (hout : w'.output = w.output) (hok : ObjOk C g (σ.set id ob) w' id ob) : Inv C g (σ.set id ob) w' G := by
  have hle := le_write (C := C) (G := G) hI ho hf hob hh hcell hsz hos htp hout
  have hlt := (List.getElem?_eq_some_iff.1 ho).1
  have hget : ∀ i, (σ.set id ob)[i]? = if i = id then some ob else σ[i]? := by
    intro i
    rw [List.getElem?_set]
    by_cases e : i = id
    · subst e; simp [hlt]
    · rw [if_neg (Ne.symm e), if_neg e]
  refine ⟨by rw [hsz]; exact hI.lo, fun i x hx => ?_, fun i x hx hfx => ?_, fun i j a b ha hb hfa hfb e => ?_, fun b j hb => by rw [hsz]; exact hI.imm b j hb, fun n cs hc => (hI.glob n cs hc).mono hle⟩
  · rw [hget] at hx
    split at hx
    · rename_i e; subst e; cases hx; exact hok
    · rename_i e
      cases x with
      | free => trivial
      | _ => exact (hI.obj i _ hx).keep hle rfl rfl (hh _ (fun e' => e (hI.inj i id _ _ hx ho (by simp) hf e'))) (fun j hj => hj)
  · rw [hget] at hx
    split at hx
    · rename_i e; subst e; rw [hsz]; exact hI.rng i o ho hf
    · rw [hsz]; exact hI.rng i x hx hfx
  · rw [hget] at ha hb
    by_cases ei : i = id <;> by_cases ej : j = id
    · rw [ei, ej]
    · rw [if_neg ej] at hb; subst ei; exact hI.inj i j o b ho hb hf hfb e
    · rw [if_neg ei] at ha; subst ej; exact hI.inj i j a o ha ho hfa hf e
    · rw [if_neg ei] at ha; rw [if_neg ej] at hb; exact hI.inj i j a b ha hb hfa hfb e
end
end Go.Ev
