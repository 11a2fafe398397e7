/-
  Calls: the callee's world and the caller's.
-/
import Derived.Test.YthajiefjebcobaaDoorEvKeep
set_option linter.all false
set_option linter.unusedSimpArgs false
set_option linter.unusedVariables false
namespace Go.Ev
open Go

section
variable {P : Program} {C : Cfg} {G : List (List V)} {g g' : Gh} {σ σ' : Store} {w w' : World}

mutual
/-- Only elder objects count. -/
theorem VRel.cut {n : Nat} (hJ : ∀ b j, g.I b j → g'.I b j) (hb : ∀ id, id < n → g'.blk id = g.blk id ∧ g'.cap id = g.cap id) (hs : ∀ id : Nat, id < n → σ'[id]? = σ[id]?) :
    ∀ {v : V} {u : Value}, VRel C g σ w v u → v.under n = true → VRel C g' σ' w v u
  | _, _, .any u, _ => .any u
  | _, _, .skip, _ => .skip
  | _, _, .int k n, _ => .int k n
  | _, _, .bool b, _ => .bool b
  | _, _, .str l s hs, _ => .str l s hs
  | _, _, .slnil m hm, _ => .slnil m hm
  | _, _, .sl m xs a c k us hn hm hf hc hx hu, hu0 => .sl m xs a c k us hn hm hf hc (VRels.cut hJ hb hs hx (underL_iff.2 fun y hy => by
      obtain ⟨x, hx1, hx2⟩ := List.mem_flatMap.1 hy
      have h1 : V.underL n xs = true := by simpa [V.under] using hu0
      exact underL_iff.1 (cells_under (underL_iff.1 h1 x hx1)) y hx2)) (fun j u hj => ⟨hJ _ _ (hu j u hj).1, (hu j u hj).2⟩)
  | _, _, .row id gen off len gen0 esz fz xs u ho hg he h1, hu0 => by
    have hid : id < n := by simpa [V.under] using hu0
    obtain ⟨e1, e2⟩ := hb id hid
    exact .row id gen off len gen0 esz fz xs u (by rw [hs id hid]; exact ho) hg (by rw [e1, e2]; exact he) h1
  | _, _, .ptr id off cs ho, hu0 => by
    have hid : id < n := by simpa [V.under] using hu0
    rw [← (hb id hid).1]
    exact .ptr id off cs (by rw [hs id hid]; exact ho)
  | _, _, .rptr id gen idx fo gen0 esz fz xs u ho hg he h1, hu0 => by
    have hid : id < n := by simpa [V.under] using hu0
    obtain ⟨e1, e2⟩ := hb id hid
    exact .rptr id gen idx fo gen0 esz fz xs u (by rw [hs id hid]; exact ho) hg (by rw [e1]; exact he) h1
  | _, _, .iptr cs a us hx hu, hu0 => .iptr cs a us (VRels.cut hJ hb hs hx (by simpa [V.under] using hu0)) (fun j u hj => ⟨hJ _ _ (hu j u hj).1, (hu j u hj).2⟩)
  | _, _, .nilp, _ => .nilp
  | _, _, .fn f cs F us hf hx, hu0 => .fn f cs F us hf (VRels.cut hJ hb hs hx (by simpa [V.under] using hu0))
  | _, _, .nilf, _ => .nilf
  | _, _, .ifc tag v t u ht hv, hu0 => .ifc tag v t u ht (VRel.cut hJ hb hs hv (by simpa [V.under] using hu0))
  | _, _, .nili, _ => .nili
  | _, _, .agg cs us hx, hu0 => .agg cs us (VRels.cut hJ hb hs hx (by simpa [V.under] using hu0))
  | _, _, .tup cs us hx, hu0 => .tup cs us (VRels.cut hJ hb hs hx (by simpa [V.under] using hu0))
  | _, _, .mref id es ho, hu0 => by
    have hid : id < n := by simpa [V.under] using hu0
    rw [← (hb id hid).1]
    exact .mref id es (by rw [hs id hid]; exact ho)
  | _, _, .itr id s pos ho, hu0 => by
    have hid : id < n := by simpa [V.under] using hu0
    rw [← (hb id hid).1]
    exact .itr id s pos (by rw [hs id hid]; exact ho)
theorem VRels.cut {n : Nat} (hJ : ∀ b j, g.I b j → g'.I b j) (hb : ∀ id, id < n → g'.blk id = g.blk id ∧ g'.cap id = g.cap id) (hs : ∀ id : Nat, id < n → σ'[id]? = σ[id]?) :
    ∀ {vs : List V} {us : List Value}, VRels C g σ w vs us → V.underL n vs = true → VRels C g' σ' w vs us
  | _, _, .nil, _ => .nil
  | _, _, .cons hv hx, hu0 => by
    simp only [V.underL, Bool.and_eq_true] at hu0
    exact .cons (VRel.cut hJ hb hs hv hu0.1) (VRels.cut hJ hb hs hx hu0.2)
end

mutual
/-- What stands for something stands below the store's length. -/
theorem VRel.inb : ∀ {v : V} {u : Value}, VRel C g σ w v u → v.under σ.length = true
  | _, _, .any u => rfl
  | _, _, .skip => rfl
  | _, _, .int k n => rfl
  | _, _, .bool b => rfl
  | _, _, .str l s hs => rfl
  | _, _, .slnil m hm => rfl
  | _, _, .sl m xs a c k us hn hm hf hc hx hu => by
    have h := VRels.inb hx
    simp only [V.under]
    rw [underL_iff] at h ⊢
    intro x hx'
    cases x
    case agg cs => simp only [V.under]; exact underL_iff.2 fun y hy => h y (List.mem_flatMap.2 ⟨_, hx', hy⟩)
    all_goals exact h _ (List.mem_flatMap.2 ⟨_, hx', List.mem_singleton.2 rfl⟩)
  | _, _, .row id gen off len gen0 esz fz xs u ho hg he h1 => by
    have := (List.getElem?_eq_some_iff.1 ho).1
    simp [V.under, this]
  | _, _, .ptr id off cs ho => by
    have := (List.getElem?_eq_some_iff.1 ho).1
    simp [V.under, this]
  | _, _, .rptr id gen idx fo gen0 esz fz xs u ho hg he h1 => by
    have := (List.getElem?_eq_some_iff.1 ho).1
    simp [V.under, this]
  | _, _, .iptr cs a us hx hu => by simp only [V.under]; exact VRels.inb hx
  | _, _, .nilp => rfl
  | _, _, .fn f cs F us hf hx => by simp only [V.under]; exact VRels.inb hx
  | _, _, .nilf => rfl
  | _, _, .ifc tag v t u ht hv => by simp only [V.under]; exact VRel.inb hv
  | _, _, .nili => rfl
  | _, _, .agg cs us hx => by simp only [V.under]; exact VRels.inb hx
  | _, _, .tup cs us hx => by simp only [V.under]; exact VRels.inb hx
  | _, _, .mref id es ho => by
    have := (List.getElem?_eq_some_iff.1 ho).1
    simp [V.under, this]
  | _, _, .itr id s pos ho => by
    have := (List.getElem?_eq_some_iff.1 ho).1
    simp [V.under, this]
theorem VRels.inb : ∀ {vs : List V} {us : List Value}, VRels C g σ w vs us → V.underL σ.length vs = true
  | _, _, .nil => rfl
  | _, _, .cons hv hx => by simp only [V.underL, Bool.and_eq_true]; exact ⟨VRel.inb hv, VRels.inb hx⟩
end

theorem flat_below {l : List V} {us : List Value} (h : VRels C g σ w (l.flatMap V.cells) us) : V.underL σ.length l = true := by
  have h := VRels.inb h
  rw [underL_iff] at h ⊢
  intro x hx'
  cases x
  case agg cs => simp only [V.under]; exact underL_iff.2 fun y hy => h y (List.mem_flatMap.2 ⟨_, hx', hy⟩)
  all_goals exact h _ (List.mem_flatMap.2 ⟨_, hx', List.mem_singleton.2 rfl⟩)

theorem ERel.inb {es : List (V × V)} {fs : List MapEntry} (h : ERel C g σ w es fs) : (es.all fun (k, v) => k.under σ.length && v.under σ.length) = true := by
  induction h with
  | nil => rfl
  | cons hk hv _ ih =>
    rw [List.all_cons, ih, Bool.and_true, Bool.and_eq_true]
    exact ⟨hk.inb, hv.inb⟩

/-- All that is there leads to what is there. -/
theorem Inv.closed (hI : Inv C g σ w G) : Closed σ σ.length := by
  intro id o _ ho
  have h := hI.obj id o ho
  cases o with
  | free => rfl
  | box cs =>
    obtain ⟨us, t, -, h2, -⟩ := h
    exact h2.inb
  | row gen esz fz xs =>
    obtain ⟨us, t, -, -, -, -, -, h2, -⟩ := h
    exact flat_below h2
  | mp es =>
    obtain ⟨fs, k, -, h2, -⟩ := h
    exact h2.inb
  | iter s pos => rfl

theorem ERel.cut {n : Nat} (hJ : ∀ b j, g.I b j → g'.I b j) (hb : ∀ id, id < n → g'.blk id = g.blk id ∧ g'.cap id = g.cap id) (hs : ∀ id : Nat, id < n → σ'[id]? = σ[id]?)
    {es : List (V × V)} {fs : List MapEntry} (h : ERel C g σ w es fs) (hu : (es.all fun (k, v) => k.under n && v.under n) = true) : ERel C g' σ' w es fs := by
  induction h with
  | nil => exact .nil
  | cons hk hv _ ih =>
    rw [List.all_cons, Bool.and_eq_true, Bool.and_eq_true] at hu
    exact .cons (hk.cut hJ hb hs hu.1.1) (hv.cut hJ hb hs hu.1.2) (ih hu.2)

/-- Tables lead nowhere. -/
def GOk (G : List (List V)) : Prop := ∀ cs ∈ G, V.underL 0 cs = true

theorem take_get {σ : Store} {n : Nat} {id : Nat} (h : id < n) : (σ.take n)[id]? = σ[id]? := by rw [List.getElem?_take, if_pos h]

theorem inv_take (hG : GOk G) (hI : Inv C g σ w G) {n : Nat} (hc : Closed σ n) : Inv C g (σ.take n) w G := by
  have hs : ∀ id : Nat, id < n → (σ.take n)[id]? = σ[id]? := fun id h => take_get h
  have hget : ∀ (id : Nat) (o : Obj), (σ.take n)[id]? = some o → id < n ∧ σ[id]? = some o := by
    intro id o h
    rw [List.getElem?_take] at h
    split at h
    · exact ⟨‹_›, h⟩
    · cases h
  refine ⟨hI.lo, fun id o ho => ?_, fun id o ho hf => hI.rng id o (hget id o ho).2 hf, fun i j a b ha hb => hI.inj i j a b (hget i a ha).2 (hget j b hb).2, hI.imm, fun k cs hk => ?_⟩
  · obtain ⟨hid, ho⟩ := hget id o ho
    have hu := hc id o hid ho
    have h := hI.obj id o ho
    cases o with
    | free => trivial
    | box cs =>
      obtain ⟨us, t, h1, h2, h3⟩ := h
      exact ⟨us, t, h1, h2.cut (fun _ _ h => h) (fun _ _ => ⟨rfl, rfl⟩) hs hu, h3⟩
    | row gen esz fz xs =>
      obtain ⟨us, t, h1, h2, h3, h4, h5, h6, h7⟩ := h
      refine ⟨us, t, h1, h2, h3, h4, h5, h6.cut (fun _ _ h => h) (fun _ _ => ⟨rfl, rfl⟩) hs ?_, h7⟩
      exact underL_iff.2 fun y hy => by
        obtain ⟨x, hx1, hx2⟩ := List.mem_flatMap.1 hy
        have h1 : V.underL n xs = true := hu
        exact underL_iff.1 (cells_under (underL_iff.1 h1 x hx1)) y hx2
    | mp es =>
      obtain ⟨fs, k, h1, h2, h3⟩ := h
      exact ⟨fs, k, h1, h2.cut (fun _ _ h => h) (fun _ _ => ⟨rfl, rfl⟩) hs hu, h3⟩
    | iter s pos => exact h
  · exact (hI.glob k cs hk).cut (n := 0) (fun _ _ h => h) (fun _ _ => ⟨rfl, rfl⟩) (fun id h => absurd h (Nat.not_lt_zero id)) (by simp only [V.under]; exact hG cs (List.mem_of_getElem? hk))

theorem le_take {g0 : Gh} {σ0 : Store} {w0 : World} (h : Le g0 σ0 w0 g σ w) {n : Nat} (hn : σ0.length ≤ n) : Le g0 σ0 w0 g (σ.take n) w := by
  refine ⟨h.lo, h.I, h.cell, fun id o ho hf => ?_, h.Ilow, h.low, h.size, h.os, h.tape, h.output⟩
  obtain ⟨o', h1, h2⟩ := h.obj id o ho hf
  have := (List.getElem?_eq_some_iff.1 ho).1
  exact ⟨o', by rw [take_get (by omega)]; exact h1, h2⟩

/-- The world has grown, nothing of this has changed. -/
theorem grow_world (hI : Inv C g σ w G) {J : Nat → Nat → Prop} (h1 : ∀ b j, g.I b j → J b j) (h2 : ∀ b j, J b j → b < w.heap.size → g.I b j) (h3 : ∀ b j, J b j → b < w'.heap.size)
    (hc : ∀ b j, g.I b j → w'.cell? ⟨b, j, none⟩ = w.cell? ⟨b, j, none⟩) (hh : ∀ b, b < w.heap.size → w'.heap[b]? = w.heap[b]?) (hsz : w.heap.size ≤ w'.heap.size) (hos : w'.os = w.os) (ht : w'.tape = w.tape) (ho : w'.output = w.output) :
    Inv C { g with I := J } σ w' G ∧ Le g σ w { g with I := J } σ w' := by
  have hle : Le g σ w { g with I := J } σ w' := by
    refine ⟨rfl, h1, hc, fun id o ho _ => ⟨o, ho, ObjLe.same rfl rfl o⟩, fun b j hj => ?_, fun b hb => hh b (Nat.lt_of_lt_of_le hb hI.lo), hsz, hos, ht, ho⟩
    rcases Nat.lt_or_ge b w.heap.size with hb | hb
    · exact .inl (h2 b j hj hb)
    · exact .inr (Nat.le_trans hI.lo hb)
  refine ⟨⟨Nat.le_trans hI.lo hsz, fun id o ho => ?_, fun id o ho hf => ?_, hI.inj, h3, fun n cs hc => (hI.glob n cs hc).mono hle⟩, hle⟩
  · cases o with
    | free => trivial
    | _ =>
      have hlt := (hI.rng id _ ho (by simp)).2
      exact (hI.obj id _ ho).keep hle rfl rfl (hh _ hlt) (fun j hj => h2 _ _ hj hlt)
  · obtain ⟨a1, a2⟩ := hI.rng id o ho hf
    exact ⟨a1, Nat.lt_of_lt_of_le a2 hsz⟩

/-- The callee's world, its store empty. -/
theorem inv_empty (hG : GOk G) (hI : Inv C g σ w G) : Inv C { g with lo := w.heap.size } [] w G := by
  refine ⟨Nat.le_refl _, fun id o ho => by simp at ho, fun id o ho => by simp at ho, fun i j a b ha => by simp at ha, hI.imm, fun k cs hk => ?_⟩
  exact (hI.glob k cs hk).cut (n := 0) (g := g) (g' := { g with lo := w.heap.size }) (σ' := []) (fun _ _ h => h) (fun _ h => absurd h (Nat.not_lt_zero _)) (fun id h => absurd h (Nat.not_lt_zero id)) (by simp only [V.under]; exact hG cs (List.mem_of_getElem? hk))

mutual
/-- What has no slice and no reference stands for the same everywhere. -/
theorem flat_rel : ∀ {v : V} {u : Value}, VRel C g σ w v u → v.flat = true → v.under 0 = true → VRel C g' σ' w' v u
  | _, _, .any u, h, _ => by cases h
  | _, _, .skip, _, _ => .skip
  | _, _, .int k n, _, _ => .int k n
  | _, _, .bool b, _, _ => .bool b
  | _, _, .str l s hs, _, _ => .str l s hs
  | _, _, .slnil m hm, h, _ => by cases h
  | _, _, .sl m xs a c k us hn hm hf hc hx hu, h, _ => by cases h
  | _, _, .row id gen off len gen0 esz fz xs u ho hg he h1, h, _ => by cases h
  | _, _, .ptr id off cs ho, _, h => by simp [V.under] at h
  | _, _, .rptr id gen idx fo gen0 esz fz xs u ho hg he h1, _, h => by simp [V.under] at h
  | _, _, .iptr cs a us hx hu, h, _ => by cases h
  | _, _, .nilp, _, _ => .nilp
  | _, _, .fn f cs F us hf hx, h, h' => .fn f cs F us hf (flats_rel hx (by simpa [V.flat] using h) (by simpa [V.under] using h'))
  | _, _, .nilf, _, _ => .nilf
  | _, _, .ifc tag v t u ht hv, h, h' => .ifc tag v t u ht (flat_rel hv (by simpa [V.flat] using h) (by simpa [V.under] using h'))
  | _, _, .nili, _, _ => .nili
  | _, _, .agg cs us hx, h, h' => .agg cs us (flats_rel hx (by simpa [V.flat] using h) (by simpa [V.under] using h'))
  | _, _, .tup cs us hx, h, h' => .tup cs us (flats_rel hx (by simpa [V.flat] using h) (by simpa [V.under] using h'))
  | _, _, .mref id es ho, _, h => by simp [V.under] at h
  | _, _, .itr id s pos ho, _, h => by simp [V.under] at h
theorem flats_rel : ∀ {vs : List V} {us : List Value}, VRels C g σ w vs us → V.flatL vs = true → V.underL 0 vs = true → VRels C g' σ' w' vs us
  | _, _, .nil, _, _ => .nil
  | _, _, .cons hv hx, h, h' => by
    simp only [V.flatL, Bool.and_eq_true] at h
    simp only [V.underL, Bool.and_eq_true] at h'
    exact .cons (flat_rel hv h.1 h'.1) (flats_rel hx h.2 h'.2)
end

/-- Elder objects stay closed, but for what is noted. -/
structure Keeps (σ σ' : Store) (e : Esc) : Prop where
  len : σ.length ≤ σ'.length
  cl : ∀ b, b ≤ σ.length → Closed σ b → broken e b = false → Closed σ' b

theorem Keeps.refl (σ : Store) : Keeps σ σ [] := ⟨Nat.le_refl _, fun _ _ h _ => h⟩
theorem Keeps.trans {σ σ' σ'' : Store} {e e' : Esc} (h : Keeps σ σ' e) (h' : Keeps σ' σ'' e') : Keeps σ σ'' (e ++ e') :=
  ⟨Nat.le_trans h.len h'.len, fun b hb hc hbr => by
    obtain ⟨h1, h2⟩ := broken_append.1 hbr
    exact h'.cl b (Nat.le_trans hb h.len) (h.cl b hb hc h1) h2⟩
theorem Keeps.raise {σ σ' : Store} (h : Raise σ σ') : Keeps σ σ' [] := ⟨Nat.le_of_eq h.len.symm, fun b _ hc _ => h.closed hc⟩

/-- How a call's end stands for the model's. -/
def EndRel (C : Cfg) (g : Gh) (σ : Store) (w : World) : End → Ending → Prop
  | .ret v, x => ∃ u, x = .returned u ∧ VRel C g σ w v u
  | .pan v, x => ∃ u, x = .panicked [{ v := u, recovered := false }] ∧ VRel C g σ w v u

/-- What a call comes to, in the model. -/
def CallPost (C : Cfg) (G : List (List V)) (g : Gh) (σ : Store) (w : World) (e : End) (σ' : Store) (ec : Esc) (x : Ending) (w' : World) : Prop :=
  ∃ g', Inv C g' σ' w' G ∧ Le g σ w g' σ' w' ∧ EndRel C g' σ' w' e x ∧ Keeps σ σ' ec

def CallOk (P : Program) (C : Cfg) (G : List (List V)) (go : Job → Option Res) : Prop :=
  ∀ f args σ keep e σ' ec, go (.call f args σ keep) = some (.done e σ' ec) → ∀ F g w us, C.fn f = some F → Inv C g σ w G → VRels C g σ w args us →
    Calls P F us.toArray w (CallPost C G g σ w e σ' ec)

theorem Calls.weaken {P : Program} {f : FuncId} {args : Array Value} {w : World} {R R' : Ending → World → Prop} (h : Calls P f args w R) (hr : ∀ e w', R e w' → R' e w') : Calls P f args w R' :=
  fun cs => let ⟨e, w', fr, h1, h2⟩ := h cs; ⟨e, w', fr, hr _ _ h1, h2⟩

theorem call_ok (hG : GOk G) {go : Job → Option Res} (hgo : CallOk P C G go) {deep keep dr dp : Bool} {fv : V} {args : List V} {e : End} {ec : Esc} (h : evCall go deep keep fv args dr σ = some (e, σ', ec, dp))
    (hI : Inv C g σ w G) {uf : Value} {us : List Value} (hf : VRel C g σ w fv uf) (ha : VRels C g σ w args us) :
    ∃ F caps, uf = .func (.func F) #[] caps ∧ (∃ f : Nat, C.fn f = some F) ∧ Calls P F (us.toArray ++ caps) w (CallPost C G g σ w e σ' ec) := by
  unfold evCall at h
  split at h
  rotate_left
  · cases h
  rename_i f caps
  cases hf with
  | fn _ _ F cus hF hcr =>
  refine ⟨F, cus.toArray, rfl, ⟨f, hF⟩, ?_⟩
  split at h
  · cases h
  rename_i as σ1 hho
  obtain ⟨g1, hI1, hle1, hall, -⟩ := handOn_ok hI hho
  have hargs : VRels C g1 σ1 w as (us ++ cus) := hall _ (ha.append hcr)
  have hke : Keeps σ σ1 [] := .raise (handOn_raise hho)
  have harr : us.toArray ++ cus.toArray = (us ++ cus).toArray := by simp
  rw [harr]
  split at h
  · -- the callee's store is empty
    rename_i hpure
    simp only [Bool.and_eq_true] at hpure
    have hIe := inv_empty hG hI1
    have hae : VRels C { g1 with lo := w.heap.size } [] w as (us ++ cus) := hargs.cut (n := 0) (g := g1) (g' := { g1 with lo := w.heap.size }) (σ' := []) (fun _ _ h => h) (fun _ h => absurd h (Nat.not_lt_zero _)) (fun id h => absurd h (Nat.not_lt_zero id)) hpure.1
    -- the caller's world behind it
    have back : ∀ {s2 : Store} {e2 : Esc} {E : End} {x : Ending} {w2 : World}, CallPost C G { g1 with lo := w.heap.size } [] w E s2 e2 x w2 →
        ∃ g2, Inv C g2 σ1 w2 G ∧ Le g1 σ1 w g2 σ1 w2 ∧ ∃ g3, EndRel C g3 s2 w2 E x ∧ (∀ b j, g3.I b j → g2.I b j) ∧ (∀ b, b < w.heap.size → w2.heap[b]? = w.heap[b]?) ∧ w.heap.size ≤ w2.heap.size ∧
          w2.os = w.os ∧ w2.tape = w.tape ∧ w2.output = w.output := by
      rintro s2 e2 E x w2 ⟨g3, hI3, hle3, hx, -⟩
      obtain ⟨hI4, hle4⟩ := grow_world (J := g3.I) hI1 hle3.I (fun b j hj hb => (hle3.Ilow b j hj).resolve_right (Nat.not_le_of_lt hb)) hI3.imm hle3.cell hle3.low hle3.size hle3.os hle3.tape hle3.output
      exact ⟨_, hI4, hle4, g3, hx, fun _ _ h => h, hle3.low, hle3.size, hle3.os, hle3.tape, hle3.output⟩
    split at h
    · rename_i v s2 e2 hgo1
      split at h
      rotate_left
      · cases h
      rename_i hv0
      simp only [Option.some.injEq, Prod.mk.injEq] at h
      obtain ⟨rfl, rfl, rfl, rfl⟩ := h
      refine Calls.weaken (hgo _ _ _ _ _ _ _ hgo1 F _ w _ hF hIe hae) fun x w2 hp => ?_
      obtain ⟨g2, hI2, hle2, g3, ⟨u, rfl, hv⟩, hJ, hlow, hsz, hos, htp, hou⟩ := back hp
      split
      · rename_i hfl
        obtain ⟨hI5, hle5⟩ := grow_world (w' := w2) (J := g.I) hI (fun _ _ h => h) (fun _ _ h _ => h) (fun b j hj => Nat.lt_of_lt_of_le (hI.imm b j hj) hsz)
          (fun b j hj => by simp only [World.cell?, hlow b (hI.imm b j hj)]) hlow hsz hos htp hou
        exact ⟨_, hI5, hle5, ⟨u, rfl, flat_rel hv hfl hv0⟩, .refl σ⟩
      · exact ⟨g2, hI2, hle1.trans hle2, ⟨u, rfl, hv.cut (n := 0) hJ (fun _ h => absurd h (Nat.not_lt_zero _)) (fun id h => absurd h (Nat.not_lt_zero id)) hv0⟩, hke⟩
    · rename_i v s2 e2 hgo1
      split at h
      rotate_left
      · cases h
      rename_i hv0
      simp only [Option.some.injEq, Prod.mk.injEq] at h
      obtain ⟨rfl, rfl, rfl, rfl⟩ := h
      refine Calls.weaken (hgo _ _ _ _ _ _ _ hgo1 F _ w _ hF hIe hae) fun x w2 hp => ?_
      obtain ⟨g2, hI2, hle2, g3, ⟨u, rfl, hv⟩, hJ, hlow, hsz, hos, htp, hou⟩ := back hp
      exact ⟨g2, hI2, hle1.trans hle2, ⟨u, rfl, hv.cut (n := 0) hJ (fun _ h => absurd h (Nat.not_lt_zero _)) (fun id h => absurd h (Nat.not_lt_zero id)) hv0⟩, hke⟩
    · cases h
  · split at h
    rotate_left
    · cases h
    split at h
    rotate_left
    · cases h
    rename_i e2 σ2 ec2 hgo1
    simp only [Option.some.injEq, Prod.mk.injEq] at h
    obtain ⟨rfl, rfl, rfl, rfl⟩ := h
    refine Calls.weaken (hgo _ _ _ _ _ _ _ hgo1 F _ w _ hF hI1 hargs) fun x w2 hp => ?_
    obtain ⟨g2, hI2, hle2, hx, hk⟩ := hp
    exact ⟨g2, hI2, hle1.trans hle2, hx, by simpa using hke.trans hk⟩
end
end Go.Ev
