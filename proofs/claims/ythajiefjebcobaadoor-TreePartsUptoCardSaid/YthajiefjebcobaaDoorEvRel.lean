/-
  How the small machine's values and objects stand in the model's world: relation, invariant, order of worlds.
-/
import Derived.Test.YthajiefjebcobaaDoorEv
import Derived.Laws.AppendOwn
import Derived.Orders
set_option linter.all false
namespace Go.Ev
open Go

/-- Which functions and types the small machine's numbers mean. -/
structure Cfg where
  fns : List (Option FuncId)
  tys : List TypeId

/-- The program's function of a number. -/
def Cfg.fn (C : Cfg) (f : Nat) : Option FuncId := match C.fns[f]? with
  | some x => x
  | none => none

/-- What the machine doesn't see: which cells are never written any more, where objects stand, how much room rows have, what was there at first. -/
structure Gh where
  I : Nat → Nat → Prop
  blk : Nat → Nat
  cap : Nat → Nat
  lo : Nat

variable (C : Cfg) (g : Gh) (σ : Store) (w : World)

mutual
inductive VRel : V → Value → Prop
  | any (u : Value) : VRel .any u
  | skip : VRel .skip undef
  | int (k : IntKind) (n : Int) : VRel (.int k n) (.int k n)
  | bool (b : Bool) : VRel (.bool b) (.bool b)
  | str (l : List Nat) (s : ByteArray) (h : s.data.toList.map UInt8.toNat = l) : VRel (.str l) (.string s)
  | slnil (m : Md) (h : m = .nil ∨ m = .any ∨ m = .lim) : VRel (.sl m []) (.slice none 0 0)
  | sl (m : Md) (xs : List V) (a : Addr) (c n : Nat) (us : List Value) (hn : ∀ x ∈ xs, x.cells.length = n) (hm : m ≠ .nil) (hf : m = .full ∨ m = .lim → c = xs.length) (hc : xs.length ≤ c)
      (hx : VRels (xs.flatMap V.cells) us) (hu : ∀ j u, us[j]? = some u → g.I a.block (a.off + j) ∧ w.cell? (a.add j) = some u) : VRel (.sl m xs) (.slice (some a) xs.length c)
  | row (id gen off len gen0 esz fz : Nat) (xs : List V) (u : Value) (h : σ[id]? = some (.row gen0 esz fz xs)) (hg : gen ≤ gen0)
      (he : gen = gen0 → u = .slice (some ⟨g.blk id, off * esz, none⟩) len (g.cap id - off) ∧ off + len ≤ xs.length) (h1 : ∃ a n c, u = .slice (some a) n c) : VRel (.row id gen off len) u
  | ptr (id off : Nat) (cs : List V) (h : σ[id]? = some (.box cs)) : VRel (.ptr id off) (.pointer (some ⟨g.blk id, off, none⟩))
  | rptr (id gen idx fo gen0 esz fz : Nat) (xs : List V) (u : Value) (h : σ[id]? = some (.row gen0 esz fz xs)) (hg : gen ≤ gen0)
      (he : gen = gen0 → u = .pointer (some ⟨g.blk id, idx * esz + fo, none⟩) ∧ idx < xs.length) (h1 : ∃ a, u = .pointer (some a)) : VRel (.rptr id gen idx fo) u
  | iptr (cs : List V) (a : Addr) (us : List Value) (hx : VRels cs us) (hu : ∀ j u, us[j]? = some u → g.I a.block (a.off + j) ∧ w.cell? (a.add j) = some u) :
      VRel (.iptr cs) (.pointer (some a))
  | nilp : VRel .nilp (.pointer none)
  | fn (f : Nat) (cs : List V) (F : FuncId) (us : List Value) (hf : C.fn f = some F) (hx : VRels cs us) : VRel (.fn f cs) (.func (.func F) #[] us.toArray)
  | nilf : VRel .nilf .nilFunc
  | ifc (tag : Nat) (v : V) (t : TypeId) (u : Value) (ht : C.tys[tag]? = some t) (hv : VRel v u) : VRel (.ifc tag v) (.iface t u)
  | nili : VRel .nili .nilIface
  | agg (cs : List V) (us : List Value) (hx : VRels cs us) : VRel (.agg cs) (.agg us.toArray)
  | tup (cs : List V) (us : List Value) (hx : VRels cs us) : VRel (.tup cs) (.tuple us.toArray)
  | mref (id : Nat) (es : List (V × V)) (h : σ[id]? = some (.mp es)) : VRel (.mref id) (.map (some (g.blk id)))
  | itr (id : Nat) (s : List Nat) (pos : Nat) (h : σ[id]? = some (.iter s pos)) : VRel (.mref id) (.pointer (some ⟨g.blk id, 0, none⟩))
inductive VRels : List V → List Value → Prop
  | nil : VRels [] []
  | cons {v : V} {u : Value} {vs : List V} {us : List Value} (h : VRel v u) (hs : VRels vs us) : VRels (v :: vs) (u :: us)
end

/-- Entries of a map, one by one. -/
inductive ERel : List (V × V) → List MapEntry → Prop
  | nil : ERel [] []
  | cons {k v : V} {e : MapEntry} {es : List (V × V)} {fs : List MapEntry} (hk : VRel C g σ w k e.key) (hv : VRel C g σ w v e.val) (hs : ERel es fs) : ERel ((k, v) :: es) (e :: fs)

def ObjOk (id : Nat) : Obj → Prop
  | .free => True
  | .box cs => ∃ us t, w.heap[g.blk id]? = some (.cells us t (0, 0)) ∧ VRels C g σ w cs us.toList ∧ ∀ j, ¬ g.I (g.blk id) j
  | .row _ esz fz xs => ∃ us t, w.heap[g.blk id]? = some (.cells us t (0, 0)) ∧ 0 < esz ∧ us.size = g.cap id * esz ∧ xs.length ≤ g.cap id ∧ g.cap id ≤ maxLen ∧
      VRels C g σ w (xs.flatMap V.cells) (us.toList.take (xs.length * esz)) ∧ (∀ x ∈ xs, x.cells.length = esz) ∧ fz ≤ xs.length ∧ ∀ j, g.I (g.blk id) j → j < fz * esz
  | .mp es => ∃ fs k, w.heap[g.blk id]? = some (.map fs k) ∧ ERel C g σ w es fs.toList ∧ ∀ j, ¬ g.I (g.blk id) j
  | .iter s pos => ∃ b : ByteArray, w.heap[g.blk id]? = some (.stringIter b pos) ∧ b.data.toList.map UInt8.toNat = s ∧ ∀ j, ¬ g.I (g.blk id) j

structure Inv (G : List (List V)) : Prop where
  lo : g.lo ≤ w.heap.size
  obj : ∀ id o, σ[id]? = some o → ObjOk C g σ w id o
  rng : ∀ id o, σ[id]? = some o → o ≠ .free → g.lo ≤ g.blk id ∧ g.blk id < w.heap.size
  inj : ∀ i j a b, σ[i]? = some a → σ[j]? = some b → a ≠ .free → b ≠ .free → g.blk i = g.blk j → i = j
  imm : ∀ b j, g.I b j → b < w.heap.size
  glob : ∀ n cs, G[n]? = some cs → VRel C g σ w (.iptr cs) (.pointer (some ⟨n, 0, none⟩))

/-- An object later on: a box keeps its place and its size; a row, as long as its number stays. -/
def ObjLe (g g' : Gh) (id : Nat) : Obj → Obj → Prop
  | .free, _ => True
  | .box cs, .box cs' => cs'.length = cs.length ∧ g'.blk id = g.blk id
  | .row gen esz _ xs, .row gen' esz' _ xs' => gen ≤ gen' ∧ esz' = esz ∧ (gen = gen' → g'.blk id = g.blk id ∧ g'.cap id = g.cap id ∧ xs.length ≤ xs'.length)
  | .mp _, .mp _ => g'.blk id = g.blk id
  | .iter s _, .iter s' _ => s' = s ∧ g'.blk id = g.blk id
  | _, _ => False

structure Le (g : Gh) (σ : Store) (w : World) (g' : Gh) (σ' : Store) (w' : World) : Prop where
  lo : g'.lo = g.lo
  I : ∀ b j, g.I b j → g'.I b j
  cell : ∀ b j, g.I b j → w'.cell? ⟨b, j, none⟩ = w.cell? ⟨b, j, none⟩
  obj : ∀ id o, σ[id]? = some o → o ≠ .free → ∃ o', σ'[id]? = some o' ∧ ObjLe g g' id o o'
  Ilow : ∀ b j, g'.I b j → g.I b j ∨ g.lo ≤ b
  low : ∀ b, b < g.lo → w'.heap[b]? = w.heap[b]?
  size : w.heap.size ≤ w'.heap.size
  os : w'.os = w.os
  tape : w'.tape = w.tape
  output : w'.output = w.output

theorem Addr.add_block (a : Addr) (n : Nat) : (a.add n).block = a.block := by unfold Addr.add; split <;> rfl
theorem Addr.add_mk (b o n : Nat) : (⟨b, o, none⟩ : Addr).add n = ⟨b, o + n, none⟩ := by unfold Addr.add; split <;> simp_all

theorem cell_add {w : World} {a : Addr} {j : Nat} {u : Value} (h : w.cell? (a.add j) = some u) : a.add j = ⟨a.block, a.off + j, none⟩ := by
  have hs : (a.add j).spot = none := by
    unfold World.cell? at h
    split at h
    · cases hs : (a.add j).spot with
      | none => rfl
      | some s => simp [hs] at h
    · cases h
  unfold Addr.add at *
  split at hs <;> rename_i hj
  · subst hj
    cases a
    simp_all
  · simp [hj]

variable {C g σ w}

theorem ObjLe.refl (g : Gh) (id : Nat) (o : Obj) : ObjLe g g id o o := by
  cases o <;> simp [ObjLe]

theorem Le.refl (g : Gh) (σ : Store) (w : World) : Le g σ w g σ w :=
  ⟨rfl, fun _ _ h => h, fun _ _ _ => rfl, fun id o h _ => ⟨o, h, ObjLe.refl g id o⟩, fun _ _ h => .inl h, fun _ _ => rfl, Nat.le_refl _, rfl, rfl, rfl⟩

theorem ObjLe.trans {g g' g'' : Gh} {id : Nat} {a b c : Obj} (h : ObjLe g g' id a b) (h' : ObjLe g' g'' id b c) : ObjLe g g'' id a c := by
  cases a <;> cases b <;> simp only [ObjLe] at h <;> cases c <;> simp only [ObjLe] at h' ⊢
  · exact ⟨h'.1.trans h.1, h'.2.trans h.2⟩
  · refine ⟨Nat.le_trans h.1 h'.1, h'.2.1.trans h.2.1, fun e => ?_⟩
    have e1 := Nat.le_antisymm h.1 (by omega)
    have e2 := Nat.le_antisymm h'.1 (by omega)
    obtain ⟨a1, a2, a3⟩ := h.2.2 e1
    obtain ⟨b1, b2, b3⟩ := h'.2.2 e2
    exact ⟨b1.trans a1, b2.trans a2, Nat.le_trans a3 b3⟩
  · exact h'.trans h
  · exact ⟨h'.1.trans h.1, h'.2.trans h.2⟩

theorem Le.trans {g g' g'' : Gh} {σ σ' σ'' : Store} {w w' w'' : World} (h : Le g σ w g' σ' w') (h' : Le g' σ' w' g'' σ'' w'') : Le g σ w g'' σ'' w'' := by
  refine ⟨h'.lo.trans h.lo, fun b j hI => h'.I b j (h.I b j hI), fun b j hI => (h'.cell b j (h.I b j hI)).trans (h.cell b j hI), fun id o ho hf => ?_,
    fun b j hj => (h'.Ilow b j hj).elim (h.Ilow b j) (fun hb => .inr (h.lo ▸ hb)), fun b hb => (h'.low b (by rw [h.lo]; exact hb)).trans (h.low b hb), Nat.le_trans h.size h'.size, h'.os.trans h.os, h'.tape.trans h.tape, h'.output.trans h.output⟩
  obtain ⟨o', ho', hl⟩ := h.obj id o ho hf
  have hf' : o' ≠ .free := by rintro rfl; cases o <;> simp_all [ObjLe]
  obtain ⟨o'', ho'', hl'⟩ := h'.obj id o' ho' hf'
  exact ⟨o'', ho'', hl.trans hl'⟩

section mono
variable {g' : Gh} {σ' : Store} {w' : World}

theorem cells_mono (h : Le g σ w g' σ' w') {a : Addr} {us : List Value} (hu : ∀ j u, us[j]? = some u → g.I a.block (a.off + j) ∧ w.cell? (a.add j) = some u) :
    ∀ j u, us[j]? = some u → g'.I a.block (a.off + j) ∧ w'.cell? (a.add j) = some u := by
  intro j u hj
  obtain ⟨h1, h2⟩ := hu j u hj
  refine ⟨h.I _ _ h1, ?_⟩
  have e := cell_add h2
  rw [e] at h2 ⊢
  rw [h.cell _ _ h1]
  exact h2

mutual
theorem VRel.mono (h : Le g σ w g' σ' w') : ∀ {v : V} {u : Value}, VRel C g σ w v u → VRel C g' σ' w' v u
  | _, _, .any u => .any u
  | _, _, .skip => .skip
  | _, _, .int k n => .int k n
  | _, _, .bool b => .bool b
  | _, _, .str l s hs => .str l s hs
  | _, _, .slnil m hm => .slnil m hm
  | _, _, .sl m xs a c n us hn hm hf hc hx hu => .sl m xs a c n us hn hm hf hc (VRels.mono h hx) (cells_mono h hu)
  | _, _, .row id gen off len gen0 esz fz xs u ho hg he h1 => by
    obtain ⟨o', ho', hl⟩ := h.obj _ _ ho (by simp)
    cases o' with
    | row gen' esz' fz' xs' =>
      simp only [ObjLe] at hl
      refine .row id gen off len gen' esz' fz' xs' u ho' (Nat.le_trans hg hl.1) (fun e => ?_) h1
      have e1 : gen = gen0 := by have := hl.1; omega
      have e2 : gen0 = gen' := by have := hl.1; omega
      obtain ⟨a1, a2, a3⟩ := hl.2.2 e2
      obtain ⟨b1, b2⟩ := he e1
      rw [hl.2.1, a1, a2]
      exact ⟨b1, by omega⟩
    | _ => simp [ObjLe] at hl
  | _, _, .ptr id off cs ho => by
    obtain ⟨o', ho', hl⟩ := h.obj _ _ ho (by simp)
    cases o' with
    | box cs' =>
      simp only [ObjLe] at hl
      rw [← hl.2]
      exact .ptr id off cs' ho'
    | _ => simp [ObjLe] at hl
  | _, _, .rptr id gen idx fo gen0 esz fz xs u ho hg he h1 => by
    obtain ⟨o', ho', hl⟩ := h.obj _ _ ho (by simp)
    cases o' with
    | row gen' esz' fz' xs' =>
      simp only [ObjLe] at hl
      refine .rptr id gen idx fo gen' esz' fz' xs' u ho' (Nat.le_trans hg hl.1) (fun e => ?_) h1
      have e1 : gen = gen0 := by have := hl.1; omega
      have e2 : gen0 = gen' := by have := hl.1; omega
      obtain ⟨a1, a2, a3⟩ := hl.2.2 e2
      obtain ⟨b1, b2⟩ := he e1
      rw [hl.2.1, a1]
      exact ⟨b1, by omega⟩
    | _ => simp [ObjLe] at hl
  | _, _, .iptr cs a us hx hu => .iptr cs a us (VRels.mono h hx) (cells_mono h hu)
  | _, _, .nilp => .nilp
  | _, _, .fn f cs F us hf hx => .fn f cs F us hf (VRels.mono h hx)
  | _, _, .nilf => .nilf
  | _, _, .ifc tag v t u ht hv => .ifc tag v t u ht (VRel.mono h hv)
  | _, _, .nili => .nili
  | _, _, .agg cs us hx => .agg cs us (VRels.mono h hx)
  | _, _, .tup cs us hx => .tup cs us (VRels.mono h hx)
  | _, _, .mref id es ho => by
    obtain ⟨o', ho', hl⟩ := h.obj _ _ ho (by simp)
    cases o' with
    | mp es' =>
      simp only [ObjLe] at hl
      rw [← hl]
      exact .mref id es' ho'
    | _ => simp [ObjLe] at hl
  | _, _, .itr id s pos ho => by
    obtain ⟨o', ho', hl⟩ := h.obj _ _ ho (by simp)
    cases o' with
    | iter s' pos' =>
      simp only [ObjLe] at hl
      rw [← hl.2]
      exact .itr id s' pos' ho'
    | _ => simp [ObjLe] at hl
theorem VRels.mono (h : Le g σ w g' σ' w') : ∀ {vs : List V} {us : List Value}, VRels C g σ w vs us → VRels C g' σ' w' vs us
  | _, _, .nil => .nil
  | _, _, .cons hv hs => .cons (VRel.mono h hv) (VRels.mono h hs)
end

theorem ERel.mono (h : Le g σ w g' σ' w') {es : List (V × V)} {fs : List MapEntry} (he : ERel C g σ w es fs) : ERel C g' σ' w' es fs := by
  induction he with
  | nil => exact .nil
  | cons hk hv _ ih => exact .cons (VRel.mono h hk) (VRel.mono h hv) ih
end mono

/-! ### Lists -/
theorem VRels.length {vs : List V} {us : List Value} (h : VRels C g σ w vs us) : vs.length = us.length := by
  induction vs generalizing us with
  | nil => cases h; rfl
  | cons v vs ih => cases h with | cons _ hs => simp [ih hs]

theorem VRels.get {vs : List V} {us : List Value} (h : VRels C g σ w vs us) : ∀ {i : Nat} {v : V}, vs[i]? = some v → ∃ u, us[i]? = some u ∧ VRel C g σ w v u := by
  induction vs generalizing us with
  | nil => intro i v hv; simp at hv
  | cons x vs ih =>
    intro i v hv
    cases h with
    | cons hx hs =>
      cases i with
      | zero => simp at hv; subst hv; exact ⟨_, by simp, hx⟩
      | succ i => simpa using ih hs (by simpa using hv)

theorem VRels.mk {vs : List V} {us : List Value} (hl : vs.length = us.length) (h : ∀ (i : Nat) (v : V) (u : Value), vs[i]? = some v → us[i]? = some u → VRel C g σ w v u) : VRels C g σ w vs us := by
  induction vs generalizing us with
  | nil => cases us with
    | nil => exact .nil
    | cons => simp at hl
  | cons v vs ih => cases us with
    | nil => simp at hl
    | cons u us => exact .cons (h 0 v u (by simp) (by simp)) (ih (by simpa using hl) fun i a b ha hb => h (i + 1) a b (by simpa using ha) (by simpa using hb))

theorem VRels.append {vs vs' : List V} {us us' : List Value} (h : VRels C g σ w vs us) (h' : VRels C g σ w vs' us') : VRels C g σ w (vs ++ vs') (us ++ us') := by
  induction vs generalizing us with
  | nil => cases h; exact h'
  | cons v vs ih => cases h with | cons hv hs => exact .cons hv (ih hs)

theorem VRels.take {vs : List V} {us : List Value} (h : VRels C g σ w vs us) (n : Nat) : VRels C g σ w (vs.take n) (us.take n) := by
  induction vs generalizing us n with
  | nil => cases h; simp; exact .nil
  | cons v vs ih => cases h with
    | cons hv hs => cases n with
      | zero => exact .nil
      | succ n => exact .cons hv (ih hs n)

theorem VRels.drop {vs : List V} {us : List Value} (h : VRels C g σ w vs us) (n : Nat) : VRels C g σ w (vs.drop n) (us.drop n) := by
  induction vs generalizing us n with
  | nil => cases h; simp; exact .nil
  | cons v vs ih => cases h with
    | cons hv hs => cases n with
      | zero => exact .cons hv hs
      | succ n => exact ih hs n

theorem VRels.set {vs : List V} {us : List Value} (h : VRels C g σ w vs us) (n : Nat) {v : V} {u : Value} (hv : VRel C g σ w v u) : VRels C g σ w (vs.set n v) (us.set n u) := by
  induction vs generalizing us n with
  | nil => cases h; simp; exact .nil
  | cons x vs ih => cases h with
    | cons hx hs => cases n with
      | zero => exact .cons hv hs
      | succ n => exact .cons hx (ih hs n)

theorem VRels.split {vs vs' : List V} {us : List Value} (h : VRels C g σ w (vs ++ vs') us) : VRels C g σ w vs (us.take vs.length) ∧ VRels C g σ w vs' (us.drop vs.length) := by
  have h1 := h.take vs.length
  have h2 := h.drop vs.length
  rw [List.take_left] at h1
  rw [List.drop_left] at h2
  exact ⟨h1, h2⟩

theorem VRels.replicate {v : V} {u : Value} (h : VRel C g σ w v u) (n : Nat) : VRels C g σ w (List.replicate n v) (List.replicate n u) := by
  induction n with
  | zero => exact .nil
  | succ n ih => exact .cons h ih

/-- Where an element's cells stand among all. -/
theorem flat_at {xs : List V} {n : Nat} (hn : ∀ x ∈ xs, x.cells.length = n) : ∀ {k : Nat} {x : V}, xs[k]? = some x → (xs.flatMap V.cells).drop (k * n) = x.cells ++ (xs.drop (k + 1)).flatMap V.cells := by
  induction xs with
  | nil => intro k x h; simp at h
  | cons y xs ih =>
    intro k x h
    cases k with
    | zero => simp at h; subst h; simp
    | succ k =>
      have hy : y.cells.length = n := hn y (by simp)
      have := ih (fun x hx => hn x (by simp [hx])) (k := k) (x := x) (by simpa using h)
      rw [List.flatMap_cons, Nat.succ_mul, Nat.add_comm, ← hy, List.drop_length_add_append, hy, this]
      simp
theorem flat_length {xs : List V} {n : Nat} (hn : ∀ x ∈ xs, x.cells.length = n) : (xs.flatMap V.cells).length = xs.length * n := by
  induction xs with
  | nil => simp
  | cons y xs ih =>
    rw [List.flatMap_cons, List.length_append, ih (fun x hx => hn x (by simp [hx])), hn y (by simp), List.length_cons, Nat.succ_mul, Nat.add_comm]
theorem flat_take {xs : List V} {n : Nat} (hn : ∀ x ∈ xs, x.cells.length = n) (k : Nat) : (xs.take k).flatMap V.cells = (xs.flatMap V.cells).take (k * n) := by
  induction xs generalizing k with
  | nil => simp
  | cons y xs ih =>
    have hy : y.cells.length = n := hn y (by simp)
    cases k with
    | zero => simp
    | succ k => rw [List.take_succ_cons, List.flatMap_cons, List.flatMap_cons, ih (fun x hx => hn x (by simp [hx])), Nat.succ_mul, Nat.add_comm, ← hy, List.take_length_add_append]
theorem flat_drop {xs : List V} {n : Nat} (hn : ∀ x ∈ xs, x.cells.length = n) (k : Nat) : (xs.drop k).flatMap V.cells = (xs.flatMap V.cells).drop (k * n) := by
  induction xs generalizing k with
  | nil => simp
  | cons y xs ih =>
    have hy : y.cells.length = n := hn y (by simp)
    cases k with
    | zero => simp
    | succ k => rw [List.drop_succ_cons, List.flatMap_cons, ih (fun x hx => hn x (by simp [hx])), Nat.succ_mul, Nat.add_comm, ← hy, List.drop_length_add_append]

theorem Addr.add_add (a : Addr) (m n : Nat) : (a.add m).add n = a.add (m + n) := by
  unfold Addr.add
  by_cases h1 : m = 0 <;> by_cases h2 : n = 0 <;> simp [h1, h2, Nat.add_assoc]
theorem Addr.add_off (a : Addr) (n : Nat) : (a.add n).off = a.off + n := by unfold Addr.add; split <;> simp_all

/-- What stands from a cell on. -/
theorem cells_drop {g : Gh} {w : World} {p : Addr} {us : List Value} (hu : ∀ j x, us[j]? = some x → g.I p.block (p.off + j) ∧ w.cell? (p.add j) = some x) (k : Nat) :
    ∀ j x, (us.drop k)[j]? = some x → g.I (p.add k).block ((p.add k).off + j) ∧ w.cell? ((p.add k).add j) = some x := by
  intro j x hj
  rw [List.getElem?_drop] at hj
  obtain ⟨h1, h2⟩ := hu _ _ hj
  rw [Addr.add_block, Addr.add_off, Addr.add_add, Nat.add_assoc]
  exact ⟨h1, h2⟩
theorem cells_take {g : Gh} {w : World} {p : Addr} {us : List Value} (hu : ∀ j x, us[j]? = some x → g.I p.block (p.off + j) ∧ w.cell? (p.add j) = some x) (k : Nat) :
    ∀ j x, (us.take k)[j]? = some x → g.I p.block (p.off + j) ∧ w.cell? (p.add j) = some x := by
  intro j x hj
  rw [List.getElem?_take] at hj
  split at hj
  · exact hu _ _ hj
  · cases hj

theorem isCell_one {v : V} {u : Value} (h : VRel C g σ w v u) (hc : v.isCell = true) : u.oneCell' = true := by
  cases h <;> first | rfl | (simp [V.isCell] at hc; done) | (rename_i h1; obtain ⟨a, n, c, rfl⟩ := h1; rfl) | (rename_i h1; obtain ⟨a, rfl⟩ := h1; rfl)

end Go.Ev
