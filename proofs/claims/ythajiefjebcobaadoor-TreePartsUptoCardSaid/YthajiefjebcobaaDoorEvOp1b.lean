/-
  Operations that leave memory alone, continued.
-/
import Derived.Test.YthajiefjebcobaaDoorEvOp1
import Derived.Laws.Cover3
import Derived.Laws.Pointers
import Derived.WideLaws
set_option linter.all false
set_option linter.unusedSimpArgs false
set_option linter.unusedVariables false
namespace Go.Ev
open Go

section
variable {P : Program} {C : Cfg} {G : List (List V)} {g : Gh} {σ : Store} {w : World} {o : Oper} {a : Act} {v : V} {tm : List V}

theorem inv_int {k : IntKind} {n : Int} {u : Value} (h : VRel C g σ w (.int k n) u) : u = .int k n := by cases h; rfl
theorem inv_bool {b : Bool} {u : Value} (h : VRel C g σ w (.bool b) u) : u = .bool b := by cases h; rfl
theorem inv_str {l : List Nat} {u : Value} (h : VRel C g σ w (.str l) u) : ∃ s, u = .string s ∧ bl s = l := by cases h; exact ⟨_, rfl, ‹_›⟩
theorem inv_agg {cs : List V} {u : Value} (h : VRel C g σ w (.agg cs) u) : ∃ us, u = .agg (us.toArray) ∧ VRels C g σ w cs us := by cases h; exact ⟨_, rfl, ‹_›⟩
theorem inv_tup {cs : List V} {u : Value} (h : VRel C g σ w (.tup cs) u) : ∃ us, u = .tuple (us.toArray) ∧ VRels C g σ w cs us := by cases h; exact ⟨_, rfl, ‹_›⟩
theorem inv_ifc {t : Nat} {x : V} {u : Value} (h : VRel C g σ w (.ifc t x) u) : ∃ T z, u = .iface T z ∧ C.tys[t]? = some T ∧ VRel C g σ w x z := by cases h; exact ⟨_, _, rfl, ‹_›, ‹_›⟩

theorem inv_row {id gen off len : Nat} {u : Value} (h : VRel C g σ w (.row id gen off len) u) {gen0 esz fz : Nat} {xs : List V} (ho : σ[id]? = some (.row gen0 esz fz xs)) :
    gen ≤ gen0 ∧ (gen = gen0 → u = .slice (some ⟨g.blk id, off * esz, none⟩) len (g.cap id - off) ∧ off + len ≤ xs.length) := by
  cases h with
  | row _ _ _ _ gen1 esz1 fz1 xs1 _ h hg he h1 =>
    rw [ho] at h
    simp only [Option.some.injEq, Obj.row.injEq] at h
    obtain ⟨rfl, rfl, rfl, rfl⟩ := h
    exact ⟨hg, he⟩
theorem inv_rptr {id gen idx fo : Nat} {u : Value} (h : VRel C g σ w (.rptr id gen idx fo) u) {gen0 esz fz : Nat} {xs : List V} (ho : σ[id]? = some (.row gen0 esz fz xs)) :
    gen ≤ gen0 ∧ (gen = gen0 → u = .pointer (some ⟨g.blk id, idx * esz + fo, none⟩) ∧ idx < xs.length) := by
  cases h with
  | rptr _ _ _ _ gen1 esz1 fz1 xs1 _ h hg he h1 =>
    rw [ho] at h
    simp only [Option.some.injEq, Obj.row.injEq] at h
    obtain ⟨rfl, rfl, rfl, rfl⟩ := h
    exact ⟨hg, he⟩
theorem inv_ptr {id off : Nat} {u : Value} (h : VRel C g σ w (.ptr id off) u) : u = .pointer (some ⟨g.blk id, off, none⟩) ∧ ∃ cs, σ[id]? = some (.box cs) := by
  cases h; exact ⟨rfl, _, ‹_›⟩
theorem inv_mref {id : Nat} {es : List (V × V)} {u : Value} (h : VRel C g σ w (.mref id) u) (hs : σ[id]? = some (.mp es)) : u = .map (some (g.blk id)) := by
  cases h with
  | mref => rfl
  | itr _ _ _ h' => rw [hs] at h'; cases h'
theorem inv_itr {id : Nat} {s : List Nat} {pos : Nat} {u : Value} (h : VRel C g σ w (.mref id) u) (hs : σ[id]? = some (.iter s pos)) : u = .pointer (some ⟨g.blk id, 0, none⟩) := by
  cases h with
  | itr => rfl
  | mref _ _ h' => rw [hs] at h'; cases h'
theorem inv_iptr {cs : List V} {u : Value} (h : VRel C g σ w (.iptr cs) u) : ∃ p us, u = .pointer (some p) ∧ VRels C g σ w cs us ∧ ∀ j x, us[j]? = some x → g.I p.block (p.off + j) ∧ w.cell? (p.add j) = some x := by
  cases h; exact ⟨_, _, rfl, ‹_›, ‹_›⟩
/-- A slice of the machine: nil, or somewhere. -/
theorem inv_sl {m : Md} {xs : List V} {u : Value} (h : VRel C g σ w (.sl m xs) u) :
    (u = .slice none 0 0 ∧ xs = [] ∧ (m = .nil ∨ m = .any ∨ m = .lim)) ∨ ∃ p c n us, u = .slice (some p) xs.length c ∧ (∀ x ∈ xs, x.cells.length = n) ∧ m ≠ .nil ∧ (m = .full ∨ m = .lim → c = xs.length) ∧ xs.length ≤ c ∧
      VRels C g σ w (xs.flatMap V.cells) us ∧ ∀ j x, us[j]? = some x → g.I p.block (p.off + j) ∧ w.cell? (p.add j) = some x := by
  cases h with
  | slnil _ h => exact .inl ⟨rfl, rfl, h⟩
  | sl _ _ p c n us hn hm hf hc hx hu => exact .inr ⟨p, c, n, us, rfl, hn, hm, hf, hc, hx, hu⟩

variable (hI : Inv C g σ w G) (ht : VRels C g σ w tm a.tmps.toList) (dr : Bool) (nid : Nat) {σ' : Store}
include hI ht

theorem s_eq_bool {ng : Bool} {x y : Rd} (hc : chkOp P C o.op (.eq ng .bool x y) = true) (h : ev1 (rdV G tm) dr σ nid (.eq ng .bool x y) = some (v, σ')) : Out P C G g σ w o a v σ' := by
  cases ho : o.op <;> simp only [chkOp, ho, Bool.false_eq_true, Bool.and_eq_true] at hc
  rename_i op' t x' y' yt
  obtain ⟨⟨⟨h1, h2⟩, h3⟩, h4⟩ := hc
  have hx := chkRd_rel hI ht h3
  have hy := chkRd_rel hI ht h4
  have hu : P.underlying t = some .bool := by split at h2 <;> first | assumption | cases h2
  simp only [ev1, eqV] at h
  generalize rdV G tm x = vx at h hx
  generalize rdV G tm y = vy at h hy
  cases vx <;> cases vy <;> simp only [reduceCtorEq, Option.some.injEq, Prod.mk.injEq] at h
  rename_i b b'
  obtain ⟨rfl, rfl⟩ := h
  have e1 := inv_bool hx
  have e2 := inv_bool hy
  cases ng
  · have e : op' = .eql := by simpa using h1
    subst e
    exact Out.same hI (u := .bool (b == b')) (by simp [execOp, ho, e1, e2, eqGuard, binOp, Op.equal, Op.maxDepth, run_equalIn_bool' w 9999 t b b' hu]) (.bool _)
  · have e : op' = .neq := by simpa using h1
    subst e
    exact Out.same hI (u := .bool (!(b == b'))) (by simp [execOp, ho, e1, e2, eqGuard, binOp, Op.equal, Op.maxDepth, run_equalIn_bool' w 9999 t b b' hu]) (.bool _)

theorem s_eq_cells {ng : Bool} {ks : List CK} {x y : Rd} (hc : chkOp P C o.op (.eq ng (.cells ks) x y) = true) (h : ev1 (rdV G tm) dr σ nid (.eq ng (.cells ks) x y) = some (v, σ')) : Out P C G g σ w o a v σ' := by
  cases ho : o.op <;> simp only [chkOp, ho, Bool.false_eq_true, Bool.and_eq_true] at hc
  rename_i op' t x' y' yt
  obtain ⟨⟨⟨⟨⟨h1, h2⟩, h3⟩, h4⟩, h5⟩, h6⟩ := hc
  have hx := chkRd_rel hI ht h5
  have hy := chkRd_rel hI ht h6
  have hs : P.stoodInHeld t = false := by simpa using h2
  have hg : P.eqGuardType P.depth t = false := by simpa using h3
  simp only [ev1, eqV] at h
  generalize rdV G tm x = vx at h hx
  generalize rdV G tm y = vy at h hy
  cases vx <;> cases vy <;> simp only [reduceCtorEq] at h
  rename_i cs ds
  obtain ⟨us, e1, hus⟩ := inv_agg hx
  obtain ⟨vs, e2, hvs⟩ := inv_agg hy
  split at h4
  rotate_left
  · cases h4
  rename_i fs hfs
  have hft : P.underlying t = some (.struct (P.fieldsOf t)) := by simp [Program.fieldsOf, hfs]
  have hff : P.fieldsOf t = fs := by simp [Program.fieldsOf, hfs]
  cases hb : eqCells ks cs ds with
  | none => rw [hb] at h; simp at h
  | some b =>
    rw [hb] at h
    simp only [Option.some.injEq, Prod.mk.injEq] at h
    obtain ⟨rfl, rfl⟩ := h
    have hr : (Op.equalIn 10000 t (.agg us.toArray) (.agg vs.toArray)).run P w = .ok b w := by
      rw [run_equalIn_struct w 9999 t _ _ hft hs, hff]
      exact run_eq_fields 9998 fs.toList ks 0 cs ds us vs b hus hvs h4 (by simpa using hb)
    cases ng
    · have e : op' = .eql := by simpa using h1
      subst e
      exact Out.same hI (u := .bool b) (by simp only [execOp, ho, e1, e2, Sem.run_bind, run_eqGuard_agg w .eql t x' y' _ _ hg, Result.andThen_ok, run_eql_struct, hr, Sem.run_pure]) (.bool _)
    · have e : op' = .neq := by simpa using h1
      subst e
      exact Out.same hI (u := .bool (!b)) (by simp only [execOp, ho, e1, e2, Sem.run_bind, run_eqGuard_agg w .neq t x' y' _ _ hg, Result.andThen_ok, run_neq_struct, hr, Sem.run_pure]) (.bool _)

omit hI ht in
theorem ein_ptr (d : Nat) {t e : TypeId} (hu : P.underlying t = some (.pointer e)) (p : Option Addr) :
    (Op.equalIn (d + 1) t (.pointer p) (.pointer none)).run P w = .ok p.isNone w ∧ (Op.equalIn (d + 1) t (.pointer none) (.pointer p)).run P w = .ok p.isNone w := by
  cases p <;> simp [Op.equalIn, run_underlying hu]
omit hI ht in
theorem ein_func (d : Nat) {t : TypeId} {ps rs : Array TypeId} {vr : Bool} (hu : P.underlying t = some (.func ps rs vr)) (u : Value) (b : Bool) (hub : u = .nilFunc ∧ b = true ∨ (∃ f x c, u = .func f x c) ∧ b = false) :
    (Op.equalIn (d + 1) t u .nilFunc).run P w = .ok b w ∧ (Op.equalIn (d + 1) t .nilFunc u).run P w = .ok b w := by
  rcases hub with ⟨rfl, rfl⟩ | ⟨⟨f, x, c, rfl⟩, rfl⟩ <;> simp [Op.equalIn, run_underlying hu]
omit hI ht in
theorem ein_iface (d : Nat) {t : TypeId} {ms : Array (String × TypeId)} (hu : P.underlying t = some (.interface ms)) (u : Value) (b : Bool) (hub : u = .nilIface ∧ b = true ∨ (∃ f x, u = .iface f x) ∧ b = false) :
    (Op.equalIn (d + 1) t u .nilIface).run P w = .ok b w ∧ (Op.equalIn (d + 1) t .nilIface u).run P w = .ok b w := by
  rcases hub with ⟨rfl, rfl⟩ | ⟨⟨f, x, rfl⟩, rfl⟩ <;> simp [Op.equalIn, run_underlying hu]
omit hI ht in
theorem ein_slice (d : Nat) {t e : TypeId} (hu : P.underlying t = some (.slice e)) (p : Option Addr) (n c : Nat) :
    (Op.equalIn (d + 1) t (.slice p n c) (.slice none 0 0)).run P w = .ok p.isNone w ∧ (Op.equalIn (d + 1) t (.slice none 0 0) (.slice p n c)).run P w = .ok p.isNone w := by
  cases p <;> simp [Op.equalIn, run_underlying hu]

omit hI ht in
/-- From what '==' inside says to what the operation says. -/
theorem bin_of_ein {t : TypeId} {u n : Value} {b : Bool} (hs1 : binOp .eql t u n = (do pure (.bool (← Op.equal t u n)))) (hs2 : binOp .neq t u n = (do pure (.bool (!(← Op.equal t u n)))))
    (he : (Op.equalIn (9999 + 1) t u n).run P w = .ok b w) (op : BinOp) (ng : Bool) (hop : op = if ng then .neq else .eql) :
    (binOp op t u n).run P w = .ok (.bool (if ng then !b else b)) w := by
  subst hop
  cases ng
  · simp only [Bool.false_eq_true, if_false]
    rw [hs1, Sem.run_bind]
    show ((Op.equalIn (9999 + 1) t u n).run P w).andThen _ = _
    rw [he]
    rfl
  · simp only [if_true]
    rw [hs2, Sem.run_bind]
    show ((Op.equalIn (9999 + 1) t u n).run P w).andThen _ = _
    rw [he]
    rfl

omit hI ht in
theorem nil_ptr {t e : TypeId} (hu : P.underlying t = some (.pointer e)) (p : Option Addr) (x' y' : Operand) (op : BinOp) (ng : Bool) (hop : op = if ng then .neq else .eql) :
    ((eqGuard op t x' y' (.pointer p) (.pointer none)).run P w = .ok () w ∧ (binOp op t (.pointer p) (.pointer none)).run P w = .ok (.bool (if ng then !p.isNone else p.isNone)) w) ∧
    ((eqGuard op t y' x' (.pointer none) (.pointer p)).run P w = .ok () w ∧ (binOp op t (.pointer none) (.pointer p)).run P w = .ok (.bool (if ng then !p.isNone else p.isNone)) w) := by
  obtain ⟨h1, h2⟩ := ein_ptr (P := P) (w := w) 9999 hu p
  refine ⟨⟨?_, bin_of_ein rfl rfl h1 op ng hop⟩, ?_, bin_of_ein rfl rfl h2 op ng hop⟩ <;> (subst hop; cases ng <;> simp [eqGuard])

omit hI ht in
theorem nil_func {t : TypeId} {ps rs : Array TypeId} {vr : Bool} (hu : P.underlying t = some (.func ps rs vr)) (u : Value) (b : Bool) (hub : u = .nilFunc ∧ b = true ∨ (∃ f x c, u = .func f x c) ∧ b = false)
    (x' y' : Operand) (op : BinOp) (ng : Bool) (hop : op = if ng then .neq else .eql) :
    ((eqGuard op t x' y' u .nilFunc).run P w = .ok () w ∧ (binOp op t u .nilFunc).run P w = .ok (.bool (if ng then !b else b)) w) ∧
    ((eqGuard op t y' x' .nilFunc u).run P w = .ok () w ∧ (binOp op t .nilFunc u).run P w = .ok (.bool (if ng then !b else b)) w) := by
  obtain ⟨h1, h2⟩ := ein_func (P := P) (w := w) 9999 hu u b hub
  rcases hub with ⟨rfl, rfl⟩ | ⟨⟨f, x, c, rfl⟩, rfl⟩
  all_goals
    refine ⟨⟨?_, bin_of_ein rfl rfl h1 op ng hop⟩, ?_, bin_of_ein rfl rfl h2 op ng hop⟩ <;> (subst hop; cases ng <;> simp [eqGuard])

omit hI ht in
theorem nil_iface {t : TypeId} {ms : Array (String × TypeId)} (hu : P.underlying t = some (.interface ms)) (u : Value) (b : Bool) (hub : u = .nilIface ∧ b = true ∨ (∃ f x, u = .iface f x) ∧ b = false)
    (x' : Operand) (cu : Value) (op : BinOp) (ng : Bool) (hop : op = if ng then .neq else .eql) :
    ((eqGuard op t x' (.const cu) u .nilIface).run P w = .ok () w ∧ (binOp op t u .nilIface).run P w = .ok (.bool (if ng then !b else b)) w) ∧
    ((eqGuard op t (.const cu) x' .nilIface u).run P w = .ok () w ∧ (binOp op t .nilIface u).run P w = .ok (.bool (if ng then !b else b)) w) := by
  obtain ⟨h1, h2⟩ := ein_iface (P := P) (w := w) 9999 hu u b hub
  rcases hub with ⟨rfl, rfl⟩ | ⟨⟨f, x, rfl⟩, rfl⟩
  all_goals
    refine ⟨⟨?_, bin_of_ein rfl rfl h1 op ng hop⟩, ?_, bin_of_ein rfl rfl h2 op ng hop⟩ <;> (subst hop; cases ng <;> simp [eqGuard])

omit hI ht in
theorem nil_slice {t e : TypeId} (hu : P.underlying t = some (.slice e)) (p : Option Addr) (n c : Nat) (x' y' : Operand) (op : BinOp) (ng : Bool) (hop : op = if ng then .neq else .eql) :
    ((eqGuard op t x' y' (.slice p n c) (.slice none 0 0)).run P w = .ok () w ∧ (binOp op t (.slice p n c) (.slice none 0 0)).run P w = .ok (.bool (if ng then !p.isNone else p.isNone)) w) ∧
    ((eqGuard op t y' x' (.slice none 0 0) (.slice p n c)).run P w = .ok () w ∧ (binOp op t (.slice none 0 0) (.slice p n c)).run P w = .ok (.bool (if ng then !p.isNone else p.isNone)) w) := by
  obtain ⟨h1, h2⟩ := ein_slice (P := P) (w := w) 9999 hu p n c
  refine ⟨⟨?_, bin_of_ein rfl rfl h1 op ng hop⟩, ?_, bin_of_ein rfl rfl h2 op ng hop⟩ <;> (subst hop; cases ng <;> simp [eqGuard])

omit hI ht in
/-- Held against a nil of its kind, on either side. -/
theorem run_nil {t : TypeId} {x : V} {cv : V} {cu u : Value} {b : Bool} (hx : VRel C g σ w x u) (hy : isConstNil P t (.c cv) = true) (hyr : chkV cv cu = true)
    (he : eqV .nil x cv = some b) (op : BinOp) (ng : Bool) (hop : op = if ng then .neq else .eql) (x' : Operand) :
    ((eqGuard op t x' (.const cu) u cu).run P w = .ok () w ∧ (binOp op t u cu).run P w = .ok (.bool (if ng then !b else b)) w) ∧
    ((eqGuard op t (.const cu) x' cu u).run P w = .ok () w ∧ (binOp op t cu u).run P w = .ok (.bool (if ng then !b else b)) w) := by
  unfold isConstNil at hy
  split at hy
  · rename_i e
    cases e
    split at hy
    rotate_left
    · cases hy
    rename_i hu
    have ecu : cu = .pointer none := by
      have := chkV_rel (C := C) (g := g) (σ := σ) (w := w) hyr
      cases this; rfl
    subst ecu
    have : ∃ p, u = .pointer p ∧ b = p.isNone := by
      cases hx <;> simp only [eqV, reduceCtorEq, Option.some.injEq] at he <;> subst he
      case rptr h1 => obtain ⟨q, rfl⟩ := h1; exact ⟨_, rfl, rfl⟩
      all_goals exact ⟨_, rfl, rfl⟩
    obtain ⟨p, rfl, rfl⟩ := this
    exact nil_ptr hu p x' (.const (.pointer none)) op ng hop
  · rename_i e
    cases e
    split at hy
    rotate_left
    · cases hy
    rename_i hu
    have ecu : cu = .nilFunc := by
      have := chkV_rel (C := C) (g := g) (σ := σ) (w := w) hyr
      cases this; rfl
    subst ecu
    refine nil_func hu u b ?_ x' (.const .nilFunc) op ng hop
    cases hx <;> simp only [eqV, reduceCtorEq, Option.some.injEq] at he <;> subst he
    · exact .inr ⟨⟨_, _, _, rfl⟩, rfl⟩
    · exact .inl ⟨rfl, rfl⟩
  · rename_i e
    cases e
    split at hy
    rotate_left
    · cases hy
    rename_i hu
    have ecu : cu = .nilIface := by
      have := chkV_rel (C := C) (g := g) (σ := σ) (w := w) hyr
      cases this; rfl
    subst ecu
    refine nil_iface hu u b ?_ x' .nilIface op ng hop
    cases hx <;> simp only [eqV, reduceCtorEq, Option.some.injEq] at he <;> subst he
    · exact .inr ⟨⟨_, _, rfl⟩, rfl⟩
    · exact .inl ⟨rfl, rfl⟩
  · rename_i e
    cases e
    split at hy
    rotate_left
    · cases hy
    rename_i hu
    have ecu : cu = .slice none 0 0 := by
      have := chkV_rel (C := C) (g := g) (σ := σ) (w := w) hyr
      cases this with
      | slnil => rfl
      | sl _ _ _ _ _ _ _ hm => exact absurd rfl hm
    subst ecu
    have : ∃ p n c, u = .slice p n c ∧ b = p.isNone := by
      cases hx <;> simp only [eqV, reduceCtorEq, Option.some.injEq] at he
      case slnil m hm => rcases hm with rfl | rfl | rfl <;> simp [isNil] at he; subst he; exact ⟨_, _, _, rfl, rfl⟩
      case sl m xs p c n us hn hm hf hc' hx' hu' =>
        refine ⟨_, _, _, rfl, ?_⟩
        cases m <;> simp only [isNil] at he <;> first | exact absurd rfl hm | (split at he <;> simp_all) | simp_all
      case row h1 => obtain ⟨q, n, c, rfl⟩ := h1; subst he; exact ⟨_, _, _, rfl, rfl⟩
    obtain ⟨p, n, c, rfl, rfl⟩ := this
    exact nil_slice hu p n c x' (.const (.slice none 0 0)) op ng hop
  · cases hy

theorem s_eq_nil {ng : Bool} {x y : Rd} (hc : chkOp P C o.op (.eq ng .nil x y) = true) (h : ev1 (rdV G tm) dr σ nid (.eq ng .nil x y) = some (v, σ')) : Out P C G g σ w o a v σ' := by
  cases ho : o.op <;> simp only [chkOp, ho, Bool.false_eq_true, Bool.and_eq_true] at hc
  rename_i op' t x' y' yt
  obtain ⟨⟨h1, h2⟩, h3⟩ := hc
  have hop : op' = if ng then .neq else .eql := by simpa using h1
  cases hy : y with
  | c cv =>
    subst hy
    have h : (match eqV .nil (rdV G tm x) cv with | some b => some (V.bool (if ng then !b else b), σ) | none => none) = some (v, σ') := h
    cases hb : eqV .nil (rdV G tm x) cv with
    | none => rw [hb] at h; cases h
    | some b =>
      rw [hb] at h
      simp only [Option.some.injEq, Prod.mk.injEq] at h
      obtain ⟨rfl, rfl⟩ := h
      have hconst : ∀ z, chkRd C z (.c cv) = true → ∃ cu, z = .const cu ∧ chkV cv cu = true := by
        intro z hz
        cases z <;> simp only [chkRd, Bool.false_eq_true] at hz
        exact ⟨_, rfl, hz⟩
      simp only [Bool.or_eq_true, Bool.and_eq_true] at h3
      rcases h3 with ⟨h4, h5⟩ | ⟨h4, h5⟩
      · obtain ⟨cu, rfl, hcu⟩ := hconst _ h5
        obtain ⟨⟨r1, r2⟩, -⟩ := run_nil (P := P) (t := t) (chkRd_rel hI ht h4) h2 hcu hb op' ng hop x'
        exact Out.same hI (u := .bool (if ng then !b else b)) (by
          have e : a.eval (.const cu) = cu := rfl
          simp only [execOp, ho, e, Sem.run_bind, r1, r2, Result.andThen_ok, Sem.run_pure]) (.bool _)
      · obtain ⟨cu, rfl, hcu⟩ := hconst _ h5
        obtain ⟨-, ⟨r1, r2⟩⟩ := run_nil (P := P) (t := t) (chkRd_rel hI ht h4) h2 hcu hb op' ng hop y'
        exact Out.same hI (u := .bool (if ng then !b else b)) (by
          have e : a.eval (.const cu) = cu := rfl
          simp only [execOp, ho, e, Sem.run_bind, r1, r2, Result.andThen_ok, Sem.run_pure]) (.bool _)
  | t n => subst hy; simp [isConstNil] at h2
  | f n => subst hy; simp [isConstNil] at h2
  | g n => subst hy; simp [isConstNil] at h2

end
end Go.Ev
