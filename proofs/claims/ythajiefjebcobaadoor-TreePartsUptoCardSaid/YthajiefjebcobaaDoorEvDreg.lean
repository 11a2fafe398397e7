/-
  Regions that draw their order: the model's side.
-/
import Derived.Test.YthajiefjebcobaaDoorEvReg
set_option linter.all false
set_option linter.unusedSimpArgs false
set_option linter.unusedVariables false
namespace Go.Ev
open Go

/-- Which operations are ahead of one for sure, by the program's own word. -/
def directOf (o : Oper) : List Nat := (o.after.toList.filter (Region.binds .any)).map (·.on)

def apartB (j p : Nat) (x : IOper × Ord) (y : IOper × Ord) : Bool :=
  (match x.1.dst with | some t => !y.1.reads.contains t | none => true) &&
  (match y.1.dst with | some t => !x.1.reads.contains t | none => true) &&
  (x.1.dst == none || x.1.dst != y.1.dst) &&
  (x.2.cx.contains p == y.2.cx.contains j) &&
  (x.2.cx.contains p || x.1.op.pu || y.1.op.pu || (x.1.op.ro && y.1.op.ro))

/-- Behind the i-th: everything that is not ahead of it for sure may change places with it. -/
def chkOrd (m : Nat) (l : List (IOper × Ord)) (i : Nat) (o : Oper) (x : IOper × Ord) : Bool :=
  ((directOf o).all fun k => k < i) &&
  (x.2.aft.all fun j => (directOf o).contains j || (directOf o).any fun k => match l[k]? with | some y => y.2.aft.contains j | none => false) &&
  ((List.range i).all fun j => x.2.aft.contains j || match l[j]? with | some y => apartB j i y x | none => false) &&
  (!allocs x.1.op || x.2.slot.getD 0 < m)

def chkDraw (m : Nat) (ops : Array Oper) (l : List (IOper × Ord)) : Bool :=
  ops.size == l.length && (List.range l.length).all fun i => match ops[i]?, l[i]? with
    | some o, some x => chkOrd m l i o x
    | _, _ => false

theorem apartB_spec {j p : Nat} {x y : IOper × Ord} (hne : j ≠ p) (h : apartB j p x y = true) : Apart j p x.1 x.2 y.1 y.2 := by
  simp only [apartB, Bool.and_eq_true, Bool.or_eq_true, beq_iff_eq] at h
  obtain ⟨⟨⟨⟨h1, h2⟩, h3⟩, h4⟩, h5⟩ := h
  refine ⟨hne, fun t ht => ?_, fun t ht => ?_, ?_, ?_, ?_⟩
  · rw [ht] at h1; simpa using h1
  · rw [ht] at h2; simpa using h2
  · rcases h3 with h3 | h3
    · exact .inl (by simpa using h3)
    · exact .inr (by simpa using h3)
  · rw [Bool.eq_iff_iff] at h4
    simpa using h4
  · rcases h5 with ((h5 | h5) | h5) | h5
    · exact .inl (by simpa using h5)
    · exact .inr (.inl h5)
    · exact .inr (.inr (.inl h5))
    · exact .inr (.inr (.inr h5))

theorem chkDraw_spec {m : Nat} {ops : Array Oper} {l : List (IOper × Ord)} (h : chkDraw m ops l = true) :
    ops.size = l.length ∧ ∀ (i : Nat) (o : Oper) (x : IOper × Ord), ops[i]? = some o → l[i]? = some x →
      (∀ k ∈ directOf o, k < i) ∧
      (∀ j ∈ x.2.aft, j ∈ directOf o ∨ ∃ k ∈ directOf o, ∃ y, l[k]? = some y ∧ j ∈ y.2.aft) ∧
      (∀ j, j < i → j ∉ x.2.aft → ∃ y, l[j]? = some y ∧ Apart j i y.1 y.2 x.1 x.2) ∧
      (allocs x.1.op = true → x.2.slot.getD 0 < m) := by
  simp only [chkDraw, Bool.and_eq_true, beq_iff_eq] at h
  obtain ⟨h1, h2⟩ := h
  refine ⟨h1, fun i o x ho hx => ?_⟩
  have hi : i < l.length := (List.getElem?_eq_some_iff.1 hx).1
  have := List.all_eq_true.1 h2 i (List.mem_range.2 hi)
  rw [ho, hx] at this
  simp only [chkOrd, Bool.and_eq_true] at this
  obtain ⟨⟨⟨a1, a2⟩, a3⟩, a4⟩ := this
  refine ⟨fun k hk => ?_, fun j hj => ?_, fun j hj hja => ?_, fun ha => ?_⟩
  · simpa using List.all_eq_true.1 a1 k hk
  · have := List.all_eq_true.1 a2 j hj
    simp only [Bool.or_eq_true, List.any_eq_true] at this
    rcases this with h | ⟨k, hk, h⟩
    · exact .inl (by simpa using h)
    · right
      refine ⟨k, hk, ?_⟩
      split at h
      · rename_i y hy
        exact ⟨y, hy, by simpa using h⟩
      · cases h
  · have := List.all_eq_true.1 a3 j (List.mem_range.2 hj)
    simp only [Bool.or_eq_true] at this
    rcases this with h | h
    · exact absurd (by simpa using h) hja
    · split at h
      · rename_i y hy
        exact ⟨y, hy, apartB_spec (Nat.ne_of_lt hj) h⟩
      · cases h
  · rw [ha] at a4
    simpa using a4

section
variable {P : Program} {C : Cfg} {G : List (List V)}

/-- The state of a region that draws, as the machine sees it. -/
structure DRel (C : Cfg) (G : List (List V)) (g0 : Gh) (σ0 : Store) (w0 : World) (g : Gh) (D : DSt) (a : Act) (w : World) : Prop where
  inv : Inv C g D.σ w G
  tm : VRels C g D.σ w D.tm a.tmps.toList
  dfs : a.defers = []
  le : Le g0 σ0 w0 g D.σ w
  len : σ0.length ≤ D.σ.length
  cl : ∀ b, b ≤ σ0.length → Closed σ0 b → broken (D.log.flatMap (·.2)) b = false → Closed D.σ b

theorem broken_flat {L : List (Fp × Esc)} {b : Nat} : broken (L.flatMap (·.2)) b = false ↔ ∀ p ∈ L, broken p.2 b = false := by
  induction L with
  | nil => simp [broken]
  | cons p L ih => rw [List.flatMap_cons, broken_append, ih]; simp

/-- One step, whenever it comes. -/
theorem dstep_ok (hT : C.tys.Nodup) (hF : FnsOk P C) (hG : GOk G) {go : Job → Option Res} (hgo : CallOk P C G go) {ops : Array Oper} {b0 i : Nat} {o : Oper} {x : IOper} {d : Ord} {D D' : DSt}
    (ho : ops[i]? = some o) (hc : chkOper P C ops o x = true) (hil : i < D.log.length) (hi0 : D.log.getD i (Fp.nil, []) = (Fp.nil, [])) (h : dstep go G b0 i x d D = some D')
    {g0 g : Gh} {σ0 : Store} {w0 w : World} {a : Act} (hD : DRel C G g0 σ0 w0 g D a w) {K : Act → World → Prop} {Q : Exit → Act → World → Prop} (hK : ∀ g' a' w', DRel C G g0 σ0 w0 g' D' a' w' → K a' w') :
    wpOp P ops Q i K a w := by
  simp only [chkOper, Bool.and_eq_true, beq_iff_eq] at hc
  obtain ⟨⟨hdst, hgd⟩, hop⟩ := hc
  unfold dstep at h
  split at h
  · cases h
  rename_i v σ' fp ec hdr
  simp only [Option.ite_none_left_eq_some, Option.some.injEq] at h
  obtain ⟨-, rfl⟩ := h
  have hlog : ∀ b, broken ((D.log.set i (fp, ec)).flatMap (·.2)) b = false → broken (D.log.flatMap (·.2)) b = false ∧ broken ec b = false := by
    intro b hb
    rw [broken_flat] at hb
    refine ⟨broken_flat.2 fun p hp => ?_, hb (fp, ec) (List.mem_iff_getElem.2 ⟨i, by simpa using hil, by simp⟩)⟩
    obtain ⟨k, hk, rfl⟩ := List.mem_iff_getElem.1 hp
    by_cases e : k = i
    · subst e
      have : D.log[k] = (Fp.nil, []) := by
        rw [List.getD_eq_getElem?_getD, List.getElem?_eq_getElem hk] at hi0
        exact hi0
      rw [this]; rfl
    · exact hb _ (List.mem_iff_getElem.2 ⟨k, by simpa using hk, by rw [List.getElem_set_ne (Ne.symm e)]⟩)
  have fin : ∀ (g' : Gh) (a' : Act) (w' : World), Inv C g' σ' w' G → Le g D.σ w g' σ' w' → Keeps D.σ σ' ec → VRels C g' σ' w' (putT D.tm x.dst v) a'.tmps.toList → a'.defers = [] → K a' w' :=
    fun g' a' w' hI' hle hk htm hdf => hK g' a' w' ⟨hI', htm, hdf, hD.le.trans hle, Nat.le_trans hD.len hk.len, fun b hb hcl hbr => by
      obtain ⟨h1, h2⟩ := hlog b hbr
      exact hk.cl b (Nat.le_trans hb hD.len) (hD.cl b hb hcl h1) h2⟩
  unfold wpOp
  rw [ho]
  simp only
  unfold draw1 at hdr
  split at hdr
  · cases hdr
  · rename_i hw
    have hwr := wanted_rel (ops := ops) hgd hD.tm hw
    rw [if_neg (by rw [hwr]; exact Bool.false_ne_true)]
    simp only [Option.some.injEq, Prod.mk.injEq] at hdr
    obtain ⟨rfl, rfl, rfl, rfl⟩ := hdr
    rw [hdst]
    exact fin g _ w hD.inv (Le.refl _ _ _) (.refl _) (put_rel hD.tm .skip x.dst) (by rw [put_defers]; exact hD.dfs)
  · rename_i hw
    have hwr := wanted_rel (ops := ops) hgd hD.tm hw
    rw [if_pos hwr]
    left
    split at hdr
    · rename_i deep keep f args hyo
      split at hdr
      rotate_left
      · cases hdr
      rename_i v1 s1 ec1 dp hcall
      split at hdr
      rotate_left
      · cases hdr
      simp only [Option.some.injEq, Prod.mk.injEq] at hdr
      obtain ⟨rfl, rfl, -, rfl⟩ := hdr
      refine op_call hF hG hgo hD.inv hD.tm hyo hdst hop hcall (fun v' u w' g' e hI' hle hk htm => ?_) (fun v' u w' g' e => by cases e)
      cases e
      exact fin g' _ w' hI' hle hk htm (by rw [put_defers]; exact hD.dfs)
    · split at hdr
      · cases hdr
      rename_i hfree
      split at hdr
      rotate_left
      · cases hdr
      rename_i v1 s1 hev
      simp only [Option.some.injEq, Prod.mk.injEq] at hdr
      obtain ⟨rfl, rfl, -, rfl⟩ := hdr
      have hroom : allocs x.op = true → Room D.σ (b0 + d.slot.getD 0) := by
        intro ha
        right
        rw [ha] at hfree
        simp only [Bool.true_and, Bool.not_eq_true', Bool.not_eq_false] at hfree
        cases hx : D.σ[b0 + d.slot.getD 0]? with
        | none => rw [hx] at hfree; cases hfree
        | some ob => cases ob <;> first | rfl | (rw [hx] at hfree; cases hfree)
      have hle' : allocs x.op = true → b0 + d.slot.getD 0 ≤ D.σ.length := fun ha => (hroom ha).le
      refine op_ok (nid := b0 + d.slot.getD 0) hT hD.inv hD.tm hroom hdst hop hev (fun u w' g' hI' hle htm => ?_)
      exact fin g' _ w' hI' hle ⟨ev1_grow hle' hev, fun b hb hcl hbr => ev1_keeps hcl hle' hbr hev⟩ htm (by rw [put_defers]; exact hD.dfs)

theorem direct_mem {o : Oper} {k : Nat} : k ∈ directOf o ↔ ∃ e ∈ o.after, Region.binds .any e = true ∧ e.on = k := by
  simp only [directOf, List.mem_map, List.mem_filter, Array.mem_toList_iff]
  constructor
  · rintro ⟨e, ⟨h1, h2⟩, h3⟩; exact ⟨e, h1, h2, h3⟩
  · rintro ⟨e, h1, h2, h3⟩; exact ⟨e, ⟨h1, h2⟩, h3⟩

/-- Any order. -/
theorem any_ok (hT : C.tys.Nodup) (hF : FnsOk P C) (hG : GOk G) {go : Job → Option Res} (hgo : CallOk P C G go) {ops : Array Oper} {l : List (IOper × Ord)} {m b0 : Nat} (hd : chkDraw m ops l = true)
    (hc : chkOpers P C ops ops.toList (l.map (·.1)) = true) {g0 : Gh} {σ0 : Store} {w0 : World} {Q : Exit → Act → World → Prop} {Df : DSt} (hQ : ∀ g a w, DRel C G g0 σ0 w0 g Df a w → Q .normal a w) :
    ∀ (n : Nat) (rem : List Nat) (listed : Array Bool) (D : DSt) (g : Gh) (a : Act) (w : World), rem.length = n → rem.Pairwise (· < ·) → (∀ i, i ∈ rem ↔ listed.getD i true = false) → (∀ i ∈ rem, i < ops.size) → listed.size = ops.size →
      (∀ (i : Nat) (o : Oper), ops[i]? = some o → i ∉ rem → ∀ k ∈ directOf o, k ∉ rem) → Fit b0 l D rem → runL go G b0 l rem D = some Df → DRel C G g0 σ0 w0 g D a w →
      wpAny P .any ops Q n listed a w := by
  obtain ⟨hsz, hsp⟩ := chkDraw_spec hd
  -- an operation and what it is lowered to
  have hat : ∀ i, i < ops.size → ∃ o x, ops[i]? = some o ∧ l[i]? = some x ∧ chkOper P C ops o x.1 = true := by
    have gen : ∀ (os : List Oper) (xs : List IOper) (i : Nat), chkOpers P C ops os xs = true → i < os.length → ∃ o x, os[i]? = some o ∧ xs[i]? = some x ∧ chkOper P C ops o x = true := by
      intro os
      induction os with
      | nil => intro xs i _ hi; simp at hi
      | cons o os ih =>
        intro xs i hc hi
        cases xs with
        | nil => simp [chkOpers] at hc
        | cons x xs =>
          simp only [chkOpers, Bool.and_eq_true] at hc
          cases i with
          | zero => exact ⟨o, x, rfl, rfl, hc.1⟩
          | succ i => simpa using ih xs i hc.2 (by simpa using hi)
    intro i hi
    obtain ⟨o, x, h1, h2, h3⟩ := gen _ _ i hc (by simpa using hi)
    rw [List.getElem?_map] at h2
    cases hx : l[i]? with
    | none => rw [hx] at h2; cases h2
    | some y =>
      rw [hx] at h2
      simp only [Option.map_some, Option.some.injEq] at h2
      subst h2
      exact ⟨o, y, by simpa using h1, rfl, h3⟩
  intro n
  induction n with
  | zero =>
    intro rem listed D g a w hlen hpw hm hlt hls hdown hfit hrun hD
    have hrem : rem = [] := List.eq_nil_of_length_eq_zero hlen
    subst hrem
    simp only [runL, Option.some.injEq] at hrun
    subst hrun
    refine ⟨?_, hQ g a w hD⟩
    cases hr : Region.ready .any ops listed with
    | nil => rfl
    | cons i is =>
      have : i ∈ Region.ready .any ops listed := by rw [hr]; simp
      obtain ⟨h1, -⟩ := mem_ready.1 this
      have := (hm i).2 h1
      simp at this
  | succ n ih =>
    intro rem listed D g a w hlen hpw hm hlt hls hdown hfit hrun hD
    have hlist : ∀ k, k < ops.size → k ∉ rem → listed.getD k false = true := by
      intro k hk hkr
      have h1 : listed.getD k true ≠ false := fun e => hkr ((hm k).2 e)
      rw [← hls] at hk
      simp only [Array.getD_eq_getD_getElem?, Array.getElem?_eq_getElem hk, Option.getD_some] at h1 ⊢
      simpa using h1
    refine ⟨fun hr => ?_, fun p hp => ?_⟩
    · -- the first that is left is ready
      exfalso
      cases rem with
      | nil => simp at hlen
      | cons i rem =>
        obtain ⟨o, x, ho, hx, -⟩ := hat i (hlt i (by simp))
        have hready : i ∈ Region.ready .any ops listed := by
          refine mem_ready.2 ⟨(hm i).1 (by simp), o, ho, fun e he hb => ?_⟩
          have hk : e.on ∈ directOf o := direct_mem.2 ⟨e, he, hb, rfl⟩
          have hki := (hsp i o x ho hx).1 e.on hk
          refine hlist _ (by have := hlt i (by simp); omega) fun hin => ?_
          rcases List.mem_cons.1 hin with e1 | hin
          · omega
          · have := (List.pairwise_cons.1 hpw).1 _ hin
            omega
        rw [hr] at hready
        cases hready
    · obtain ⟨hp1, o, ho, hedge⟩ := mem_ready.1 hp
      have hprem := (hm p).2 hp1
      obtain ⟨o', x, ho', hx, hco⟩ := hat p (hlt p hprem)
      rw [ho] at ho'
      cases ho'
      -- what is ahead of it is listed
      have hdir : ∀ k ∈ directOf o, k ∉ rem := by
        intro k hk hin
        obtain ⟨e, he, hb, rfl⟩ := direct_mem.1 hk
        have h1 := hedge e he hb
        have h2 := (hm _).1 hin
        simp only [Array.getD_eq_getD_getElem?] at h1 h2
        cases hv : listed[e.on]? with
        | none => rw [hv] at h1; cases h1
        | some v => rw [hv] at h1 h2; simp_all
      have hanc : ∀ (k : Nat), ∀ o y, ops[k]? = some o → l[k]? = some y → (∀ j ∈ directOf o, j ∉ rem) → ∀ j ∈ y.2.aft, j ∉ rem := by
        intro k
        induction k using Nat.strongRecOn with
        | _ k ihk =>
          intro o y ho hy hdo j hj
          obtain ⟨c1, c2, -, -⟩ := hsp k o y ho hy
          rcases c2 j hj with h | ⟨k', hk', y', hy', hj'⟩
          · exact hdo j h
          · have hlt' := c1 k' hk'
            have hks : k' < ops.size := by rw [hsz]; exact (List.getElem?_eq_some_iff.1 hy').1
            have ho2 : ops[k']? = some ops[k'] := Array.getElem?_eq_getElem hks
            exact ihk k' hlt' _ y' ho2 hy' (hdown k' _ ho2 (hdo k' hk')) j hj'
      obtain ⟨pre, post, rfl⟩ := List.append_of_mem hprem
      have hpl : ∀ j ∈ pre, j < p := by
        intro j hj
        exact (List.pairwise_append.1 hpw).2.2 j hj p (by simp)
      have hap : ∀ j ∈ pre, ApartAt l j p := by
        intro j hj oi di op dp hoi hop
        rw [hx] at hop
        cases hop
        have hja : j ∉ dp.aft := fun h => (hanc p o _ ho hx hdir j h) (by simp [hj])
        obtain ⟨y, hy, hya⟩ := (hsp p o _ ho hx).2.2.1 j (hpl j hj) hja
        rw [hoi] at hy
        cases hy
        exact hya
      obtain ⟨D', hstep, hrun'⟩ := bubble hfit hap hrun
      have hstep2 := hstep
      unfold stepAt at hstep
      rw [hx] at hstep
      obtain ⟨hl1, hl2⟩ := hfit.log p hprem
      have hnd := hfit.nodup
      have hnd2 : (pre ++ post).Nodup ∧ p ∉ pre ++ post := by
        rw [List.nodup_append] at hnd
        obtain ⟨n1, n2, n3⟩ := hnd
        rw [List.nodup_cons] at n2
        refine ⟨List.nodup_append.2 ⟨n1, n2.2, fun a ha b hb => n3 a ha b (by simp [hb])⟩, ?_⟩
        simp only [List.mem_append, not_or]
        exact ⟨fun h => n3 p h p (by simp) rfl, n2.1⟩
      have hfit' : Fit b0 l D' (pre ++ post) := by
        refine stepAt_fit (i := p) (rem := pre ++ post) ⟨List.nodup_cons.2 ⟨hnd2.2, hnd2.1⟩, fun i hi => hfit.log i ?_, fun i hi => hfit.slot i ?_⟩ hstep2
        · simp only [List.mem_cons, List.mem_append] at hi ⊢
          rcases hi with h | h | h
          · exact .inr (.inl h)
          · exact .inl h
          · exact .inr (.inr h)
        · simp only [List.mem_cons, List.mem_append] at hi ⊢
          rcases hi with h | h | h
          · exact .inr (.inl h)
          · exact .inl h
          · exact .inr (.inr h)
      refine dstep_ok hT hF hG hgo ho hco hl1 hl2 hstep hD fun g' a' w' hD' => ?_
      have hmem : ∀ i, i ∈ pre ++ post ↔ i ∈ pre ++ p :: post ∧ i ≠ p := by
        intro i
        simp only [List.mem_append, List.mem_cons]
        constructor
        · intro h
          refine ⟨by rcases h with h | h; exact .inl h; exact .inr (.inr h), fun e => hnd2.2 (by subst e; simpa using h)⟩
        · rintro ⟨h | h | h, hne⟩
          · exact .inl h
          · exact absurd h hne
          · exact .inr h
      refine ih (pre ++ post) _ D' g' a' w' (by simp at hlen ⊢; omega) ?_ (fun i => ?_) (fun i hi => hlt i ((hmem i).1 hi).1) (by simpa using hls) (fun i oi hoi hni k hk hkr => ?_) hfit' hrun' hD'
      · rw [List.pairwise_append] at hpw ⊢
        refine ⟨hpw.1, (List.pairwise_cons.1 hpw.2.1).2, fun a ha b hb => hpw.2.2 a ha b (by simp [hb])⟩
      · rw [hmem]
        by_cases e : i = p
        · subst e
          have hls' : i < listed.size := by rw [hls]; exact hlt i hprem
          simp [Array.getD_eq_getD_getElem?, hls']
        · rw [getD_set_ne _ (Ne.symm e), ← hm i]
          simp [e]
      · obtain ⟨hk1, hk2⟩ := (hmem k).1 hkr
        by_cases e : i = p
        · subst e
          rw [ho] at hoi
          cases hoi
          exact hdir k hk hk1
        · exact hdown i oi hoi (fun h => hni ((hmem i).2 ⟨h, e⟩)) k hk hk1
end
end Go.Ev
