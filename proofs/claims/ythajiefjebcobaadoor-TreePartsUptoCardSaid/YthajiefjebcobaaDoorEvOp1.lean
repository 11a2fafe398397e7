/-
  Operations that leave memory alone: the small machine's answer is the model's.
-/
import Derived.Test.YthajiefjebcobaaDoorEvChk
import Derived.Laws.StructEq
import Derived.Laws.Strings2
import Derived.Laws.Concat
set_option linter.all false
set_option linter.unusedSimpArgs false
set_option linter.unusedVariables false
namespace Go.Ev
open Go

/-! ### Texts -/
def bl (s : ByteArray) : List Nat := s.data.toList.map UInt8.toNat

theorem bl_length (s : ByteArray) : (bl s).length = s.size := by rw [bl, List.length_map, Array.length_toList]; rfl
theorem bl_append (s t : ByteArray) : bl (s ++ t) = bl s ++ bl t := by simp [bl, ByteArray.data_append]
theorem bl_extract (s : ByteArray) (l h : Nat) : bl (s.extract l h) = ((bl s).drop l).take (h - l) := by
  simp [bl, ByteArray.data_extract, List.map_take, List.map_drop]
theorem bl_inj {s t : ByteArray} : bl s = bl t ↔ s = t := by
  constructor
  · intro h
    have h1 : s.data.toList = t.data.toList := (List.map_inj_right (fun _ _ e => UInt8.toNat_inj.1 e)).1 h
    cases s; cases t
    simp only [ByteArray.mk.injEq]
    exact Array.toList_inj.1 h1
  · rintro rfl; rfl
theorem bl_get {s : ByteArray} {k b : Nat} (h : (bl s)[k]? = some b) : ∃ u : UInt8, s[k]? = some u ∧ u.toNat = b := by
  simp only [bl, List.getElem?_map, Option.map_eq_some_iff] at h
  obtain ⟨u, hu, rfl⟩ := h
  have hk : k < s.size := by
    have := (List.getElem?_eq_some_iff.1 hu).1
    rwa [Array.length_toList] at this
  refine ⟨s[k], ByteArray.getElem?_lt' s k hk, ?_⟩
  congr 1
  rw [List.getElem?_eq_some_iff] at hu
  obtain ⟨h1, h2⟩ := hu
  rw [← h2]
  rfl
theorem bl_eq (s t : ByteArray) : (s.toList == t.toList) = (bl s == bl t) := by
  rw [ByteArray.toList_eq, ByteArray.toList_eq, Bool.eq_iff_iff, beq_iff_eq, beq_iff_eq]
  exact (List.map_inj_right (fun _ _ e => UInt8.toNat_inj.1 e)).symm
theorem bl_lt : ∀ (a b : List UInt8), Op.bytesLess a b = ltS (a.map UInt8.toNat) (b.map UInt8.toNat)
  | [], [] => rfl
  | _ :: _, [] => rfl
  | [], _ :: _ => rfl
  | x :: a, y :: b => by
    simp only [Op.bytesLess, List.map_cons, ltS, bl_lt a b]
    congr 1
    congr 1
    rw [Bool.eq_iff_iff]
    simp [UInt8.toNat_inj]

section
variable (P : Program) (C : Cfg) (G : List (List V)) (g : Gh) (σ : Store) (w : World)

/-- What an operation comes to. -/
def Out (o : Oper) (a : Act) (v : V) (σ' : Store) : Prop :=
  ∃ u w' g', ((execOp a.eval o).run P w = .ok (.value u) w' ∨ (execOp a.eval o).run P w = .ok .skip w' ∧ u = undef) ∧
    Inv C g' σ' w' G ∧ Le g σ w g' σ' w' ∧ VRel C g' σ' w' v u
end

section
variable {P : Program} {C : Cfg} {G : List (List V)} {g : Gh} {σ : Store} {w : World} {o : Oper} {a : Act} {v : V} {tm : List V}

theorem Out.same (hI : Inv C g σ w G) {u : Value} (h : (execOp a.eval o).run P w = .ok (.value u) w) (hv : VRel C g σ w v u) : Out P C G g σ w o a v σ :=
  ⟨u, w, g, .inl h, hI, Le.refl g σ w, hv⟩

variable (hI : Inv C g σ w G) (ht : VRels C g σ w tm a.tmps.toList) (dr : Bool) (nid : Nat) {σ' : Store}


include hI ht

theorem s_mov {x : Rd} (hc : chkOp P C o.op (.mov x) = true) (h : ev1 (rdV G tm) dr σ nid (.mov x) = some (v, σ')) : Out P C G g σ w o a v σ' := by
  simp only [ev1, Option.some.injEq, Prod.mk.injEq] at h
  obtain ⟨rfl, rfl⟩ := h
  cases ho : o.op <;> simp only [chkOp, ho, Bool.false_eq_true] at hc
  · exact Out.same hI (by simp [execOp, ho]) (chkRd_rel hI ht hc)
  · exact Out.same hI (by simp [execOp, ho]) (chkRd_rel hI ht hc)

theorem s_pick {c x y : Rd} (hc : chkOp P C o.op (.pick c x y) = true) (h : ev1 (rdV G tm) dr σ nid (.pick c x y) = some (v, σ')) : Out P C G g σ w o a v σ' := by
  cases ho : o.op <;> simp only [chkOp, ho, Bool.false_eq_true, Bool.and_eq_true] at hc
  rename_i c' x' y'
  obtain ⟨⟨h1, h2⟩, h3⟩ := hc
  have hb := chkRd_rel hI ht h1
  simp only [ev1] at h
  split at h
  · rename_i e
    rw [e] at hb
    generalize hu : a.eval c' = u at hb
    cases hb
    simp only [Option.some.injEq, Prod.mk.injEq] at h
    obtain ⟨rfl, rfl⟩ := h
    exact Out.same hI (by simp [execOp, ho, hu, asBool]) (chkRd_rel hI ht h2)
  · rename_i e
    rw [e] at hb
    generalize hu : a.eval c' = u at hb
    cases hb
    simp only [Option.some.injEq, Prod.mk.injEq] at h
    obtain ⟨rfl, rfl⟩ := h
    exact Out.same hI (by simp [execOp, ho, hu, asBool]) (chkRd_rel hI ht h3)
  · cases h

theorem s_nilck {x : Rd} (hc : chkOp P C o.op (.nilck x) = true) (h : ev1 (rdV G tm) dr σ nid (.nilck x) = some (v, σ')) : Out P C G g σ w o a v σ' := by
  cases ho : o.op <;> simp only [chkOp, ho, Bool.false_eq_true] at hc
  rename_i x'
  have hb := chkRd_rel hI ht hc
  simp only [ev1] at h
  split at h
  · rename_i e
    simp only [Option.some.injEq, Prod.mk.injEq] at h
    obtain ⟨rfl, rfl⟩ := h
    refine Out.same hI (u := a.eval x') ?_ hb
    generalize hu : a.eval x' = u at hb
    generalize rdV G tm x = vx at hb e
    cases hb
    case row h1 => obtain ⟨b, n, c, rfl⟩ := h1; simp [execOp, ho, hu]
    case rptr h1 => obtain ⟨b, rfl⟩ := h1; simp [execOp, ho, hu]
    case slnil hm => rcases hm with rfl | rfl | rfl <;> simp [isNil] at e
    all_goals first | (simp [isNil] at e; done) | simp [execOp, ho, hu]
  · cases h


omit hI ht in
theorem run_ari {t : TypeId} {op : BinOp} {x y : V} {u u' : Value} (hx : VRel C g σ w x u) (hy : VRel C g σ w y u') (h : ari op x y = some v) :
    ∃ z, (binOp op t u u').run P w = .ok z w ∧ VRel C g σ w v z ∧ ∀ p q, (eqGuard op t p q u u').run P w = .ok () w := by
  cases hx <;> cases hy <;> simp only [ari, Option.ite_none_left_eq_some, reduceCtorEq] at h
  · rename_i k a k' b
    have hg : ∀ p q, (eqGuard op t p q (.int k a) (.int k' b)).run P w = .ok () w := by intro p q; cases op <;> simp [eqGuard]
    cases op
    case shl =>
      simp only [Option.ite_none_left_eq_some, Option.some.injEq] at h
      obtain ⟨h1, rfl⟩ := h
      exact ⟨_, by simp [binOp, Op.shift, h1], .int _ _, hg⟩
    case shr =>
      simp only [Option.ite_none_left_eq_some, Option.some.injEq] at h
      obtain ⟨h1, rfl⟩ := h
      exact ⟨_, by simp [binOp, Op.shift, h1], .int _ _, hg⟩
    case quo =>
      simp only [Option.ite_none_right_eq_some, ariI, Option.ite_none_left_eq_some, Option.some.injEq] at h
      obtain ⟨rfl, h1, rfl⟩ := h
      exact ⟨_, by simp [binOp, Op.intDiv, h1], .int _ _, hg⟩
    case rem =>
      simp only [Option.ite_none_right_eq_some, ariI, Option.ite_none_left_eq_some, Option.some.injEq] at h
      obtain ⟨rfl, h1, rfl⟩ := h
      exact ⟨_, by simp [binOp, Op.intDiv, h1], .int _ _, hg⟩
    all_goals
      simp only [Option.ite_none_right_eq_some, ariI, Option.some.injEq] at h
      obtain ⟨rfl, rfl⟩ := h
      first
        | (refine ⟨.int k _, ?_, .int _ _, hg⟩; simp only [binOp, ne_eq, not_true_eq_false, if_false]; rfl)
        | (refine ⟨.bool _, ?_, .bool _, hg⟩; simp only [binOp, ne_eq, not_true_eq_false, if_false]; rfl)
  · rename_i l s hs l' s' hs'
    have e : bl s = l := hs
    have e' : bl s' = l' := hs'
    have hg : ∀ p q, (eqGuard op t p q (.string s) (.string s')).run P w = .ok () w := by intro p q; cases op <;> simp [eqGuard]
    have hlt : Op.bytesLess s.toList s'.toList = ltS l l' := by rw [ByteArray.toList_eq, ByteArray.toList_eq, bl_lt, ← e, ← e']; rfl
    have heq : (s.toList == s'.toList) = (l == l') := by rw [bl_eq, e, e']
    cases op <;> simp only [ariS, Option.some.injEq, Option.ite_none_right_eq_some, reduceCtorEq] at h
    case add =>
      obtain ⟨h1, rfl⟩ := h
      have hl : s.size + s'.size < 1099511627776 := by rw [← bl_length, ← bl_length, e, e']; exact h1
      have hle : ¬ (((s.size + s'.size : Nat) : Int) > IntKind.i64.max) := by
        have : IntKind.i64.max = 9223372036854775807 := by decide
        rw [this]; omega
      refine ⟨.string (s ++ s'), ?_, .str _ _ (by rw [← e, ← e']; exact bl_append s s'), hg⟩
      simp only [binOp, Op.stringOp]
      rw [if_neg hle]
      rfl
    all_goals
      subst h
      exact ⟨_, by simp only [binOp, Op.stringOp, hlt, heq]; rfl, .bool _, hg⟩

theorem s_ari {op : BinOp} {x y : Rd} (hc : chkOp P C o.op (.ari op x y) = true) (h : ev1 (rdV G tm) dr σ nid (.ari op x y) = some (v, σ')) : Out P C G g σ w o a v σ' := by
  cases ho : o.op <;> simp only [chkOp, ho, Bool.false_eq_true, Bool.and_eq_true] at hc
  rename_i op' t x' y' yt
  obtain ⟨⟨h1, h2⟩, h3⟩ := hc
  have e : op = op' := by simpa using h1
  subst e
  simp only [ev1, okV] at h
  split at h
  · rename_i z hz
    simp only [Option.some.injEq, Prod.mk.injEq] at h
    obtain ⟨rfl, rfl⟩ := h
    obtain ⟨u, h5, h6, h7⟩ := run_ari (P := P) (t := t) (chkRd_rel hI ht h2) (chkRd_rel hI ht h3) hz
    exact Out.same hI (u := u) (by simp [execOp, ho, h7, h5]) h6
  · cases h

omit hI ht in
theorem run_isAgg {t : TypeId} {b : Bool} (h : isAggT P t = some b) : (isAgg t).run P w = .ok b w := by
  unfold isAggT at h
  unfold isAgg
  split at h <;> first | cases h | skip
  · rename_i hu; rw [Sem.run_bind, run_underlying hu w]; rfl
  · rename_i hu; rw [Sem.run_bind, run_underlying hu w]; rfl
  · rename_i d h1 h2 hu
    rw [Sem.run_bind, run_underlying hu w]
    cases d <;> first | rfl | exact absurd rfl (h1 _) | exact absurd rfl (h2 _ _)

omit hI ht in
theorem ckIs_int {t : TypeId} (h : ckIs P t .int = true) : ∃ k, P.underlying t = some (.int k) := by
  simp only [ckIs] at h
  split at h
  · exact ⟨_, ‹_›⟩
  · cases h
omit hI ht in
theorem ckIs_bool {t : TypeId} (h : ckIs P t .bool = true) : P.underlying t = some .bool := by
  simp only [ckIs] at h
  split at h
  · assumption
  · cases h
omit hI ht in
theorem ckIs_str {t : TypeId} (h : ckIs P t .str = true) : P.underlying t = some .string := by
  simp only [ckIs] at h
  split at h
  · assumption
  · cases h
omit hI ht in
theorem ckIs_not {t : TypeId} {k : CK} (h : ckIs P t k = true) : isAggT P t = some false := by
  unfold isAggT
  cases k
  · obtain ⟨_, e⟩ := ckIs_int h; rw [e]
  · rw [ckIs_bool h]
  · rw [ckIs_str h]

omit hI ht in
theorem run_eq_fields (d : Nat) : ∀ (fs : List Field) (ks : List CK) (i : Nat) (cs ds : List V) (us vs : List Value) (b : Bool), VRels C g σ w cs us → VRels C g σ w ds vs →
    flatFields P i ks fs = true → eqCells ks (cs.drop i) (ds.drop i) = some b → (Op.eqFields (d + 1) us.toArray vs.toArray fs).run P w = .ok b w
  | [], ks, i, cs, ds, us, vs, b, hx, hy, hf, he => by
    cases ks with
    | cons => simp [flatFields] at hf
    | nil =>
      generalize cs.drop i = c at he
      generalize ds.drop i = e at he
      cases c <;> cases e <;> simp [eqCells] at he
      subst he
      simp [Op.eqFields]
  | f :: fs, ks, i, cs, ds, us, vs, b, hx, hy, hf, he => by
    cases ks with
    | nil => simp [flatFields] at hf
    | cons k ks =>
    simp only [flatFields, Bool.and_eq_true, bne_iff_ne, ne_eq, beq_iff_eq] at hf
    obtain ⟨⟨⟨hn, hoff⟩, hty⟩, hrest⟩ := hf
    rcases Nat.lt_or_ge i cs.length with hi | hi
    rotate_left
    · rw [List.drop_of_length_le hi] at he; cases k <;> simp [eqCells] at he
    rcases Nat.lt_or_ge i ds.length with hj | hj
    rotate_left
    · rw [List.drop_of_length_le hj] at he
      generalize cs.drop i = c at he
      cases k <;> cases c <;> simp [eqCells] at he
    rw [List.drop_eq_getElem_cons hi, List.drop_eq_getElem_cons hj] at he
    obtain ⟨u, hu, hru⟩ := hx.get (List.getElem?_eq_getElem hi)
    obtain ⟨u', hu', hru'⟩ := hy.get (List.getElem?_eq_getElem hj)
    have ih := run_eq_fields d fs ks (i + 1) cs ds us vs
    have hpart : ∀ (l : List Value) (z : Value), l[i]? = some z → (part f.type l.toArray f.offset).run P w = .ok z w := by
      intro l z hz
      have : (isAgg f.type).run P w = .ok false w := run_isAgg (ckIs_not hty)
      simp [part, this, hoff, hz]
    simp only [Op.eqFields, ne_eq, hn, not_false_eq_true, if_true, Sem.run_bind, hpart us u hu, hpart vs u' hu', Result.andThen_ok]
    generalize cs[i] = c at he hru
    generalize ds[i] = e at he hru'
    cases hE : eqCells ks (cs.drop (i + 1)) (ds.drop (i + 1)) with
    | none => cases k <;> cases hru <;> cases hru' <;> simp [eqCells, hE] at he
    | some b' =>
    have hih := ih b' hx hy hrest hE
    cases k with
    | int =>
      obtain ⟨kk, hu0⟩ := ckIs_int hty
      cases hru <;> cases hru' <;> simp only [eqCells, reduceCtorEq, Option.ite_none_right_eq_some, hE, Option.some.injEq] at he
      rename_i n _ n'
      obtain ⟨rfl, rfl⟩ := he
      rw [run_equalIn_int w d f.type _ _ _ _ hu0]
      cases hnn : (n == n') <;> simp [hih, Result.andThen]
    | bool =>
      have hu0 := ckIs_bool hty
      cases hru <;> cases hru' <;> simp only [eqCells, reduceCtorEq, hE, Option.some.injEq] at he
      rename_i n n'
      subst he
      rw [run_equalIn_bool' w d f.type _ _ hu0]
      cases hnn : (n == n') <;> simp [hih, Result.andThen]
    | str =>
      have hu0 := ckIs_str hty
      cases hru <;> cases hru' <;> simp only [eqCells, reduceCtorEq, hE, Option.some.injEq] at he
      rename_i l s hs l' s' hs'
      subst he
      rw [run_equalIn_string w d f.type _ _ hu0]
      have e0 : (s.toList == s'.toList) = (l == l') := by
        rw [bl_eq]
        have e : bl s = l := hs
        have e' : bl s' = l' := hs'
        rw [e, e']
      rw [e0]
      cases hnn : (l == l') <;> simp [hih, Result.andThen]

end
end Go.Ev
