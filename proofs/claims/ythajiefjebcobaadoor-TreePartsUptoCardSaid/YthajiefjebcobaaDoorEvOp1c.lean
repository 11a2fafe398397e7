/-
  Operations that leave memory alone, the rest.
-/
import Derived.Test.YthajiefjebcobaaDoorEvOp1b
import Derived.Laws.Slices
import Derived.Laws.Cells
set_option linter.all false
set_option linter.unusedSimpArgs false
set_option linter.unusedVariables false
namespace Go.Ev
open Go

section
variable {P : Program} {C : Cfg} {G : List (List V)} {g : Gh} {σ : Store} {w : World} {o : Oper} {a : Act} {v : V} {tm : List V}
variable (hI : Inv C g σ w G) (ht : VRels C g σ w tm a.tmps.toList) (dr : Bool) (nid : Nat) {σ' : Store}

theorem okV_some {x : Option V} {s s' : Store} {z : V} (h : okV s x = some (z, s')) : x = some z ∧ s' = s := by
  cases x <;> simp only [okV, Option.some.injEq, Prod.mk.injEq, reduceCtorEq] at h
  exact ⟨by rw [h.1], h.2.symm⟩

theorem szIs_size {t : TypeId} {n : Nat} (h : szIs P t n = true) : (sizeOf t).run P w = .ok n w := by
  unfold szIs at h
  split at h
  · rename_i i hi
    have e : i.size = n := by simpa using h
    simp [sizeOf, typeInfo, hi, e]
  · cases h
theorem szIs_info {t : TypeId} {n : Nat} (h : szIs P t n = true) : ∃ i, P.info? t = some i ∧ i.size = n := by
  unfold szIs at h
  split at h
  · rename_i i hi
    exact ⟨i, hi, by simpa using h⟩
  · cases h
theorem elemT_under {t e : TypeId} (h : elemT P t = some e) : P.underlying t = some (.slice e) := by
  unfold elemT at h
  split at h
  · rename_i e' he
    simp only [Option.some.injEq] at h
    rw [← h]; exact he
  · cases h

include hI ht

theorem bnd_rel {lo : Option Rd} {l : Option Operand} (hc : chkRdO C l lo = true) {d k : Nat} (h : bnd d (lo.map (rdV G tm)) = some k) :
    (l = none ∧ lo = none ∧ k = d) ∨ ∃ x' kd i, l = some x' ∧ lo.isSome ∧ a.eval x' = .int kd i ∧ 0 ≤ i ∧ k = i.toNat := by
  cases l <;> cases lo <;> simp only [chkRdO, Bool.false_eq_true] at hc
  · simp only [Option.map_none, bnd, Option.some.injEq] at h
    exact .inl ⟨rfl, rfl, h.symm⟩
  · rename_i x' y
    have hr := chkRd_rel hI ht hc
    simp only [Option.map_some] at h
    generalize rdV G tm y = vy at h hr
    cases vy <;> simp only [bnd, reduceCtorEq, Option.ite_none_right_eq_some, Option.some.injEq] at h
    exact .inr ⟨x', _, _, rfl, rfl, inv_int hr, h.1, h.2.symm⟩

theorem run_bounds {lo hi mx : Option Rd} {l h m : Option Operand} (hl : chkRdO C l lo = true) (hh : chkRdO C h hi = true) (hm : chkRdO C m mx = true) (hmh : mx.isSome → hi.isSome)
    (isS : Bool) {len cap dm L H M : Nat} (h1 : bnd 0 (lo.map (rdV G tm)) = some L) (h2 : bnd len (hi.map (rdV G tm)) = some H) (h3 : bnd dm (mx.map (rdV G tm)) = some M)
    (h4 : L ≤ H) (h5 : H ≤ M) (h6 : M ≤ cap) :
    (Instr.sliceBounds isS len cap (l.map a.eval) (h.map a.eval) (m.map a.eval)).run P w = .ok (L, H, if mx.isSome then M else cap) w := by
  have r1 := bnd_rel hI ht hl h1
  have r2 := bnd_rel hI ht hh h2
  have r3 := bnd_rel hI ht hm h3
  rcases r3 with ⟨rfl, rfl, rfl⟩ | ⟨x', kd, i, rfl, hs, e, h0, rfl⟩
  · rcases r2 with ⟨rfl, -, rfl⟩ | ⟨y', ky, iy, rfl, -, ey, hy, rfl⟩ <;> rcases r1 with ⟨rfl, -, rfl⟩ | ⟨z', kz, iz, rfl, -, ez, hz, rfl⟩
    · simp [Instr.sliceBounds]
    · simp [Instr.sliceBounds, ez, run_sliceBound w kz iz H _ hz (by omega : iz ≤ (H : Int))]
    · simp [Instr.sliceBounds, ey, run_sliceBound w ky iy cap _ hy (by omega : iy ≤ (cap : Int))]
    · simp [Instr.sliceBounds, ey, ez, run_sliceBound w ky iy cap _ hy (by omega : iy ≤ (cap : Int)), run_sliceBound w kz iz iy.toNat _ hz (by omega : iz ≤ ((iy.toNat : Nat) : Int))]
  · rcases r2 with ⟨rfl, rfl, rfl⟩ | ⟨y', ky, iy, rfl, -, ey, hy, rfl⟩
    · exact absurd (hmh hs) (by simp)
    · rcases r1 with ⟨rfl, -, rfl⟩ | ⟨z', kz, iz, rfl, -, ez, hz, rfl⟩
      · simp [Instr.sliceBounds, e, ey, hs, run_sliceBound w kd i cap _ h0 (by omega : i ≤ (cap : Int)), run_sliceBound w ky iy i.toNat _ hy (by omega : iy ≤ ((i.toNat : Nat) : Int))]
      · simp [Instr.sliceBounds, e, ey, ez, hs, run_sliceBound w kd i cap _ h0 (by omega : i ≤ (cap : Int)), run_sliceBound w ky iy i.toNat _ hy (by omega : iy ≤ ((i.toNat : Nat) : Int)),
          run_sliceBound w kz iz iy.toNat _ hz (by omega : iz ≤ ((iy.toNat : Nat) : Int))]

theorem s_un {op : UnOp} {x : Rd} (hc : chkOp P C o.op (.un op x) = true) (h : ev1 (rdV G tm) dr σ nid (.un op x) = some (v, σ')) : Out P C G g σ w o a v σ' := by
  cases ho : o.op <;> simp only [chkOp, ho, Bool.false_eq_true, Bool.and_eq_true] at hc
  rename_i op' t x'
  obtain ⟨h1, h2⟩ := hc
  have e : op = op' := by simpa using h1
  subst e
  have hx := chkRd_rel hI ht h2
  simp only [ev1] at h
  obtain ⟨hz, rfl⟩ := okV_some h
  generalize rdV G tm x = vx at hz hx
  cases vx <;> simp only [unV, reduceCtorEq] at hz
  · rename_i k n
    have e := inv_int hx
    cases op <;> simp only [reduceCtorEq, Option.some.injEq] at hz
    subst hz
    exact Out.same hI (u := .int k (k.wrap (0 - n))) (by simp [execOp, ho, e, Op.unary, Op.intArith]) (.int _ _)
  · rename_i b
    have e := inv_bool hx
    cases op <;> simp only [reduceCtorEq, Option.some.injEq] at hz
    subst hz
    exact Out.same hI (u := .bool (!b)) (by simp [execOp, ho, e, Op.unary]) (.bool _)

theorem s_conv {k : IntKind} {x : Rd} (hc : chkOp P C o.op (.conv k x) = true) (h : ev1 (rdV G tm) dr σ nid (.conv k x) = some (v, σ')) : Out P C G g σ w o a v σ' := by
  cases ho : o.op <;> simp only [chkOp, ho, Bool.false_eq_true, Bool.and_eq_true] at hc
  rename_i s d x'
  obtain ⟨⟨h1, h2⟩, h3⟩ := hc
  have hx := chkRd_rel hI ht h3
  split at h2
  rotate_left
  · cases h2
  rename_i k' hd
  have e : k = k' := by simpa using h2
  subst e
  obtain ⟨ds, hs⟩ := Option.isSome_iff_exists.1 h1
  simp only [ev1] at h
  generalize rdV G tm x = vx at h hx
  cases vx <;> simp only [reduceCtorEq, Option.some.injEq, Prod.mk.injEq] at h
  rename_i k0 n
  obtain ⟨rfl, rfl⟩ := h
  have e := inv_int hx
  refine Out.same hI (u := .int k (k.wrap n)) ?_ (.int _ _)
  simp only [execOp, ho, e, convert, Sem.run_bind, run_underlying hs, run_underlying hd, Result.andThen_ok]
  rfl

theorem s_mki {tag : Nat} {x : Rd} (hc : chkOp P C o.op (.mki tag x) = true) (h : ev1 (rdV G tm) dr σ nid (.mki tag x) = some (v, σ')) : Out P C G g σ w o a v σ' := by
  cases ho : o.op <;> simp only [chkOp, ho, Bool.false_eq_true, Bool.and_eq_true] at hc
  rename_i t x'
  obtain ⟨⟨h1, h2⟩, h3⟩ := hc
  have hx := chkRd_rel hI ht h3
  simp only [ev1, Option.some.injEq, Prod.mk.injEq] at h
  obtain ⟨rfl, rfl⟩ := h
  refine Out.same hI (u := .iface t (a.eval x')) ?_ (.ifc tag _ t _ (by simpa using h1) hx)
  unfold notIface at h2
  split at h2
  · cases h2
  · rename_i d hd hu
    simp only [execOp, ho, Instr.makeInterface, Sem.run_bind, run_underlying hu, Result.andThen_ok]
    cases d <;> first | rfl | exact absurd hu (hd _)
  · cases h2

theorem s_asrt (hT : C.tys.Nodup) {tag : Nat} {z : V} {x : Rd} (hc : chkOp P C o.op (.asrt tag z x) = true) (h : ev1 (rdV G tm) dr σ nid (.asrt tag z x) = some (v, σ')) : Out P C G g σ w o a v σ' := by
  cases ho : o.op <;> simp only [chkOp, ho, Bool.false_eq_true] at hc
  rename_i x' xt t ok
  cases ok <;> simp only [chkOp, ho, Bool.false_eq_true, Bool.and_eq_true] at hc
  obtain ⟨⟨⟨h1, h2⟩, h3⟩, h4⟩ := hc
  have hx := chkRd_rel hI ht h4
  have h1 : C.tys[tag]? = some t := by simpa using h1
  obtain ⟨zu, hz, hzr⟩ : ∃ zu, (zeroValue t).run P w = .ok zu w ∧ VRel C g σ w z zu := by
    unfold zeroV at h3
    split at h3
    rotate_left
    · cases h3
    rename_i i hi
    split at h3
    rotate_left
    · cases h3
    rename_i u hu
    exact ⟨u, by simp [zeroValue, typeInfo, hi, hu], chkV_rel h3⟩
  have hrun : ∀ y : Value, (∃ d, P.underlying t = some d ∧ ∀ ms, d ≠ .interface ms) →
      (Instr.typeAssert y xt t true).run P w = match y with
        | .nilIface => .ok (.tuple #[zu, .bool false]) w
        | .iface s q => if s = t then .ok (.tuple #[q, .bool true]) w else .ok (.tuple #[zu, .bool false]) w
        | _ => (Instr.typeAssert y xt t true).run P w := by
    rintro y ⟨d, hd, hdi⟩
    cases y <;> try rfl
    · rename_i s q
      simp only [Instr.typeAssert, Sem.run_bind, run_underlying hd, Result.andThen_ok]
      cases d <;> first | exact absurd rfl (hdi _) | skip
      all_goals (by_cases e : s = t <;> simp [e, hz])
    · simp only [Instr.typeAssert, Sem.run_bind, run_underlying hd, Result.andThen_ok]
      cases d <;> first | exact absurd rfl (hdi _) | simp [hz]
  have hd : ∃ d, P.underlying t = some d ∧ ∀ ms, d ≠ .interface ms := by
    unfold notIface at h2
    split at h2
    · cases h2
    · rename_i d hd hu; exact ⟨d, hu, fun ms e => hd ms e⟩
    · cases h2
  simp only [ev1] at h
  generalize rdV G tm x = vx at h hx
  cases vx <;> simp only [reduceCtorEq] at h
  · rename_i tag' y
    obtain ⟨T, q, e, hT', hq⟩ := inv_ifc hx
    have hh := hrun (a.eval x') hd
    rw [e] at hh
    split at h
    · rename_i et
      simp only [Option.some.injEq, Prod.mk.injEq] at h
      obtain ⟨rfl, rfl⟩ := h
      subst et
      have : T = t := by rw [h1] at hT'; exact (Option.some.inj hT').symm
      subst this
      refine Out.same hI (u := .tuple #[q, .bool true]) (by simp [execOp, ho, e, hh]) ?_
      exact .tup [y, .bool true] [q, .bool true] (.cons hq (.cons (.bool _) .nil))
    · rename_i et
      simp only [Option.some.injEq, Prod.mk.injEq] at h
      obtain ⟨rfl, rfl⟩ := h
      have : T ≠ t := by
        rintro rfl
        have i1 := (List.getElem?_eq_some_iff.1 h1)
        have i2 := (List.getElem?_eq_some_iff.1 hT')
        exact et ((List.getElem_inj hT).1 (i2.2.trans i1.2.symm))
      refine Out.same hI (u := .tuple #[zu, .bool false]) (by simp [execOp, ho, e, hh, this]) ?_
      exact .tup [z, .bool false] [zu, .bool false] (.cons hzr (.cons (.bool _) .nil))
  · have e : a.eval x' = .nilIface := by
      generalize a.eval x' = u at hx
      cases hx; rfl
    have hh := hrun (a.eval x') hd
    rw [e] at hh
    simp only [Option.some.injEq, Prod.mk.injEq] at h
    obtain ⟨rfl, rfl⟩ := h
    refine Out.same hI (u := .tuple #[zu, .bool false]) (by simp [execOp, ho, e, hh]) ?_
    exact .tup [z, .bool false] [zu, .bool false] (.cons hzr (.cons (.bool _) .nil))

theorem s_asrt1 {tag : Nat} {x : Rd} (hc : chkOp P C o.op (.asrt1 tag x) = true) (h : ev1 (rdV G tm) dr σ nid (.asrt1 tag x) = some (v, σ')) : Out P C G g σ w o a v σ' := by
  cases ho : o.op <;> simp only [chkOp, ho, Bool.false_eq_true] at hc
  rename_i x' xt t ok
  cases ok <;> simp only [chkOp, ho, Bool.false_eq_true, Bool.and_eq_true] at hc
  obtain ⟨⟨h1, h2⟩, h4⟩ := hc
  have hx := chkRd_rel hI ht h4
  have h1 : C.tys[tag]? = some t := by simpa using h1
  have hd : ∃ d, P.underlying t = some d ∧ ∀ ms, d ≠ .interface ms := by
    unfold notIface at h2
    split at h2
    · cases h2
    · rename_i d hd hu; exact ⟨d, hu, fun ms e => hd ms e⟩
    · cases h2
  obtain ⟨d, hu, hdi⟩ := hd
  simp only [ev1] at h
  generalize rdV G tm x = vx at h hx
  cases vx <;> simp only [reduceCtorEq] at h
  rename_i tag' y
  obtain ⟨T, q, e, hT', hq⟩ := inv_ifc hx
  split at h
  rotate_left
  · cases h
  rename_i et
  simp only [Option.some.injEq, Prod.mk.injEq] at h
  obtain ⟨rfl, rfl⟩ := h
  subst et
  have : T = t := by rw [h1] at hT'; exact (Option.some.inj hT').symm
  subst this
  refine Out.same hI (u := q) ?_ hq
  simp only [execOp, ho, e, Instr.typeAssert, Sem.run_bind, run_underlying hu, Result.andThen_ok]
  cases d <;> first | exact absurd rfl (hdi _) | simp

theorem s_mkf {f : Nat} {cs : List Rd} (hc : chkOp P C o.op (.mkf f cs) = true) (h : ev1 (rdV G tm) dr σ nid (.mkf f cs) = some (v, σ')) : Out P C G g σ w o a v σ' := by
  cases ho : o.op <;> simp only [chkOp, ho, Bool.false_eq_true] at hc
  rename_i fn first caps
  cases fn <;> simp only [chkOp, ho, Bool.false_eq_true, Bool.and_eq_true] at hc
  rename_i F
  obtain ⟨⟨h1, h2⟩, h3⟩ := hc
  have h1 : C.fn f = some F := by simpa using h1
  have h2 : first = #[] := by simpa using h2
  simp only [ev1, Option.some.injEq, Prod.mk.injEq] at h
  obtain ⟨rfl, rfl⟩ := h
  refine Out.same hI (u := .func (.func F) #[] (caps.map a.eval)) (by simp [execOp, ho, h2, Instr.makeFunc]) ?_
  have := VRel.fn f (cs.map (rdV G tm)) F _ h1 (chkRds_rel hI ht h3)
  have e : (caps.toList.map a.eval).toArray = caps.map a.eval := by apply Array.ext'; simp
  rwa [e] at this

theorem s_ext {x : Rd} {i : Nat} (hc : chkOp P C o.op (.ext x i) = true) (h : ev1 (rdV G tm) dr σ nid (.ext x i) = some (v, σ')) : Out P C G g σ w o a v σ' := by
  cases ho : o.op <;> simp only [chkOp, ho, Bool.false_eq_true, Bool.and_eq_true] at hc
  rename_i x' j
  obtain ⟨h1, h2⟩ := hc
  have e : i = j := by simpa using h1
  subst e
  have hx := chkRd_rel hI ht h2
  simp only [ev1] at h
  generalize rdV G tm x = vx at h hx
  cases vx <;> simp only [reduceCtorEq] at h
  rename_i vs
  obtain ⟨us, e, hus⟩ := inv_tup hx
  split at h
  rotate_left
  · cases h
  rename_i z hz
  simp only [Option.some.injEq, Prod.mk.injEq] at h
  obtain ⟨rfl, rfl⟩ := h
  obtain ⟨u, hu, hr⟩ := hus.get hz
  exact Out.same hI (u := u) (by simp [execOp, ho, e, Instr.extract, hu]) hr

theorem s_len {s : Bool} {x : Rd} (hc : chkOp P C o.op (.len s x) = true) (h : ev1 (rdV G tm) dr σ nid (.len s x) = some (v, σ')) : Out P C G g σ w o a v σ' := by
  simp only [chkOp] at hc
  split at hc
  rotate_left
  · cases hc
  rename_i x' t hbc
  have ho := bcall_eq hbc
  simp only [Bool.and_eq_true] at hc
  obtain ⟨h1, h2⟩ := hc
  have hx := chkRd_rel hI ht h2
  simp only [ev1] at h
  generalize rdV G tm x = vx at h hx
  cases s
  · have hu : ∃ e, P.underlying t = some (.slice e) := by
      split at h1
      · cases h1
      · exact ⟨_, ‹_›⟩
      · cases h1
    obtain ⟨el, hu⟩ := hu
    have hrun : ∀ p (n c : Nat), a.eval x' = .slice p n c → (execOp a.eval o).run P w = .ok (.value (.int .i64 n)) w := by
      intro p n c e
      simp [execOp, ho, resolve, invoke, builtin, Builtin.len_, e, run_underlying hu, goInt]
    cases vx <;> simp only [reduceCtorEq, Option.some.injEq, Prod.mk.injEq] at h
    · obtain ⟨rfl, rfl⟩ := h
      rcases inv_sl hx with ⟨e, rfl, -⟩ | ⟨p, c, n, us, e, -⟩
      · exact Out.same hI (hrun _ _ _ e) (.int _ _)
      · exact Out.same hI (hrun _ _ _ e) (.int _ _)
    · split at h
      · rename_i hid
        split at h
        · rename_i eg
          simp only [Option.some.injEq, Prod.mk.injEq] at h
          obtain ⟨rfl, rfl⟩ := h
          obtain ⟨-, he⟩ := inv_row hx hid
          obtain ⟨e, -⟩ := he eg
          exact Out.same hI (hrun _ _ _ e) (.int _ _)
        · cases h
      · cases h
  · have hu : P.underlying t = some .string := by
      split at h1
      · assumption
      · cases h1
      · cases h1
    cases vx <;> simp only [reduceCtorEq, Option.some.injEq, Prod.mk.injEq] at h
    obtain ⟨rfl, rfl⟩ := h
    obtain ⟨s, e, rfl⟩ := inv_str hx
    refine Out.same hI (u := .int .i64 s.size) ?_ (by rw [← bl_length]; exact .int _ _)
    simp [execOp, ho, resolve, invoke, builtin, Builtin.len_, e, run_underlying hu, goInt]

theorem s_slcs {x : Rd} {lo hi : Option Rd} (hc : chkOp P C o.op (.slcs x lo hi) = true) (h : ev1 (rdV G tm) dr σ nid (.slcs x lo hi) = some (v, σ')) : Out P C G g σ w o a v σ' := by
  cases ho : o.op <;> simp only [chkOp, ho, Bool.false_eq_true] at hc
  rename_i t x' l' h' m'
  cases m' <;> simp only [Bool.false_eq_true, Bool.and_eq_true] at hc
  obtain ⟨⟨⟨h1, h2⟩, h3⟩, h4⟩ := hc
  have hu : P.underlying t = some .string := by split at h1 <;> first | assumption | cases h1
  have hx := chkRd_rel hI ht h2
  simp only [ev1] at h
  generalize rdV G tm x = vx at h hx
  cases vx <;> simp only [reduceCtorEq] at h
  rename_i l
  obtain ⟨s, es, hs⟩ := inv_str hx
  have hlen : l.length = s.size := by rw [← hs, bl_length]
  split at h
  rotate_left
  · cases h
  rename_i L H hL hH
  simp only [Option.ite_none_right_eq_some, Option.some.injEq, Prod.mk.injEq] at h
  obtain ⟨⟨c1, c2⟩, rfl, rfl⟩ := h
  have hb := run_bounds (P := P) hI ht h3 h4 (m := none) (mx := none) rfl (by simp) false (len := s.size) (cap := s.size) (dm := s.size) hL (by rw [← hlen]; exact hH) rfl c1 (by omega) (Nat.le_refl _)
  refine Out.same hI (u := .string (s.extract L H)) ?_ (.str _ _ (by show bl _ = _; rw [bl_extract, hs]))
  simp only [Option.map_none] at hb
  simp only [execOp, ho, es, Option.map_none, run_sliceAt_string w t _ _ _ _ hu, Instr.slice, Sem.run_bind, run_underlying hu, Result.andThen_ok, Option.isSome_none, Bool.false_eq_true, if_false, Sem.run_pure, hb]

end
end Go.Ev
