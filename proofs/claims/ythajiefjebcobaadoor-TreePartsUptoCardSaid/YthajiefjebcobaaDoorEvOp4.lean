/-
  Slices of slices, slice literals, maps.
-/
import Derived.Test.YthajiefjebcobaaDoorEvSnap
import Derived.Great.BuildSlice
set_option linter.all false
set_option linter.unusedSimpArgs false
set_option linter.unusedVariables false
namespace Go.Ev
open Go

section
variable {P : Program} {C : Cfg} {G : List (List V)} {g : Gh} {σ : Store} {w : World}

/-- A slice of a slice, as the model has it. -/
theorem run_slice (w : World) {t e : TypeId} {esz : Nat} (hu : P.underlying t = some (.slice e)) (hs : szIs P e esz = true) {q : Option Addr} {len cap L H M : Nat} {lo hi mx : Option Value}
    (hb : (Instr.sliceBounds true len cap lo hi mx).run P w = .ok (L, H, M) w) :
    (Instr.sliceAt t (.slice q len cap) lo hi mx).run P w = .ok (.slice (if M = L then q else q.map (·.add (L * esz))) (H - L) (M - L)) w := by
  simp only [Instr.sliceAt, Instr.slice, Sem.run_bind, run_underlying hu, Result.andThen_ok, hb, szIs_size hs, Sem.run_pure]
end

section
variable {P : Program} {C : Cfg} {G : List (List V)} {g : Gh} {σ : Store} {w : World} {o : Oper} {a : Act} {v : V} {tm : List V}
variable (hI : Inv C g σ w G) (ht : VRels C g σ w tm a.tmps.toList) (dr : Bool) (nid : Nat) {σ' : Store}
include hI ht

theorem s_slc {esz : Nat} {x : Rd} {lo hi mx : Option Rd} (hc : chkOp P C o.op (.slc esz x lo hi mx) = true) (h : ev1 (rdV G tm) dr σ nid (.slc esz x lo hi mx) = some (v, σ')) : Out P C G g σ w o a v σ' := by
  cases ho : o.op <;> simp only [chkOp, ho, Bool.false_eq_true, Bool.and_eq_true] at hc
  rename_i t x' l' h' m'
  obtain ⟨⟨⟨⟨⟨h1, h2⟩, h3⟩, h4⟩, h5⟩, h6⟩ := hc
  split at h1
  rotate_left
  · cases h1
  rename_i e he
  have hu := elemT_under he
  have hmh : mx.isSome → hi.isSome := by intro q; cases mx <;> simp_all
  have hx := chkRd_rel hI ht h2
  simp only [ev1] at h
  generalize rdV G tm x = vx at h hx
  cases vx <;> try (cases h; done)
  · rename_i m xs
    dsimp only at h
    split at h
    rotate_left
    · cases h
    rename_i L H Y hL hH hY
    simp only [Option.ite_none_right_eq_some, Option.some.injEq, Prod.mk.injEq] at h
    obtain ⟨⟨c1, c2, c3, c4, c5⟩, rfl, rfl⟩ := h
    rcases inv_sl hx with ⟨eu, rfl, hm⟩ | ⟨p, c, n, us, eu, hn, hm, hf, hc, hr, hcell⟩
    · have hb := run_bounds (P := P) hI ht h3 h4 h5 hmh true (len := 0) (cap := 0) (dm := 0) hL hH hY c1 c2 (by simpa using c3)
      have hrun := run_slice (P := P) w hu h1 (q := none) hb
      simp only [List.length_nil, Nat.le_zero] at c3
      subst c3
      have : H = 0 := by omega
      subst this
      have : L = 0 := by omega
      subst this
      refine Out.same hI (u := .slice none 0 0) ?_ ?_
      · simp only [execOp, ho, eu, Sem.run_bind, hrun, Result.andThen_ok, Sem.run_pure]
        cases mx <;> simp
      · refine .slnil _ ?_
        rcases hm with rfl | rfl | rfl <;> simp only [slcMode] <;> repeat' (first | (simp; done) | split)
    · have hb := run_bounds (P := P) hI ht h3 h4 h5 hmh true (len := xs.length) (cap := c) (dm := xs.length) hL hH hY c1 c2 (by omega)
      have hrun := run_slice (P := P) w hu h1 (q := some p) hb
      generalize hM : (if mx.isSome = true then Y else c) = M at hrun
      have hM1 : Y ≤ M := by rw [← hM]; split <;> omega
      have hnn : xs ≠ [] → n = esz := by
        intro hne
        cases xs with
        | nil => exact absurd rfl hne
        | cons z r => rw [← hn z (by simp)]; simpa [firstIs] using c5
      have hlen : ((xs.drop L).take (H - L)).length = H - L := by simp; omega
      refine Out.same hI (u := .slice (if M = L then some p else some (p.add (L * esz))) (H - L) (M - L)) ?_ ?_
      · simp only [execOp, ho, eu, Sem.run_bind, hrun, Result.andThen_ok, Sem.run_pure, Option.map_some]
      · have hx2 : VRels C g σ w (((xs.drop L).take (H - L)).flatMap V.cells) ((us.drop (L * n)).take ((H - L) * n)) := by
          rw [flat_take (fun x hx => hn x (List.mem_of_mem_drop hx)), flat_drop hn]
          exact (hr.drop _).take _
        have hcl : ∀ j y, ((us.drop (L * n)).take ((H - L) * n))[j]? = some y → g.I (p.add (L * n)).block ((p.add (L * n)).off + j) ∧ w.cell? ((p.add (L * n)).add j) = some y :=
          cells_take (cells_drop hcell (L * n)) ((H - L) * n)
        have hpe : (if M = L then some p else some (p.add (L * esz))) = some (if M = L then p else p.add (L * esz)) := by split <;> rfl
        rw [hpe]
        conv => rhs; rw [← hlen]
        have hrl := hr.length
        rw [flat_length hn] at hrl
        refine .sl _ _ _ _ n ((us.drop (L * n)).take ((H - L) * n)) (fun x hx => hn x (List.mem_of_mem_drop (List.mem_of_mem_take hx))) ?_ ?_ ?_ hx2 ?_
        · cases m <;> simp only [slcMode] <;> repeat' (first | (simp; done) | (exact absurd rfl hm) | split)
        · rw [hlen]
          intro hq
          cases mx with
          | none =>
            simp only [Option.isSome_none, Bool.false_eq_true, if_false] at hM
            simp only [Option.isSome_none, Bool.false_eq_true, if_false] at hq
            cases m <;> simp only [slcMode] at hq
            · simp at hq
            · simp at hq
            · simp at hq
            · have := hf (by simp)
              split at hq
              · omega
              · simp at hq
            · have := hf (by simp)
              split at hq
              · omega
              · simp at hq
          | some y =>
            simp only [Option.isSome_some, if_true] at hM
            simp only [Option.isSome_some, if_true] at hq
            have : Y = H := by
              cases m <;> simp only [slcMode] at hq
              · split at hq
                · assumption
                · simp at hq
              · simp at hq
              · split at hq
                · assumption
                · simp at hq
              · split at hq
                · omega
                · split at hq
                  · assumption
                  · simp at hq
              · split at hq
                · omega
                · split at hq
                  · assumption
                  · simp at hq
            omega
        · rw [hlen]
          omega
        · intro j y hj
          have hne : xs ≠ [] := by
            rintro rfl
            simp only [List.flatMap_nil, List.length_nil, Nat.zero_mul] at hrl
            have : us = [] := List.eq_nil_of_length_eq_zero hrl.symm
            subst this
            simp at hj
          have e1 := hnn hne
          subst e1
          split
          · rename_i hML
            have : H = L := by omega
            subst this
            simp at hj
          · exact hcl j y hj
  · rename_i id gn off n
    dsimp only at h
    split at h
    rotate_left
    · cases h
    rename_i gen es fz xs hid
    split at h
    rotate_left
    · cases h
    rename_i L H Y hL hH hY
    simp only [Option.ite_none_right_eq_some] at h
    obtain ⟨⟨eg, ees, c1, c2, c3, c4⟩, h⟩ := h
    subst ees
    obtain ⟨-, he'⟩ := inv_row hx hid
    obtain ⟨eu, -⟩ := he' eg
    obtain ⟨us, tt, k1, k2, k3, k4, k5, k6, k7, k8, k9⟩ := hI.obj id _ hid
    have hb := run_bounds (P := P) hI ht h3 h4 h5 hmh true (len := n) (cap := g.cap id - off) (dm := n) hL hH hY c1 c2 (by omega)
    have hrun := run_slice (P := P) w hu h1 (q := some ⟨g.blk id, off * es, none⟩) hb
    have hsub : VRel C g σ w (.row id gn (off + L) (H - L)) (.slice (some ⟨g.blk id, (off + L) * es, none⟩) (H - L) (g.cap id - (off + L))) :=
      .row id gn (off + L) (H - L) gen es fz xs _ hid (by omega) (fun _ => ⟨rfl, by omega⟩) ⟨_, _, _, rfl⟩
    have hadd : (⟨g.blk id, off * es, none⟩ : Addr).add (L * es) = ⟨g.blk id, (off + L) * es, none⟩ := by rw [Addr.add_mk, Nat.add_mul]
    split at h
    · rename_i hms
      simp only [Option.ite_none_right_eq_some] at h
      obtain ⟨eY, h⟩ := h
      subst eY
      split at h
      rotate_left
      · cases h
      rename_i md ys σ2 hho
      simp only [Option.some.injEq, Prod.mk.injEq] at h
      obtain ⟨rfl, rfl⟩ := h
      obtain ⟨g2, hI2, hle2, hall, -, -, -⟩ := handOn_ok hI hho
      have hr2 := hall _ (.cons hsub .nil)
      rw [hms] at hrun
      simp only [if_true] at hrun
      have hex : (execOp a.eval o).run P w = .ok (.value (.slice (if Y = L then some ⟨g.blk id, off * es, none⟩ else some ⟨g.blk id, (off + L) * es, none⟩) (Y - L) (Y - L))) w := by
        simp only [execOp, ho, eu, Sem.run_bind, hrun, Result.andThen_ok, Sem.run_pure, Option.map_some, hadd]
      refine ⟨_, w, g2, .inl hex, hI2, hle2, ?_⟩
      cases hr2 with
      | cons hr2 _ =>
        rcases inv_sl hr2 with ⟨q, -⟩ | ⟨p2, c2', n2, us2, q, hn2, -, -, -, hx2, hc2⟩
        · cases q
        · simp only [Value.slice.injEq, Option.some.injEq] at q
          obtain ⟨rfl, ql, -⟩ := q
          have hpe : (if Y = L then some (⟨g.blk id, off * es, none⟩ : Addr) else some ⟨g.blk id, (off + L) * es, none⟩) = some (if Y = L then ⟨g.blk id, off * es, none⟩ else ⟨g.blk id, (off + L) * es, none⟩) := by split <;> rfl
          rw [hpe, ql]
          refine .sl _ _ _ _ n2 us2 hn2 (by simp) (fun _ => rfl) (Nat.le_refl _) hx2 (fun j y hj => ?_)
          split
          · rename_i hYL
            have : ys = [] := List.eq_nil_of_length_eq_zero (by omega)
            subst this
            cases hx2
            simp at hj
          · exact hc2 j y hj
    · rename_i hms
      simp only [Bool.not_eq_true] at hms
      rw [hms] at hrun
      simp only [Bool.false_eq_true, if_false] at hrun
      have hex : (execOp a.eval o).run P w = .ok (.value (.slice (if g.cap id - off = L then some ⟨g.blk id, off * es, none⟩ else some ⟨g.blk id, (off + L) * es, none⟩) (H - L) (g.cap id - off - L))) w := by
        simp only [execOp, ho, eu, Sem.run_bind, hrun, Result.andThen_ok, Sem.run_pure, Option.map_some, hadd]
      split at h
      · rename_i hLn
        simp only [Option.some.injEq, Prod.mk.injEq] at h
        obtain ⟨rfl, rfl⟩ := h
        rw [if_neg (by omega), Nat.sub_sub] at hex
        exact Out.same hI hex hsub
      · simp only [Option.some.injEq, Prod.mk.injEq] at h
        obtain ⟨rfl, rfl⟩ := h
        refine Out.same hI hex ?_
        have hHL : H - L = 0 := by omega
        rw [hHL]
        have hpe : (if g.cap id - off = L then some (⟨g.blk id, off * es, none⟩ : Addr) else some ⟨g.blk id, (off + L) * es, none⟩) = some (if g.cap id - off = L then ⟨g.blk id, off * es, none⟩ else ⟨g.blk id, (off + L) * es, none⟩) := by split <;> rfl
        rw [hpe]
        exact .sl .some [] _ _ 0 [] (by simp) (by simp) (by simp) (Nat.zero_le _) .nil (by simp)

/-! ### Maps -/
theorem s_mkmap (hr : Room σ nid) (hc : chkOp P C o.op .mkmap = true) (h : ev1 (rdV G tm) dr σ nid .mkmap = some (v, σ')) : Out P C G g σ w o a v σ' := by
  cases ho : o.op <;> simp only [chkOp, ho, Bool.false_eq_true] at hc
  rename_i t r
  simp only [ev1, Option.some.injEq, Prod.mk.injEq] at h
  obtain ⟨rfl, rfl⟩ := h
  have hle := le_alloc (C := C) (G := G) hI hr (.mp []) (.map #[] 0) 0
  have hget : (σ.put nid (.mp []))[nid]? = some (.mp []) := by rw [put_get hr.le, if_pos rfl]
  have hb : (g.fresh nid w.heap.size 0).blk nid = w.heap.size := by simp [Gh.fresh]
  have hrun : (Instr.makeMap t (r.map a.eval)).run P w = .ok (.map (some w.heap.size)) (w.alloc (.map #[] 0)) := by
    split at hc
    · rfl
    · split at hc
      · rename_i hu
        simp [Instr.makeMap, run_underlying hu, Act.eval, asInt, asIntOf]
      · cases hc
    · cases hc
  refine ⟨.map (some w.heap.size), w.alloc (.map #[] 0), g.fresh nid w.heap.size 0, .inl (by simp only [execOp, ho, Sem.run_bind, hrun, Result.andThen_ok, Sem.run_pure]), inv_alloc hI hr _ _ 0 ⟨#[], 0, ?_, .nil, fun j hj => ?_⟩, hle, ?_⟩
  · rw [hb]; exact heap_alloc_new w _
  · rw [hb] at hj
    exact absurd (hI.imm _ j hj) (Nat.lt_irrefl _)
  · have := VRel.mref (C := C) (g := g.fresh nid w.heap.size 0) (w := w.alloc (.map #[] 0)) nid [] hget
    rwa [hb] at this

omit hI ht in
theorem ERel.push {es : List (V × V)} {fs : List MapEntry} (h : ERel C g σ w es fs) {k x : V} {e : MapEntry} (hk : VRel C g σ w k e.key) (hv : VRel C g σ w x e.val) : ERel C g σ w (es ++ [(k, x)]) (fs ++ [e]) := by
  induction h with
  | nil => exact .cons hk hv .nil
  | cons a b _ ih => exact .cons a b ih

omit hI ht in
theorem beq_bl (s t : ByteArray) : (s == t) = (bl s == bl t) := by
  have e : (s == t) = (s.data == t.data) := by cases s; cases t; rfl
  rw [e, Bool.eq_iff_iff, beq_iff_eq, beq_iff_eq, bl_inj]
  cases s; cases t; simp

omit hI ht in
theorem same_now {kt : TypeId} {kk : CK} {kind : TypeDesc} {k k' : V} {u u' : Value} {b : Bool} (hck : ckIs P kt kk = true) (hkind : P.underlying kt = some kind) (h : kEq kk k k' = some b)
    (hk : VRel C g σ w k u) (hk' : VRel C g σ w k' u') : Instr.sameNow kind u u' = some b := by
  cases kk <;> cases k <;> simp only [kEq, reduceCtorEq] at h <;> cases k' <;> simp only [kEq, reduceCtorEq, Option.ite_none_right_eq_some, Option.some.injEq] at h
  · obtain ⟨rfl, rfl⟩ := h
    obtain ⟨j, hj⟩ := ckIs_int hck
    rw [hj] at hkind
    cases hkind
    rw [inv_int hk, inv_int hk']
    simp [Instr.sameNow]
  · subst h
    have hj := ckIs_bool hck
    rw [hj] at hkind
    cases hkind
    rw [inv_bool hk, inv_bool hk']
    simp [Instr.sameNow]
  · subst h
    have hj := ckIs_str hck
    rw [hj] at hkind
    cases hkind
    obtain ⟨s, rfl, hs⟩ := inv_str hk
    obtain ⟨s', rfl, hs'⟩ := inv_str hk'
    simp only [Instr.sameNow, Option.some.injEq]
    rw [beq_bl, hs, hs']

omit hI ht in
theorem find_now {kt : TypeId} {kk : CK} {kind : TypeDesc} {k : V} {u : Value} (hck : ckIs P kt kk = true) (hkind : P.underlying kt = some kind) (hk : VRel C g σ w k u) {es : List (V × V)} {fs : List MapEntry} (he : ERel C g σ w es fs) :
    ∀ {r : Option V} (i : Nat), mpFind kk k es = some r → match r with
      | none => Instr.findNow kind u fs i = some none
      | some x => ∃ j y, Instr.findNow kind u fs i = some (some (j, y)) ∧ VRel C g σ w x y := by
  induction he with
  | nil =>
    intro r i h
    simp only [mpFind, Option.some.injEq] at h
    subst h
    rfl
  | @cons k' v' e es fs hk' hv' _ ih =>
    intro r i h
    simp only [mpFind] at h
    split at h
    · rename_i hq
      simp only [Option.some.injEq] at h
      subst h
      exact ⟨i, e.val, by simp [Instr.findNow, same_now hck hkind hq hk hk'], hv'⟩
    · rename_i hq
      have := ih (i + 1) h
      simpa [Instr.findNow, same_now hck hkind hq hk hk'] using this
    · cases h

omit hI ht in
theorem run_checkKey {kt : TypeId} {kk : CK} {kind : TypeDesc} (hck : ckIs P kt kk = true) (hkind : P.underlying kt = some kind) (b : Bool) (n : Nat) (u : Value) : (Instr.checkKey b (n + 1) kt u).run P w = .ok () w := by
  cases kk
  · obtain ⟨j, hj⟩ := ckIs_int hck
    simp [Instr.checkKey, run_underlying hj]
  · have hj := ckIs_bool hck
    simp [Instr.checkKey, run_underlying hj]
  · have hj := ckIs_str hck
    simp [Instr.checkKey, run_underlying hj]

omit hI ht in
theorem ckIs_kind {kt : TypeId} {kk : CK} (hck : ckIs P kt kk = true) : ∃ kind, P.underlying kt = some kind := by
  cases kk
  · obtain ⟨j, hj⟩ := ckIs_int hck; exact ⟨_, hj⟩
  · exact ⟨_, ckIs_bool hck⟩
  · exact ⟨_, ckIs_str hck⟩

theorem s_lkup {kk : CK} {ok : Bool} {z : V} {m k : Rd} (hc : chkOp P C o.op (.lkup kk ok z m k) = true) (h : ev1 (rdV G tm) dr σ nid (.lkup kk ok z m k) = some (v, σ')) : Out P C G g σ w o a v σ' := by
  cases ho : o.op <;> simp only [chkOp, ho, Bool.false_eq_true, Bool.and_eq_true] at hc
  rename_i t m' k' ok'
  obtain ⟨⟨⟨h1, h2⟩, h3⟩, h4⟩ := hc
  have h1 : ok = ok' := by simpa using h1
  subst h1
  split at h2
  rotate_left
  · cases h2
  rename_i kt e hu
  simp only [Bool.and_eq_true] at h2
  obtain ⟨hz, hck⟩ := h2
  obtain ⟨kind, hkind⟩ := ckIs_kind hck
  obtain ⟨it, zu, hit, hzu, hzr⟩ := zeroV_rel (C := C) (g := g) (σ := σ) (w := w) hz
  have hm := chkRd_rel hI ht h3
  have hk := chkRd_rel hI ht h4
  simp only [ev1] at h
  generalize rdV G tm m = vm at h hm
  cases vm <;> try (cases h; done)
  rename_i id
  dsimp only at h
  split at h
  rotate_left
  · cases h
  rename_i es hid
  have em := inv_mref hm hid
  obtain ⟨fs, ck, hh, he, -⟩ := hI.obj id _ hid
  have hgo : (getObj (g.blk id)).run P w = .ok (.map fs ck) w := by simp [getObj, Sem.run, hh]
  have hrun : ∀ x y b, Instr.findNow kind (a.eval k') fs.toList 0 = some x → (x = none ∧ y = zu ∧ b = false ∨ (∃ j, x = some (j, y)) ∧ b = true) →
      (execOp a.eval o).run P w = .ok (.value (if ok then .tuple #[y, .bool b] else y)) w := by
    intro x y b hx hxy
    rcases hxy with ⟨rfl, rfl, rfl⟩ | ⟨⟨j, rfl⟩, rfl⟩
    · simp [execOp, ho, em, Instr.lookup, run_underlying hu, run_underlying hkind, hgo, run_checkKey (w := w) hck hkind, Instr.findKey, hx, zeroValue, typeInfo, hit, hzu]
    · simp [execOp, ho, em, Instr.lookup, run_underlying hu, run_underlying hkind, hgo, run_checkKey (w := w) hck hkind, Instr.findKey, hx]
  have tup2 : ∀ {x : V} {y : Value} (b : Bool), VRel C g σ w x y → VRel C g σ w (if ok then .tup [x, .bool b] else x) (if ok then .tuple #[y, .bool b] else y) := by
    intro x y b hxy
    cases ok
    · exact hxy
    · exact .tup [x, .bool b] [y, .bool b] (.cons hxy (.cons (.bool b) .nil))
  split at h
  · rename_i x hx
    simp only [Option.some.injEq, Prod.mk.injEq] at h
    obtain ⟨rfl, rfl⟩ := h
    obtain ⟨j, y, hf, hxy⟩ := find_now (P := P) hck hkind hk he 0 hx
    exact Out.same hI (hrun _ y true hf (.inr ⟨⟨j, rfl⟩, rfl⟩)) (tup2 true hxy)
  · rename_i hx
    simp only [Option.some.injEq, Prod.mk.injEq] at h
    obtain ⟨rfl, rfl⟩ := h
    have hf := find_now (P := P) hck hkind hk he 0 hx
    exact Out.same hI (hrun _ zu false hf (.inl ⟨rfl, rfl, rfl⟩)) (tup2 false hzr)
  · cases h

theorem s_ins {kk : CK} {m k x : Rd} (hc : chkOp P C o.op (.ins kk m k x) = true) (h : ev1 (rdV G tm) dr σ nid (.ins kk m k x) = some (v, σ')) : Out P C G g σ w o a v σ' := by
  have hop : ∃ t m' k' x', (o.op = .insert t m' k' x' ∨ o.op = .mapUpdate t m' k' x') ∧ (∃ kt e, P.underlying t = some (.map kt e) ∧ ckIs P kt kk = true) ∧ chkRd C m' m = true ∧ chkRd C k' k = true ∧ chkRd C x' x = true := by
    simp only [chkOp] at hc
    split at hc
    · rename_i t m' k' x' ho
      simp only [Bool.and_eq_true] at hc
      obtain ⟨⟨⟨h1, h2⟩, h3⟩, h4⟩ := hc
      split at h1
      · exact ⟨t, m', k', x', .inl ho, ⟨_, _, ‹_›, h1⟩, h2, h3, h4⟩
      · cases h1
    · rename_i t m' k' x' ho
      simp only [Bool.and_eq_true] at hc
      obtain ⟨⟨⟨h1, h2⟩, h3⟩, h4⟩ := hc
      split at h1
      · exact ⟨t, m', k', x', .inr ho, ⟨_, _, ‹_›, h1⟩, h2, h3, h4⟩
      · cases h1
    · cases hc
  obtain ⟨t, m', k', x', ho, ⟨kt, e, hu, hck⟩, h2, h3, h4⟩ := hop
  obtain ⟨kind, hkind⟩ := ckIs_kind hck
  have hm := chkRd_rel hI ht h2
  have hk := chkRd_rel hI ht h3
  have hx := chkRd_rel hI ht h4
  simp only [ev1] at h
  generalize rdV G tm m = vm at h hm
  cases vm <;> try (cases h; done)
  rename_i id
  dsimp only at h
  split at h
  rotate_left
  · cases h
  rename_i es hid
  split at h
  rotate_left
  · cases h
  rename_i hfind
  simp only [Option.some.injEq, Prod.mk.injEq] at h
  obtain ⟨rfl, rfl⟩ := h
  have em := inv_mref hm hid
  obtain ⟨fs, ck, hh, he, hnI⟩ := hI.obj id _ hid
  have hf := find_now (P := P) hck hkind hk he 0 hfind
  have hlt : g.blk id < w.heap.size := (Array.getElem?_eq_some_iff.1 hh).1
  let O : Go.Obj := .map (fs.push { key := a.eval k', val := a.eval x', born := ck }) (ck + 1)
  let w' : World := { w with heap := w.heap.setIfInBounds (g.blk id) O }
  have hgo : (getObj (g.blk id)).run P w = .ok (.map fs ck) w := by simp [getObj, Sem.run, hh]
  have hso : ∀ o, (setObj (g.blk id) o).run P w = .ok () { w with heap := w.heap.setIfInBounds (g.blk id) o } := by intro o; simp [setObj, Sem.run, hh]
  have hrun : (execOp a.eval o).run P w = .ok .skip w' := by
    rcases ho with ho | ho <;>
      simp [execOp, ho, em, Instr.mapUpdate, run_underlying hu, run_underlying hkind, hgo, run_checkKey (w := w) hck hkind, Instr.findKey, hf, hso, w', O]
  have hoth : ∀ b, b ≠ g.blk id → w'.heap[b]? = w.heap[b]? := by
    intro b hb
    simp only [w', Array.getElem?_setIfInBounds]
    rw [if_neg (Ne.symm hb)]
  have hole : ObjLe g g id (.mp es) (.mp (es ++ [(rdV G tm k, rdV G tm x)])) := rfl
  have hcell : ∀ j, g.I (g.blk id) j → w'.cell? ⟨g.blk id, j, none⟩ = w.cell? ⟨g.blk id, j, none⟩ := fun j hj => absurd hj (hnI j)
  have hle : Le g σ w g (σ.set id (.mp (es ++ [(rdV G tm k, rdV G tm x)]))) w' :=
    le_write (C := C) (G := G) hI hid (by simp) hole hoth hcell (by simp [w']) rfl rfl rfl
  refine ⟨undef, w', g, .inr ⟨hrun, rfl⟩, inv_write hI hid (by simp) (by simp) hole hoth hcell (by simp [w']) rfl rfl rfl ⟨fs.push { key := a.eval k', val := a.eval x', born := ck }, ck + 1, ?_, ?_, hnI⟩, hle, .skip⟩
  · simp only [w', O, Array.getElem?_setIfInBounds, if_true, hlt]
  · rw [Array.toList_push]
    exact (he.mono hle).push (hk.mono hle) (hx.mono hle)
end
end Go.Ev
