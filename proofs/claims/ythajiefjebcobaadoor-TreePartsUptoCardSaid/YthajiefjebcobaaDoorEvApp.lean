/-
  Slice literals, append.
-/
import Derived.Test.YthajiefjebcobaaDoorEvOp4
set_option linter.all false
set_option linter.unusedSimpArgs false
set_option linter.unusedVariables false
set_option linter.unusedSectionVars false
namespace Go.Ev
open Go

section
variable {P : Program} {C : Cfg} {G : List (List V)} {g : Gh} {σ : Store} {w : World}

theorem ones_spec {l : List V} {e : Nat} (h : ones l e = true) : (∀ x ∈ l, x.cells.length = e) ∧ (l.flatMap V.cells).all V.isCell = true := by
  unfold ones at h
  rw [List.all_eq_true] at h
  refine ⟨fun x hx => ?_, ?_⟩
  · have := h x hx
    simp only [Bool.and_eq_true, beq_iff_eq] at this
    exact this.1
  · rw [List.all_eq_true]
    intro y hy
    obtain ⟨x, hx, hyx⟩ := List.mem_flatMap.1 hy
    have := h x hx
    simp only [Bool.and_eq_true] at this
    exact List.all_eq_true.1 this.2 y hyx

/-- Elements' cells. -/
theorem elems_rel (hI : Inv C g σ w G) {y : V} {u : Value} {es : List V} (hy : VRel C g σ w y u) (h : elemsOf σ y = some es) :
    (u = .slice none 0 0 ∧ es = []) ∨ ∃ p c us, u = .slice (some p) es.length c ∧ VRels C g σ w (es.flatMap V.cells) us ∧ ∀ j x, us[j]? = some x → w.cell? (p.add j) = some x := by
  cases y <;> simp only [elemsOf, reduceCtorEq] at h
  · rename_i m xs
    simp only [Option.some.injEq] at h
    subst h
    rcases inv_sl hy with ⟨e, rfl, -⟩ | ⟨p, c, n, us, e, hn, hm, hf, hc, hr, hcell⟩
    · exact .inl ⟨e, rfl⟩
    · exact .inr ⟨p, c, us, e, hr, fun j x hj => (hcell j x hj).2⟩
  · rename_i id gn off len
    split at h
    rotate_left
    · cases h
    rename_i gen esz fz xs hid
    simp only [Option.ite_none_right_eq_some, Option.some.injEq] at h
    obtain ⟨eg, rfl⟩ := h
    obtain ⟨-, he⟩ := inv_row hy hid
    obtain ⟨e, hol⟩ := he eg
    obtain ⟨us, t, k1, k2, k3, k4, k5, k6, k7, k8, k9⟩ := hI.obj id _ hid
    have hl : ((xs.drop off).take len).length = len := by simp; omega
    refine .inr ⟨_, _, ((us.toList.take (xs.length * esz)).drop (off * esz)).take (len * esz), by rw [hl]; exact e, ?_, fun j x hj => ?_⟩
    · rw [flat_take (fun x hx => k7 x (List.mem_of_mem_drop hx)), flat_drop k7]
      exact (k6.drop _).take _
    · rw [List.getElem?_take] at hj
      split at hj
      rotate_left
      · cases hj
      rw [List.getElem?_drop, List.getElem?_take] at hj
      split at hj
      rotate_left
      · cases hj
      rw [Addr.add_mk, cell_of_row w _ _ _ _ _ k1]
      simpa using hj

/-! ### What the model's append does -/
section
variable {t t' e e' : TypeId} {i : TypeInfo} {z : Value} (ht : P.underlying t = some (.slice e)) (ht' : P.underlying t' = some (.slice e')) (hi : P.info? e = some i) (hz : i.zero = some z)
include ht ht' hi hz

theorem app_nil (ty : TypeId) {a : Addr} {m c : Nat} {news : List Value} (hl : news.length = m * i.size) (hnews : ∀ j u, news[j]? = some u → w.cell? (a.add j) = some u)
    (h0 : 0 < m) (h63 : (m : Int) ≤ 9223372036854775807) (h48 : m * i.bytes ≤ 281474976710656) :
    (Builtin.append_ #[t, t'] ty #[.slice none 0 0, .slice (some a) m c]).run P w =
      .ok (.slice (some ⟨w.heap.size, 0, none⟩) m (grownCap w m 0 e)) (w.drew.alloc (.cells (news.toArray ++ Builtin.zeroCells z.cells (grownCap w m 0 e - m)) e)) := by
  have hn : m ≠ 0 := by omega
  have h63' : ¬ (9223372036854775807 < (m : Int)) := by omega
  have h48' : ¬ (281474976710656 < Builtin.nextslicecap m 0 * i.bytes) := by rw [nextslicecap_zero h0]; omega
  have hf := run_firstCells_some (P := P) w.drew i.size m a m c news hl (by simpa using hnews)
  simp [Builtin.append_, run_underlying ht, run_underlying ht', sizeOf, typeInfo, zeroValue, hi, hz, Builtin.lenOf, hn, h63', h48', Question.forced, run_firstCells_none, hf, newRow, grownCap]

theorem app_grow (ty : TypeId) {b : Addr} {sLen sCap : Nat} {olds : List Value} (hlo : olds.length = sLen * i.size) (holds : ∀ j v, olds[j]? = some v → w.cell? (b.add j) = some v)
    {a : Addr} {n c : Nat} {news : List Value} (hl : news.length = n * i.size) (hnews : ∀ j v, news[j]? = some v → w.cell? (a.add j) = some v)
    (hg : sCap < sLen + n) (h63 : ((sLen + n : Nat) : Int) ≤ 9223372036854775807) (hfit : Builtin.nextslicecap (sLen + n) sCap * i.bytes ≤ 281474976710656) :
    (Builtin.append_ #[t, t'] ty #[.slice (some b) sLen sCap, .slice (some a) n c]).run P w =
      .ok (.slice (some ⟨w.heap.size, 0, none⟩) (sLen + n) (grownCap w (sLen + n) sCap e))
        (w.drew.alloc (.cells (olds.toArray ++ news.toArray ++ Builtin.zeroCells z.cells (grownCap w (sLen + n) sCap e - (sLen + n))) e)) := by
  have hn : ¬ (sLen + n ≤ sCap) := by omega
  have h63' : ¬ (9223372036854775807 < ((sLen : Int) + (n : Int))) := by omega
  have h48' : ¬ (281474976710656 < Builtin.nextslicecap (sLen + n) sCap * i.bytes) := by omega
  have hf := run_firstCells_some (P := P) w.drew i.size n a n c news hl (by simpa using hnews)
  have hfo := run_firstCells_some (P := P) w.drew i.size sLen b sLen sCap olds hlo (by simpa using holds)
  simp [Builtin.append_, run_underlying ht, run_underlying ht', sizeOf, typeInfo, zeroValue, hi, hz, Builtin.lenOf, hn, h63', h48', Question.forced, hf, hfo, newRow, grownCap]
  congr 2
  apply Array.ext'
  simp [List.append_assoc]

theorem app_room (ty : TypeId) {b : Nat} {sLen sCap : Nat} {a : Addr} {m c : Nat} {news : List Value} {w' : World} (hl : news.length = m * i.size) (hnews : ∀ j u, news[j]? = some u → w.cell? (a.add j) = some u)
    (hroom : sLen + m ≤ sCap) (hst : (storeCells ⟨b, sLen * i.size, none⟩ news).run P w = .ok () w') :
    (Builtin.append_ #[t, t'] ty #[.slice (some ⟨b, 0, none⟩) sLen sCap, .slice (some a) m c]).run P w = .ok (.slice (some ⟨b, 0, none⟩) (sLen + m) sCap) w' := by
  have hf := run_firstCells_some (P := P) w i.size m a m c news hl hnews
  simp [Builtin.append_, run_underlying ht, run_underlying ht', sizeOf, typeInfo, hi, Builtin.lenOf, hroom, hf, Addr.add_lit, hst]

/-- Nothing is put behind. -/
theorem app_none (ty : TypeId) {q : Option Addr} {n c : Nat} {y : Value} (hy : (y = .slice none 0 0) ∨ ∃ p k, y = .slice (some p) 0 k) (hn : n ≤ c) :
    (Builtin.append_ #[t, t'] ty #[.slice q n c, y]).run P w = .ok (.slice q n c) w := by
  have hfc : ∀ (p : Option Addr) (k : Nat), (Builtin.firstCells i.size 0 (.slice p 0 k)).run P w = .ok #[] w := by
    intro p k
    cases p with
    | none => simp [Builtin.firstCells]
    | some p => simpa using run_firstCells_some (P := P) w i.size 0 p 0 k [] (by simp) (by simp)
  have h0 := hfc none 0
  have hs : ∀ a : Addr, (storeCells a ([] : List Value)).run P w = .ok () w := fun a => rfl
  rcases hy with rfl | ⟨p, k, rfl⟩
  · cases q <;> simp [Builtin.append_, run_underlying ht, run_underlying ht', sizeOf, typeInfo, hi, Builtin.lenOf, hn, h0, hs]
  · have := hfc (some p) k
    cases q <;> simp [Builtin.append_, run_underlying ht, run_underlying ht', sizeOf, typeInfo, hi, Builtin.lenOf, hn, this, hs]
end

/-- An object at a new place. -/
theorem inv_move (hI : Inv C g σ w G) {id gen gen' esz fz : Nat} {xs ys : List V} (hid : σ[id]? = some (.row gen esz fz xs)) (hgen : gen < gen') {us : Array Value} {t : TypeId} {cap : Nat}
    (hsz : us.size = cap * esz) (hcap : ys.length ≤ cap) (hmax : cap ≤ maxLen) (hrel : VRels C g σ w (ys.flatMap V.cells) (us.toList.take (ys.length * esz))) (hn : ∀ x ∈ ys, x.cells.length = esz) (hlen : xs.length ≤ ys.length)
    (w' : World) (hh : w'.heap = w.heap) (ho : w'.os = w.os) (htp : w'.tape = w.tape) (hou : w'.output = w.output) :
    Inv C (g.fresh id w.heap.size cap) (σ.set id (.row gen' esz fz ys)) (w'.alloc (.cells us t)) G ∧ Le g σ w (g.fresh id w.heap.size cap) (σ.set id (.row gen' esz fz ys)) (w'.alloc (.cells us t)) := by
  obtain ⟨us0, t0, k1, k2, k3, k4, k5, k6, k7, k8, k9⟩ := hI.obj id _ hid
  have hlt := (List.getElem?_eq_some_iff.1 hid).1
  have hget : ∀ i, (σ.set id (.row gen' esz fz ys))[i]? = if i = id then some (.row gen' esz fz ys) else σ[i]? := by
    intro i
    rw [List.getElem?_set]
    by_cases e : i = id
    · subst e; simp [hlt]
    · rw [if_neg (Ne.symm e), if_neg e]
  have hold : ∀ b, b < w.heap.size → (w'.alloc (.cells us t)).heap[b]? = w.heap[b]? := by
    intro b hb
    rw [heap_alloc_old w' _ b (by rw [hh]; exact hb), hh]
  have hsz2 : (w'.alloc (.cells us t)).heap.size = w.heap.size + 1 := by rw [World.size_alloc, hh]
  have hle : Le g σ w (g.fresh id w.heap.size cap) (σ.set id (.row gen' esz fz ys)) (w'.alloc (.cells us t)) := by
    refine ⟨rfl, fun _ _ h => h, fun b j hb => ?_, fun i o ho hf => ?_, fun _ _ h => .inl h, fun b hb => hold b (Nat.lt_of_lt_of_le hb hI.lo), by omega, ho, htp, hou⟩
    · simp only [World.cell?, hold b (hI.imm b j hb)]
    · rw [hget]
      by_cases e : i = id
      · subst e
        rw [hid] at ho
        cases ho
        exact ⟨.row gen' esz fz ys, by rw [if_pos rfl], Nat.le_of_lt hgen, rfl, fun e => absurd e (Nat.ne_of_lt hgen)⟩
      · exact ⟨o, by rw [if_neg e]; exact ho, ObjLe.same (by simp [Gh.fresh, e]) (by simp [Gh.fresh, e]) o⟩
  refine ⟨⟨?_, fun i o ho => ?_, fun i o ho hf => ?_, fun i j a b ha hb hfa hfb e => ?_, fun b j hb => ?_, fun n cs hc => (hI.glob n cs hc).mono hle⟩, hle⟩
  · have := hI.lo; rw [hsz2]; simp only [Gh.fresh]; omega
  · rw [hget] at ho
    split at ho
    · rename_i e
      subst e
      cases ho
      refine ⟨us, t, ?_, k2, ?_, ?_, ?_, hrel.mono hle, hn, Nat.le_trans k8 hlen, fun j hj => ?_⟩
      · simp only [Gh.fresh, if_true]
        rw [← hh]
        exact heap_alloc_new w' _
      · simp [Gh.fresh, hsz]
      · simpa [Gh.fresh] using hcap
      · simpa [Gh.fresh] using hmax
      · simp only [Gh.fresh, if_true] at hj
        exact absurd (hI.imm _ j hj) (Nat.lt_irrefl _)
    · rename_i e
      cases o with
      | free => trivial
      | _ => exact (hI.obj i _ ho).keep hle (by simp [Gh.fresh, e]) (by simp [Gh.fresh, e]) (hold _ (hI.rng i _ ho (by simp)).2) (fun j hj => hj)
  · rw [hget] at ho
    split at ho
    · rename_i e
      subst e
      simp only [Gh.fresh, if_true, hsz2]
      exact ⟨hI.lo, by omega⟩
    · rename_i e
      obtain ⟨h1, h2⟩ := hI.rng i o ho hf
      simp only [Gh.fresh, e, if_false, hsz2]
      exact ⟨h1, by omega⟩
  · rw [hget] at ha hb
    by_cases ei : i = id <;> by_cases ej : j = id
    · rw [ei, ej]
    · rw [if_neg ej] at hb
      have := (hI.rng j b hb hfb).2
      simp only [Gh.fresh, ei, ej, if_true, if_false] at e
      omega
    · rw [if_neg ei] at ha
      have := (hI.rng i a ha hfa).2
      simp only [Gh.fresh, ei, ej, if_true, if_false] at e
      omega
    · rw [if_neg ei] at ha
      rw [if_neg ej] at hb
      simp only [Gh.fresh, ei, ej, if_false] at e
      exact hI.inj i j a b ha hb hfa hfb e
  · have := hI.imm b j hb
    rw [hsz2]
    omega

/-- Room is drawn. -/
theorem inv_drew (hI : Inv C g σ w G) : Inv C g σ w.drew G ∧ Le g σ w g σ w.drew := by
  have hle : Le g σ w g σ w.drew := ⟨rfl, fun _ _ h => h, fun _ _ _ => rfl, fun id o ho _ => ⟨o, ho, ObjLe.refl g id o⟩, fun _ _ h => .inl h, fun _ _ => rfl, Nat.le_refl _, rfl, rfl, rfl⟩
  refine ⟨⟨hI.lo, fun id o ho => ?_, hI.rng, hI.inj, hI.imm, fun n cs hc => (hI.glob n cs hc).mono hle⟩, hle⟩
  cases o with
  | free => trivial
  | _ => exact (hI.obj id _ ho).keep hle rfl rfl rfl (fun j hj => hj)
end
end Go.Ev
