/-
  Code.
-/
import Derived.Test.YthajiefjebcobaaDoorEvDreg
set_option linter.all false
set_option linter.unusedSimpArgs false
set_option linter.unusedVariables false
namespace Go.Ev
open Go

section
variable {P : Program} {C : Cfg} {G : List (List V)}

theorem inv_free {g : Gh} {σ : Store} {w : World} (hI : Inv C g σ w G) (m : Nat) : Inv C g (σ ++ List.replicate m .free) w G ∧ Le g σ w g (σ ++ List.replicate m .free) w := by
  have hle : Le g σ w g (σ ++ List.replicate m .free) w := by
    refine ⟨rfl, fun _ _ h => h, fun _ _ _ => rfl, fun id o ho _ => ⟨o, ?_, ObjLe.refl g id o⟩, fun _ _ h => .inl h, fun _ _ => rfl, Nat.le_refl _, rfl, rfl, rfl⟩
    rw [List.getElem?_append_left (List.getElem?_eq_some_iff.1 ho).1]
    exact ho
  have hget : ∀ (id : Nat) (o : Obj), (σ ++ List.replicate m .free)[id]? = some o → σ[id]? = some o ∨ o = .free := by
    intro id o h
    rcases Nat.lt_or_ge id σ.length with h1 | h1
    · rw [List.getElem?_append_left h1] at h; exact .inl h
    · rw [List.getElem?_append_right h1] at h
      exact .inr (List.eq_of_mem_replicate (List.mem_of_getElem? h))
  refine ⟨⟨hI.lo, fun id o ho => ?_, fun id o ho hf => ?_, fun i j a b ha hb hfa hfb e => ?_, hI.imm, fun n cs hc => (hI.glob n cs hc).mono hle⟩, hle⟩
  · rcases hget id o ho with h | rfl
    · cases o with
      | free => trivial
      | _ => exact (hI.obj id _ h).keep hle rfl rfl rfl (fun j hj => hj)
    · trivial
  · exact hI.rng id o ((hget id o ho).resolve_right hf) hf
  · exact hI.inj i j a b ((hget i a ha).resolve_right hfa) ((hget j b hb).resolve_right hfb) hfa hfb e

theorem inv_unfree {g : Gh} {σ : Store} {w : World} (hI : Inv C g (σ ++ [.free]) w G) : Inv C g σ w G ∧ Le g (σ ++ [.free]) w g σ w := by
  have hget : ∀ (id : Nat) (o : Obj), o ≠ .free → (σ ++ [.free])[id]? = some o → σ[id]? = some o := by
    intro id o hf h
    rcases Nat.lt_or_ge id σ.length with h1 | h1
    · rw [List.getElem?_append_left h1] at h; exact h
    · rw [List.getElem?_append_right h1] at h
      exact absurd (List.mem_singleton.1 (List.mem_of_getElem? h)) hf
  have hup : ∀ (id : Nat) (o : Obj), σ[id]? = some o → (σ ++ [.free])[id]? = some o := by
    intro id o h
    rw [List.getElem?_append_left (List.getElem?_eq_some_iff.1 h).1]
    exact h
  have hle : Le g (σ ++ [.free]) w g σ w := ⟨rfl, fun _ _ h => h, fun _ _ _ => rfl, fun id o ho hf => ⟨o, hget id o hf ho, ObjLe.refl g id o⟩, fun _ _ h => .inl h, fun _ _ => rfl, Nat.le_refl _, rfl, rfl, rfl⟩
  refine ⟨⟨hI.lo, fun id o ho => ?_, fun id o ho hf => hI.rng id o (hup id o ho) hf, fun i j a b ha hb => hI.inj i j a b (hup i a ha) (hup j b hb), hI.imm, fun n cs hc => (hI.glob n cs hc).mono hle⟩, hle⟩
  cases o with
  | free => trivial
  | _ => exact (hI.obj id _ (hup id _ ho)).keep hle rfl rfl rfl (fun j hj => hj)

theorem trim_ok {g : Gh} {w : World} : ∀ (m : Nat) {σ : Store}, Inv C g σ w G → Inv C g (σ.trim m) w G ∧ Le g σ w g (σ.trim m) w ∧ σ.length ≤ (σ.trim m).length + m ∧ ∀ (id : Nat) (o : Obj), (σ.trim m)[id]? = some o → σ[id]? = some o
  | 0, σ, hI => ⟨hI, Le.refl _ _ _, Nat.le_refl _, fun _ _ h => h⟩
  | m + 1, σ, hI => by
    unfold Store.trim
    split
    · rename_i hl
      obtain ⟨ys, rfl⟩ := List.getLast?_eq_some_iff.1 hl
      rw [List.dropLast_concat]
      obtain ⟨hI1, hle1⟩ := inv_unfree hI
      obtain ⟨hI2, hle2, hlen, hget⟩ := trim_ok m hI1
      refine ⟨hI2, hle1.trans hle2, by simp; omega, fun id o h => ?_⟩
      have := hget id o h
      rw [List.getElem?_append_left (List.getElem?_eq_some_iff.1 this).1]
      exact this
    · exact ⟨hI, Le.refl _ _ _, by omega, fun _ _ h => h⟩

theorem dreg_ok (hT : C.tys.Nodup) (hF : FnsOk P C) (hG : GOk G) (hM : P.follows .mixedOrders = true) {go : Job → Option Res} (hgo : CallOk P C G go) {id : Nat} {ops : Array Oper} {l : List (IOper × Ord)} {m : Nat} (hd : chkDraw m ops l = true)
    (hc : chkOpers P C ops ops.toList (l.map (·.1)) = true) {s s' : St} {x : X} (h : evDreg go G m l s = some (x, s')) {g : Gh} {a : Act} {w : World} {Q : Exit → Act → World → Prop} (hfr : FRel C G g s a w)
    (hQ : ∀ e a' w', Post C G g s w x s' e a' w' → Q e a' w') : (Code.region id ops true).wp P Q a w := by
  unfold evDreg at h
  split at h
  rotate_left
  · cases h
  rename_i Df hrun
  simp only [Option.some.injEq, Prod.mk.injEq] at h
  obtain ⟨rfl, rfl⟩ := h
  obtain ⟨hsz, hsp⟩ := chkDraw_spec hd
  obtain ⟨hI1, hle1⟩ := inv_drew hfr.inv
  obtain ⟨hI2, hle2⟩ := inv_free hI1 m
  have hrun2 : runL go G s.σ.length l (List.range ops.size) ⟨s.tm, s.σ ++ List.replicate m .free, List.replicate l.length (Fp.nil, [])⟩ = some Df := by
    rw [← hrun, dsteps_run (ops := l) l 0 _ (fun j => by simp), List.range_eq_range', hsz]
  refine wp_region_any hM ?_
  have hcl0 : ∀ b, b ≤ s.σ.length → Closed s.σ b → Closed (s.σ ++ List.replicate m .free) b := by
    intro b hb hcl k o hk ho
    have hks : k < s.σ.length := Nat.lt_of_lt_of_le hk hb
    rw [List.getElem?_append_left hks] at ho
    exact hcl k o hk ho
  refine any_ok (Df := Df) (g0 := g) (σ0 := s.σ ++ List.replicate m .free) (w0 := w.drew) hT hF hG hgo hd hc (fun g' a' w' hD => ?_) ops.size (List.range ops.size) _ _ g a _ (by simp) List.pairwise_lt_range (fun i => ?_) (fun i hi => List.mem_range.1 hi) (by simp)
    (fun i o ho hi => absurd (List.mem_range.2 (Array.getElem?_eq_some_iff.1 ho).1) hi) ⟨List.nodup_range, fun i hi => ?_, fun i hi o d hod ha => ?_⟩ hrun2 ⟨hI2, VRels.mono hle2 (VRels.mono hle1 hfr.tm), hfr.dfs, Le.refl _ _ _, Nat.le_refl _, fun b hb hcl hbr => hcl⟩
  · obtain ⟨hI3, hle3, hlen, hget⟩ := trim_ok m hD.inv
    have hl := hD.len
    simp only [List.length_append, List.length_replicate] at hl
    refine hQ .normal a' w' ⟨g', Df.log.flatMap (·.2), ⟨hI3, VRels.mono hle3 hD.tm, hD.dfs⟩, (hle1.trans hle2).trans (hD.le.trans hle3), trivial, rfl, ?_, fun b hb hcl hbr => ?_⟩
    · show s.σ.length ≤ (Df.σ.trim m).length
      omega
    · intro k o hk ho
      exact hD.cl b (by simp; omega) (hcl0 b hb hcl) hbr k o hk (hget k o ho)
  · simp only [List.mem_range, Array.getD_eq_getD_getElem?, Array.getElem?_replicate]
    by_cases hi : i < ops.size <;> simp [hi]
  · have hi' : i < l.length := by rw [← hsz]; exact List.mem_range.1 hi
    simp [List.getD_eq_getElem?_getD, hi', List.getElem?_replicate]
  · have hil : i < ops.size := List.mem_range.1 hi
    have := (hsp i _ _ (Array.getElem?_eq_getElem hil) hod).2.2.2 ha
    simp only [List.length_append, List.length_replicate]
    simp only at this
    omega
end
end Go.Ev
