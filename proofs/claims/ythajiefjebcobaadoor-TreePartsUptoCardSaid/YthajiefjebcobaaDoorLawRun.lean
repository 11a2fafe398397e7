/-
  From the small machine's answer to the program's call; what was read reads as it did.
-/
import Derived.Test.YthajiefjebcobaaDoorRead
import Derived.Test.YthajiefjebcobaaDoorEvPl
import Derived.Carry
import Derived.ChangeSame
import Derived.OpenShut
set_option linter.all false
set_option linter.unusedSimpArgs false
set_option linter.unusedVariables false
namespace Go.Ev
open Go Go.RowKit Go.WideShapes Go.ChangeShapes

theorem law_run {P : Program} {C : Cfg} {F : List IFun} (hT : C.tys.Nodup) (hL : Linked P C F) (hM : P.follows .mixedOrders = true) {k : Nat} {K : FuncId} (hk : C.fn k = some K) {args : List V} {us : List Value}
    (hlim : lim F [] (.call k args [] false) = retv (.bool true)) {W : World} {I : Nat → Nat → Prop} (hI : ∀ b j, I b j → b < W.heap.size)
    (hrel : VRels C ⟨I, fun _ => 0, fun _ => 0, W.heap.size⟩ [] W args us) : Calls P K us.toArray W fun e W' => e = .returned (.bool true) ∧ Below W.heap.size W W' := by
  obtain ⟨n, hn⟩ := lim_some.1 hlim
  have hG : GOk [] := fun cs h => by cases h
  have hinv : Inv C ⟨I, fun _ => 0, fun _ => 0, W.heap.size⟩ [] W [] := ⟨Nat.le_refl _, fun id o h => by simp at h, fun id o h => by simp at h, fun i j a b h => by simp at h, hI, fun n cs h => by simp at h⟩
  refine Calls.weaken (evB_ok hT hL hG hM n k args [] false _ _ _ hn K _ W us hk hinv hrel) fun e W' hp => ?_
  obtain ⟨g', -, hle, ⟨u, rfl, hu⟩, -⟩ := hp
  exact ⟨by rw [inv_bool hu], hle.os, hle.tape, hle.output, hle.size, hle.low⟩

section
variable {P : Program} {H : Type} {enc : TypeId × Value → H}
/-- Arguments read as they did, where below the old size nothing has turned. -/
theorem args_again (hl : laidOutB P = true) {W W' : World} (hb : Below W.heap.size W W') {sp : Nat → Bool} : ∀ {ts : List TypeId} {vs : List Value} {ds : List (DataW H)} {ps : List MemPlace},
    (∀ t ∈ ts, (P.readableRec t && decide (t < P.types.size)) = true) → DataW.TrodAll enc P W 0 (fun _ => true) true ts vs ds ps → (∀ p ∈ ps, p.block < W.heap.size ∧ sp p.block = true) → DataW.TrodAll enc P W' 0 sp true ts vs ds ps
  | [], [], [], ps, _, h, _ => h
  | t :: ts, v :: vs, d :: ds, ps, ht, h, hp => by
    obtain ⟨p, q, h1, h2, rfl⟩ := h
    have htt := ht t (by simp)
    simp only [Bool.and_eq_true, decide_eq_true_eq] at htt
    refine ⟨p, q, WideElems.Trod_stays hl htt.1 htt.2 h1 (fun x hx => hb.same (hp x (by simp [hx])).1) (fun x hx => (hp x (by simp [hx])).2), ?_, rfl⟩
    exact args_again hl hb (fun t ht' => ht t (by simp [ht'])) h2 (fun x hx => hp x (by simp [hx]))

/-- A law's end: true; the arguments read as they did. -/
theorem law_post {f : Func} {s : ChangeSpec} {apart fresh handsOn again : Bool} {W W' : World} {args : Array Value} {ds gs : List (DataW H)} {before : List MemPlace} {tb : TypeId}
    (hW : DataW.Whole enc P f.params.toList s.vars apart W args.toList ds gs before) (hs : s.vars = []) (hsp : s.fn H ds = { results := [.lit (.bool true)], args := ds }) (hr : f.resultTypes = #[tb]) (htb : P.underlying tb = some .bool)
    (hl : laidOutB P = true) (hread : (f.params.toList.all fun t => P.readableRec t && decide (t < P.types.size)) = true) (hb : Below W.heap.size W W') :
    s.post enc P f apart fresh handsOn again W args (.bool true) W' := by
  have hW0 := hW
  obtain ⟨pa, q, hA, hV, hps, hz, hn⟩ := hW
  rw [hs] at hV
  have hgs : gs = [] ∧ q = [] := trodVars_none hV
  obtain ⟨rfl, rfl⟩ := hgs
  rw [List.append_nil] at hps
  subst hps
  have hlt : ∀ p ∈ before, p.block < W.heap.size := fun p hp => hW0.lt p hp
  have hargs : ∀ sp : Nat → Bool, (∀ p ∈ before, sp p.block = true) → DataW.TrodAll enc P W' 0 sp true f.params.toList args.toList ds before := fun sp hsp =>
    args_again hl hb (fun t ht => List.all_eq_true.1 hread t ht) hA (fun p hp => ⟨hlt p hp, hsp p hp⟩)
  have hvars : ∀ sp : Nat → Bool, DataW.TrodVars enc P W' sp s.vars [] [] := fun sp => by rw [hs]; rfl
  have hres : ∀ (b : Nat) (sp : Nat → Bool) (hd : Bool), DataW.TrodAll enc P W' b sp hd f.resultTypes.toList ((Value.bool true).resultList f.resultTypes.size) [.lit (.bool true)] [] := by
    intro b sp hd
    rw [hr]
    exact trodAll_cons_mk (shut_bool htb _) trodAll_mk0
  have hok : ∀ (j : Nat) (t : TypeId) (r : Value), f.resultTypes[j]? = some t → ((Value.bool true).resultList f.resultTypes.size)[j]? = some r → Value.okWide P W' .any 0 t r := ok_one hr rfl (okWide_bool_mk htb _)
  have e1 : s.fn H (ds ++ []) = { results := [.lit (.bool true)], args := ds } := by rw [List.append_nil]; exact hsp
  refine ⟨ds, [], before, [], before, [], hW0, ?_, ?_, ?_, World.keptBut_mono (fun p hp => ⟨hp, .inr (.inl hp)⟩) (hb.frame (· ∈ before)), fun _ => ⟨hok, ?_⟩⟩
  · rw [e1]; exact hres _ _ _
  · rw [e1]; exact hargs _ (fun p hp => by simpa using hlt p hp)
  · rw [e1]; exact hvars _
  · refine ⟨[.lit (.bool true)] ++ ds, [], ([] ++ before) ++ [], ⟨[] ++ before, [], trodAll_append (hargs _ (fun _ _ => rfl)) (hres _ _ _), hvars _, rfl, ?_, ?_⟩, ?_⟩
    · intro b off hp
      have hin : MemPlace.cell b off ∈ before := by simpa using hp
      rw [hb.frozen (hlt _ hin)]
      exact hz b off hin
    · intro ha
      simpa using hn ha
    · intro p hp _
      simpa using hp
end
end Go.Ev
