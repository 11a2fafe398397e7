/-
  For all small enough arguments (together at most 1048576 values and letters) the Go function changelinglaw3.TreeParts returns true and leaves its arguments as they were; the tables of unicode/utf8 that its program lists are as the program's text lays them.
  How: the program's functions are shown to be a small machine's (the texts Ev..), by a check that computes; the machine's answer is found by rewriting (the texts Walk..).
-/
import Derived.Test.YthajiefjebcobaaDoorCards
import Derived.Test.YthajiefjebcobaaDoorTie
import Derived.Test.YthajiefjebcobaaDoorReadTree
import Derived.Test.YthajiefjebcobaaDoorLawRun
import Derived.Test.YthajiefjebcobaaDoorWalkParts
import Derived.Test.YthajiefjebcobaaDoorLinkD
import Derived.WalkKit
import Derived.ProofKit
import Derived.OpenShut
import Derived.Deep.DeepHandedRow
import Derived.Lib.LaidTab
set_option linter.all false
set_option maxRecDepth 100000
set_option linter.unusedSimpArgs false
set_option linter.unusedVariables false
namespace Go.Proofs.YthajiefjebcobaaDoor.treeParts
open Go Go.Ev Go.ChangeShapes Go.WideShapes Go.ChangeAt Go.RowKit

theorem own : ownKnob Tryd.prog.godebug = none := by kernel_rfl
theorem plain24 : plainT Tryd.prog [24, 25, 54, 22, 3, 21, 9] = true := by kernel_rfl
theorem isE24 : isE Tryd.prog 24 = true := by kernel_rfl
theorem isS54 : isS Tryd.prog 54 24 = true := by kernel_rfl
theorem kind25 : kindT Tryd.prog 25 = .sl 54 := by kernel_rfl
theorem laidOut : laidOutB Tryd.prog = true := by kernel_rfl
theorem reads3 : (Tryd.f3.params.toList.all fun t => Tryd.prog.readableRec t && decide (t < Tryd.prog.types.size)) = true := by kernel_rfl
theorem results3 : Tryd.f3.resultTypes = #[4] := by kernel_rfl
theorem fn0 : CC.fn 0 = some 3 := rfl

mutual
theorem bulk_le {H : Type} : ∀ (d : DataW H), dbulk d ≤ Rows.uptoBulk d
  | .lit l => by cases l <;> simp [dbulk, Rows.uptoBulk]
  | .nil => by simp [dbulk, Rows.uptoBulk]
  | .ptr d => by
    have := bulk_le d
    simp only [dbulk, Rows.uptoBulk]; omega
  | .slice elems spare => by
    have h1 := bulks_le elems
    have h2 := bulks_le spare
    simp only [dbulk, Rows.uptoBulk]; omega
  | .agg parts => by
    have := bulks_le parts
    simp only [dbulk, Rows.uptoBulk]; omega
  | .iface _ d => by simp only [dbulk, Rows.uptoBulk]; omega
  | .map entries => by simp only [dbulk, Rows.uptoBulk]; omega
  | .held h => by simp [dbulk, Rows.uptoBulk]
theorem bulks_le {H : Type} : ∀ (l : List (DataW H)), dbulks l ≤ Rows.uptoBulkAll l
  | [] => by simp [dbulks, Rows.uptoBulkAll]
  | d :: r => by
    have h1 := bulk_le d
    have h2 := bulks_le r
    simp only [dbulks, Rows.uptoBulkAll]; omega
end

section
variable {H : Type} {enc : TypeId × Value → H} {W : World} {C : Cfg}
theorem open_E {base : Nat} {v : Value} {d : DataW H} {p : List MemPlace} {I : Nat → Nat → Prop} (hok : Value.okWide Tryd.prog W .any base 24 v) (h : DataW.Trod enc Tryd.prog W 0 (fun _ => true) true 24 v d p)
    (hI : ∀ b j, MemPlace.cell b j ∈ p → b < W.heap.size → I b j) : ∃ e : E, VRel C ⟨I, fun _ => 0, fun _ => 0, W.heap.size⟩ [] W e.enc v ∧ e.size ≤ dbulk d := by
  obtain ⟨cs, rfl, -⟩ := okWide_struct Tryd.underlying24 hok
  obtain ⟨fuel, hf⟩ := h
  obtain ⟨vs, h1, h2, h3⟩ := read_all (C := C) (g := ⟨I, fun _ => 0, fun _ => 0, W.heap.size⟩) plain24 fuel 24 _ _ (by simp) hf (fun q hq b j e hb => hI b j (e ▸ hq) hb)
  obtain ⟨e, he, hs⟩ := E_of isE24 fuel vs h2
  refine ⟨e, ?_, Nat.le_trans hs h3⟩
  rw [he]
  exact .agg vs cs.toList h1
theorem open_Ss {base : Nat} {v : Value} {d : DataW H} {p : List MemPlace} {I : Nat → Nat → Prop} (hok : Value.okWide Tryd.prog W .any base 25 v) (h : DataW.Trod enc Tryd.prog W 0 (fun _ => true) true 25 v d p)
    (hI : ∀ b j, MemPlace.cell b j ∈ p → b < W.heap.size → I b j) : ∃ l : List S, VRel C ⟨I, fun _ => 0, fun _ => 0, W.heap.size⟩ [] W (.sl .any (encSs l)) v ∧ sizeSs l ≤ dbulk d := by
  obtain ⟨a, n, c, rfl⟩ := okWide_slice Tryd.underlying25 hok
  obtain ⟨fuel, hf⟩ := h
  obtain ⟨vs, h1, h2, h3⟩ := read_all (C := C) (g := ⟨I, fun _ => 0, fun _ => 0, W.heap.size⟩) plain24 fuel 25 _ _ (by simp) hf (fun q hq b j e hb => hI b j (e ▸ hq) hb)
  obtain ⟨l, rfl, hs⟩ := Ss_of isE24 isS54 kind25 h2
  refine ⟨l, ?_, Nat.le_trans hs h3⟩
  cases h1 with
  | cons hv _ => exact hv
end

/-- What the walk gives. -/
theorem contract (H : Type) (enc : TypeId × Value → H) (W : World) (base : Nat) (args : Array Value) (ds gs : List (DataW H)) (before : List MemPlace)
    (hval : ∀ (j : Nat) t v, Tryd.f3.params[j]? = some t → args[j]? = some v → Value.okWide Tryd.prog W .any base t v)
    (hW : DataW.Whole enc Tryd.prog Tryd.f3.params.toList Rows.treePartsSpec.vars false W args.toList ds gs before) (hk : Rows.uptoSmall H (ds ++ gs) = true) :
    Calls Tryd.prog 3 args W fun e W' => ∃ v, e = .returned v ∧ Rows.treePartsSpec.post enc Tryd.prog Tryd.f3 false true false false W args v W' := by
  have hW' := hW
  obtain ⟨p, q, hA0, hV, rfl, hfz, hnd⟩ := hW
  have hA : DataW.TrodAll enc Tryd.prog W 0 (fun _ => true) true Tryd.f3.params.toList args.toList ds p := hA0
  rw [Tryd.params3] at hA hval
  obtain ⟨v0, vs0, d0, ds0, p0, q0, hargs, rfl, rfl, h0, r0⟩ := trodAll_cons hA
  obtain ⟨v1, vs1, d1, ds1, p1, q1, rfl, rfl, rfl, h1, r1⟩ := trodAll_cons r0
  obtain ⟨v2, vs2, d2, ds2, p2, q2, rfl, rfl, rfl, h2, r2⟩ := trodAll_cons r1
  obtain ⟨v3, vs3, d3, ds3, p3, q3, rfl, rfl, rfl, h3, r3⟩ := trodAll_cons r2
  obtain ⟨rfl, rfl, rfl⟩ := trodAll_nil r3
  obtain rfl : args = #[v0, v1, v2, v3] := by cases args; simp_all
  obtain ⟨rfl, rfl⟩ := trodVars_none hV
  have hb : dbulks [d0, d1, d2, d3] ≤ 1048576 := by
    have h1 := of_decide_eq_true hk
    have h2 := bulks_le [d0, d1, d2, d3]
    simp only [List.append_nil] at h1
    exact Nat.le_trans h2 h1
  simp only [dbulks] at hb
  let I : Nat → Nat → Prop := fun b j => b < W.heap.size
  obtain ⟨a, ra, sa⟩ := open_E (C := CC) (I := I) (hval 0 24 v0 rfl rfl) h0 (fun b j _ h => h)
  obtain ⟨b, rb, sb⟩ := open_E (C := CC) (I := I) (hval 1 24 v1 rfl rfl) h1 (fun b j _ h => h)
  obtain ⟨l, rl', sl⟩ := open_Ss (C := CC) (I := I) (hval 2 25 v2 rfl rfl) h2 (fun b j _ h => h)
  obtain ⟨m, rm, sm⟩ := open_Ss (C := CC) (I := I) (hval 3 25 v3 rfl rfl) h3 (fun b j _ h => h)
  have hrun := run0 a b l m (by omega) (by omega) (by omega) (by omega)
  refine (law_run tys_nodup Go.Ev.linked Go.Ev.follows fn0 hrun (us := [v0, v1, v2, v3]) (I := I) (fun b j h => h) (.cons ra (.cons rb (.cons rl' (.cons rm .nil))))).mono fun e W' ⟨he, hb⟩ => ?_
  subst he
  exact ⟨_, rfl, law_post hW' rfl rfl results3 Tryd.underlying4 laidOut reads3 hb⟩

/-- The tables' cells. -/
def cellsOfLits : DataW Unit → List Value
  | .lit (.int k n) => [.int k n]
  | .agg [.lit (.int k n), .lit (.int k' n')] => [.int k n, .int k' n']
  | .agg parts => parts.flatMap fun d => match d with
    | .lit (.int k n) => [.int k n]
    | .agg [.lit (.int k n), .lit (.int k' n')] => [.int k n, .int k' n']
    | _ => []
  | _ => []

def lay (l : List Value) : Go.Obj → Go.Obj
  | .cells _ t frozen => .cells l.toArray t frozen
  | o => o
/-- A world for the witness. -/
noncomputable def laidWorld (os : Os) : World :=
  { World.holding Tryd.prog os ⟨#[], #[], []⟩ with heap := ((World.holding Tryd.prog os ⟨#[], #[], []⟩).heap.modify 0 (lay (cellsOfLits Go.Pinned.utf8First))).modify 1 (lay (cellsOfLits Rows.laid_unicode_utf8_acceptRanges)) }
def zeroE : Value := .agg #[.int .i64 0, .int .i32 0, .string ByteArray.empty, .string ByteArray.empty, .string ByteArray.empty, .slice none 0 0, .string ByteArray.empty, .int .i64 0]
def zeroD (H : Type) : DataW H := .agg [.lit (.int .i64 0), .lit (.int .i32 0), .lit (.string []), .lit (.string []), .lit (.string []), .nil, .lit (.string []), .lit (.int .i64 0)]
theorem laid_met (os : Os) : laidMet Tryd.prog Rows.treePartsRow.laid ((laidWorld os).forCall (fun _ _ => 0) ⟨#[], #[zeroE, zeroE, .slice none 0 0, .slice none 0 0], []⟩).memory :=
  laidMet_of_run' 8 (by kernel_rfl) (by kernel_rfl)
theorem reads (os : Os) {H : Type} (enc : TypeId × Value → H) : ∃ places, DataW.whole enc Tryd.prog ((laidWorld os).forCall (fun _ _ => 0) ⟨#[], #[zeroE, zeroE, .slice none 0 0, .slice none 0 0], []⟩).memory Tryd.f3.params.toList Rows.treePartsSpec.vars false #[zeroE, zeroE, .slice none 0 0, .slice none 0 0].toList 8 = some ([zeroD H, zeroD H, .nil, .nil], [], places) :=
  ⟨[], by kernel_rfl⟩

set_option maxRecDepth 100000 in
theorem liftedUpto (os : Os) (started : os.Started) (H : Type) (enc : TypeId × Value → H) (F : Stop.Interp) :
    ReturnsInHanded {} Tryd.checked os 3 .any ((Rows.OpenSpec.upto Rows.treePartsSpec).preRow enc Tryd.prog Tryd.f3 Rows.treePartsUptoRow.domain false Rows.treePartsUptoRow.laid) (((Rows.OpenSpec.upto Rows.treePartsSpec).at F).post enc Tryd.prog Tryd.f3 false true false false) := by
  obtain ⟨places, hx⟩ := reads os enc
  refine returnsInHanded_of_row (C := Tryd.checked) (s := Rows.OpenSpec.upto Rows.treePartsSpec) own started (by kernel_rfl) Tryd.func3
    (witness_row_at (enc := enc) (C := Tryd.checked) false (laidWorld os) #[zeroE, zeroE, .slice none 0 0, .slice none 0 0] rfl (by kernel_rfl) (by kernel_rfl) (by kernel_rfl)
      (OpenSpec.preRow_of_cond 8 hx (by kernel_rfl) (fun k hk => by cases hk; kernel_rfl) (by kernel_rfl) (laid_met os))) ?_
  intro W base args ds gs before hval hW _ hcond _ hL _ _
  exact contract H enc W base args ds gs before hval hW (hcond _ rfl)

set_option maxRecDepth 100000 in
theorem saidUpto : Rows.TreePartsUptoSaid :=
  OpenClaim.holds_of_cond 3 Tryd.f3 rfl rfl rfl rfl rfl rfl rfl ⟨rfl, rfl, rfl, rfl, rfl⟩ rfl rfl rfl rfl rfl (by kernel_rfl) Tryd.func3 (by kernel_rfl)
    (of_decide_eq_true (by kernel_rfl)) (by unfold Func.isWrapper; first | (rw [if_pos (by decide +kernel)]; kernel_rfl) | (rw [if_neg (by decide +kernel)]; exact ⟨rfl, rfl⟩))
    (fun os started H enc _ F => by rw [OpenClaim.pre_eq_preRow]; exact liftedUpto os started H enc F)

/-- No parameter wants a stand-in; the program's own looks. -/
theorem plain (f : FuncId) (fn : Func) (hf : Tryd.pinned.checked.prog.funcNamed "changeling/changelinglaw3.TreeParts" = some f) (hfn : Tryd.pinned.checked.prog.funcs[f]? = some fn) :
    Rows.treePartsUptoCard.stood.looks = Tryd.pinned.checked.prog.looks [] ∧ ∀ (j : Nat) t, fn.params[j]? = some t → Tryd.pinned.checked.prog.wantsStandIn t = false := by
  obtain rfl : f = 3 := Option.some.inj ((show Tryd.prog.funcNamed "changeling/changelinglaw3.TreeParts" = some 3 by kernel_rfl).symm.trans hf) |>.symm
  obtain rfl : fn = Tryd.f3 := (Option.some.inj (Tryd.func3.symm.trans hfn)).symm
  refine ⟨by kernel_rfl, fun j t ht => ?_⟩
  rw [Tryd.params3] at ht
  have hm : t ∈ #[24, 24, 25, 25] := Array.mem_of_getElem? ht
  have : t = 24 ∨ t = 25 := by
    simp at hm
    omega
  rcases this with rfl | rfl
  · exact (show Tryd.prog.wantsStandIn 24 = false by kernel_rfl)
  · exact (show Tryd.prog.wantsStandIn 25 = false by kernel_rfl)

theorem cardUpto : Rows.TreePartsUptoCardSaid :=
  Claim7.holds_tied_plain_at .later [] _ _ _ _ saidUpto (fun _ h => by cases h) (by kernel_rfl) (fun _ h => by cases h) treePartsUpto_row_tie rfl ⟨rfl, rfl⟩ (by kernel_rfl) rfl plain (by kernel_rfl)
end Go.Proofs.YthajiefjebcobaaDoor.treeParts
