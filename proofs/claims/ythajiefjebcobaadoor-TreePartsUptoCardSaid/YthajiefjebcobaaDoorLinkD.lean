/-
  The small machine's functions are the program's, one by one.
-/
import Derived.Test.YthajiefjebcobaaDoorEvJob
import Derived.Test.YthajiefjebcobaaDoorIrTree
import Derived.Test.YthajiefjebcobaaDoorProg
import Derived.KernelRfl
set_option linter.all false
set_option maxRecDepth 100000
namespace Go.Ev
open Go Go.Proofs
def CC : Cfg := ⟨[some 3, some 4, some 5, some 6, some 7, some 8, some 9, some 10, some 11, some 12, some 13, some 14, some 15, some 16, some 17, some 18, some 19, some 20, some 21, some 22, some 23, some 24, some 25, some 26, some 27, some 28, some 29, some 30, some 31, some 32, some 33, some 34, some 35, some 36, some 37, some 38, some 39, some 40, some 41, some 42, some 43, some 44, some 45, some 46, some 47, some 48, some 49, some 50, some 51, some 52, some 53, some 54, some 55, some 56, some 57, some 58, some 59, some 60, some 61, some 62, some 63, some 64, some 65, some 66, some 67, some 68, some 69, some 70, some 71, some 72, some 73, some 74, some 75, some 76, some 77, some 78, some 79, some 80, some 81, some 82, some 83, some 84, some 85, some 86, some 87, some 88, some 89, some 90, some 91, some 92], [44, 1000001, 1000002, 52, 48]⟩
def okAt (P : Program) (C : Cfg) (F : List IFun) (i : Nat) : Bool := match C.fns[i]? with
  | some (some k) => (match P.funcs[k]?, F[i]? with
    | some fn, some ifn => chkFun P C fn ifn
    | _, _ => false)
  | _ => true
theorem linked_of {P : Program} {C : Cfg} {F : List IFun} (h : ∀ i, i < C.fns.length → okAt P C F i = true) : Linked P C F := by
  intro f k hk
  unfold Cfg.fn at hk
  split at hk
  · rename_i x hx
    subst hk
    have hlt := (List.getElem?_eq_some_iff.1 hx).1
    have ho := h f hlt
    simp only [okAt, hx] at ho
    split at ho
    · rename_i fn ifn h1 h2
      exact ⟨fn, ifn, h1, h2, ho⟩
    · cases ho
  · cases hk
theorem ok0 : ([0, 1, 2, 3, 4, 5, 6, 7, 8, 9].all (okAt Tryd.prog CC F)) = true := by kernel_rfl
theorem ok10 : ([10, 11, 12, 13, 14, 15, 16, 17, 18, 19].all (okAt Tryd.prog CC F)) = true := by kernel_rfl
theorem ok20 : ([20, 21, 22, 23, 24, 25, 26, 27, 28, 29].all (okAt Tryd.prog CC F)) = true := by kernel_rfl
theorem ok30 : ([30, 31, 32, 33, 34, 35, 36, 37, 38, 39].all (okAt Tryd.prog CC F)) = true := by kernel_rfl
theorem ok40 : ([40, 41, 42, 43, 44, 45, 46, 47, 48, 49].all (okAt Tryd.prog CC F)) = true := by kernel_rfl
theorem ok50 : ([50, 51, 52, 53, 54, 55, 56, 57, 58, 59].all (okAt Tryd.prog CC F)) = true := by kernel_rfl
theorem ok60 : ([60, 61, 62, 63, 64, 65, 66, 67, 68, 69].all (okAt Tryd.prog CC F)) = true := by kernel_rfl
theorem ok70 : ([70, 71, 72, 73, 74, 75, 76, 77, 78, 79].all (okAt Tryd.prog CC F)) = true := by kernel_rfl
theorem ok80 : ([80, 81, 82, 83, 84, 85, 86, 87, 88, 89].all (okAt Tryd.prog CC F)) = true := by kernel_rfl
theorem linked : Linked Tryd.prog CC F := by
  refine linked_of fun i hi => ?_
  have hi : i < 90 := hi
  by_cases h0 : i < 10
  · exact List.all_eq_true.1 ok0 i (by simp; omega)
  by_cases h10 : i < 20
  · exact List.all_eq_true.1 ok10 i (by simp; omega)
  by_cases h20 : i < 30
  · exact List.all_eq_true.1 ok20 i (by simp; omega)
  by_cases h30 : i < 40
  · exact List.all_eq_true.1 ok30 i (by simp; omega)
  by_cases h40 : i < 50
  · exact List.all_eq_true.1 ok40 i (by simp; omega)
  by_cases h50 : i < 60
  · exact List.all_eq_true.1 ok50 i (by simp; omega)
  by_cases h60 : i < 70
  · exact List.all_eq_true.1 ok60 i (by simp; omega)
  by_cases h70 : i < 80
  · exact List.all_eq_true.1 ok70 i (by simp; omega)
  by_cases h80 : i < 90
  · exact List.all_eq_true.1 ok80 i (by simp; omega)
  omega
theorem tys_nodup : CC.tys.Nodup := by decide
theorem follows : Tryd.prog.follows .mixedOrders = true := by kernel_rfl
end Go.Ev
