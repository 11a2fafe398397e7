/-
  What the program tells of a few trees: computed.
-/
import Derived.Test.YthajiefjebcobaaDoorIrTree
set_option linter.all false
set_option maxRecDepth 100000
namespace Go.Ev
open Go
def saysTrue : Option Res → Bool
  | some (.done (.ret (.bool true)) [] []) => true
  | _ => false
theorem saysTrue_eq {x : Option Res} (h : saysTrue x = true) : x = retv (.bool true) := by
  unfold saysTrue at h
  split at h
  · rfl
  · cases h
set_option maxHeartbeats 0 in
theorem told4 : saysTrue (evB F [] 100 (.call 4 [] [] false)) = true := by decide +kernel
theorem run4 : lim F [] (.call 4 [] [] false) = retv (.bool true) := lim_of (saysTrue_eq told4)
end Go.Ev
