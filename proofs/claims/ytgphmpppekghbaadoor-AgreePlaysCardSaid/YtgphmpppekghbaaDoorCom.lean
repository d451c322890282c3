/- What several packages need: keys, pointers, the group's size, errors that agree. (Not beside Pic1: the names are the same.) -/
import Derived.Test.YtgphmpppekghbaaDoorErr
import Derived.Test.YtgphmpppekghbaaDoorSlc
import Derived.Test.YtgphmpppekghbaaDoorSlMore
namespace Go.Proofs.Tryd
open Go.Sl
set_option maxHeartbeats 400000
attribute [local irreducible] Go.wpList Go.Code.wp Go.wpQuiet PO PQ AnyH
variable {w0 : World} {H R : HProp}
abbrev ptr (b : Nat) : Value := .pointer (some ⟨b, 0, none⟩)
abbrev encK : Int → Value := fun x => Value.int .i64 x
abbrev payI : Value → List Int → HProp := fun v xs => ints v 3 xs
theorem int_key : KeyLaw prog 3 (fun x : Int => Value.int .i64 x) := keyLaw_int (e := e3) rfl rfl
theorem int_part (cs : Array Value) (i : Nat) (x : Value) (w : World) (h : cs[i]? = some x) : (part 3 cs i).run prog w = .ok x w := by
  simp [part, run_isAgg (show Tabs.T prog 3 = some e3 from rfl), TypeDesc.isAgg, h]
theorem group_r (n : Int) : RSpec prog w0 62 [iv n] H (.bool (decide (2 ≤ n) && decide (n ≤ 5))) := by
  refine RSpec.intro (n := 9) func62 rfl rfl rfl (by kernel_rfl) ?_
  refine go ?_
  refine PO.gsplit rfl rfl rfl rfl (fun h => ?_) (fun h => ?_)
  · refine go ?_
    exact PO.returnR rfl rfl (by simp [packed, h])
  · refine go ?_
    exact PO.returnR rfl rfl (by simp [packed, h])
theorem error_t (hg : Laid w0) (e : Int) : RSpec prog w0 11 [errV e, .int .i64 e] H (.bool true) := by
  have := error_r (H := H) hg e e
  simpa using this
theorem ints_t (s t : Value) (xs : List Int) (hs : Ints w0 H s xs) (ht : Ints w0 H t xs) (hl : xs.length < 4611686018427387904) : RSpec prog w0 20 [s, t] H (.bool true) := by
  have := ints_r s t xs xs hs ht hl
  simpa using this
/-- A place in the code. -/
def sub : Code → List Nat → Code
  | c, [] => c
  | .seq a _, 0 :: l => sub a l
  | .seq _ b, _ :: l => sub b l
  | .cond _ a _, 0 :: l => sub a l
  | .cond _ _ b, _ :: l => sub b l
  | .loop a, _ :: l => sub a l
  | .block _ a, _ :: l => sub a l
  | c, _ => c
end Go.Proofs.Tryd
