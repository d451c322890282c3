/- Package picture: the small functions. -/
import Derived.Test.YtgphmpppekghbaaDoorErr
import Derived.Test.YtgphmpppekghbaaDoorSlc
namespace Go.Proofs.Tryd
open Go.Sl
set_option maxHeartbeats 400000
attribute [local irreducible] Go.wpList Go.Code.wp Go.wpQuiet PO PQ AnyH
variable {w0 : World} {H R : HProp}
abbrev ptr (b : Nat) : Value := .pointer (some ⟨b, 0, none⟩)
theorem int_key : KeyLaw prog 3 (fun x : Int => Value.int .i64 x) := keyLaw_int (e := e3) rfl rfl
theorem int_part (cs : Array Value) (i : Nat) (x : Value) (w : World) (h : cs[i]? = some x) : (part 3 cs i).run prog w = .ok x w := by
  simp [part, run_isAgg (show Tabs.T prog 3 = some e3 from rfl), TypeDesc.isAgg, h]
theorem way_fields : prog.fieldsOf 135 = #[{ name := "from", type := 3, offset := 0, embedded := false, tag := "", pkgPath := "mootbell/picture", byteOffset := 0 }, { name := "to", type := 3, offset := 1, embedded := false, tag := "", pkgPath := "mootbell/picture", byteOffset := 8 }] := by kernel_rfl
theorem way_eq (k k' : Int × Int) (w : World) : (Op.equal 135 (enc2 k) (enc2 k')).run prog w = .ok (decide (k' = k)) w := by
  refine run_equal_of2 fun d => ?_
  rw [run_equalIn_struct w (d + 1) 135 _ _ (by rw [way_fields]; exact underlying135) stoodInHeld135, way_fields]
  have hu : prog.underlying 3 = some (.int .i64) := underlying3
  obtain ⟨a, b⟩ := k
  obtain ⟨a', b'⟩ := k'
  simp only [Op.eqFields, Sem.run_bind, Sem.run_ite]
  rw [int_part _ 0 (.int .i64 a) w rfl, Result.andThen_ok, int_part _ 0 (.int .i64 a') w rfl, Result.andThen_ok, run_equalIn_int w d 3 .i64 .i64 a a' hu]
  by_cases h1 : a = a'
  · subst h1
    simp [int_part _ 1 (.int .i64 b) w, int_part _ 1 (.int .i64 b') w, run_equalIn_int w d 3 .i64 .i64 b b' hu]
    by_cases h2 : b = b'
    · simp [h2]
    · simp [h2]; exact fun e => h2 e.symm
  · simp [h1]; exact fun e _ => h1 e.symm
theorem way_key : KeyLaw prog 135 enc2 := keyLaw_struct (e := e135) rfl rfl way_eq (fun b k w => checkKey_of2 fun d => by
    simp [Instr.checkKey, run_und (show Tabs.T prog 135 = some e135 from rfl), run_und (show Tabs.T prog 3 = some e3 from rfl), int_part _ 0 (.int .i64 k.1) w, int_part _ 1 (.int .i64 k.2) w]) (fun k => sameBits_of2 fun d => by simp [Instr.sameBits])
theorem group_r (n : Int) : RSpec prog w0 62 [iv n] H (.bool (decide (2 ≤ n) && decide (n ≤ 5))) := by
  refine RSpec.intro (n := 9) func62 rfl rfl rfl (by kernel_rfl) ?_
  refine go ?_
  refine PO.gsplit rfl rfl rfl rfl (fun h => ?_) (fun h => ?_)
  · refine go ?_
    exact PO.returnR rfl rfl (by simp [packed, h])
  · refine go ?_
    exact PO.returnR rfl rfl (by simp [packed, h])
theorem right_r (n : Int) : RSpec prog w0 65 [iv n] H (.bool (decide (0 ≤ n) && decide (n ≤ 1000))) := by
  refine RSpec.intro (n := 9) func65 rfl rfl rfl (by kernel_rfl) ?_
  refine go ?_
  refine PO.gsplit rfl rfl rfl rfl (fun h => ?_) (fun h => ?_)
  · refine go ?_
    exact PO.returnR rfl rfl (by simp [packed, h])
  · refine go ?_
    exact PO.returnR rfl rfl (by simp [packed, h])
theorem new1_r (n : Int) : RSpec prog w0 64 [iv n] H (.bool (!(decide (0 ≤ n) && decide (n ≤ 1000)))) := by
  refine RSpec.intro (n := 6) func64 rfl rfl rfl (by kernel_rfl) ?_
  refine go ?_
  refine PO.callr rfl (right_r n) rfl ?_
  refine go ?_
  exact PO.returnR rfl rfl rfl
theorem has_r (b : Nat) (who : Int) {l : List Value} {t : TypeId} {fr : Nat × Nat} {p : Option Addr} {m c : Nat} [q : PullBlk b H (.cells l.toArray t fr) R] (hl : l[0]? = some (.slice p m c)) :
    RSpec prog w0 70 [ptr b, iv who] H (.bool (decide (0 ≤ who) && decide (who < m))) := by
  refine RSpec.intro (n := 16) func70 rfl rfl rfl (by kernel_rfl) ?_
  refine go ?_
  refine PO.gsplit rfl rfl rfl rfl (fun h => ?_) (fun h => ?_)
  · refine go ?_
    refine PO.o rfl (OpV.load rfl rfl rfl rfl hl) ?_
    refine go ?_
    exact PO.returnR rfl rfl (by simp [packed, h])
  · refine go ?_
    exact PO.returnR rfl rfl (by simp [packed, h])
end Go.Proofs.Tryd
