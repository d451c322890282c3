/- What a row's condition on errors.errorType gives; a world that meets it. After the guide's worked example Toyas. -/
import Derived.Test.YtgphmpppekghbaaDoorRows
import Derived.Test.YtgphmpppekghbaaDoorErr
import Derived.Test.YtgphmpppekghbaaDoorSlArgs
import Derived.ChangeSame
import Derived.ChangeVars
import Derived.JoinedOf
import Derived.RowKit
import Derived.RowKitTokens
import Derived.LaidLaws
import Derived.LaidHandle
import Derived.Stop.Joined
import Derived.Carry
import Derived.Deep.Matrix
namespace Go.Proofs.Tryd
open Go.ChangeShapes Go.WideShapes Go.RowKit
theorem own : ownKnob Tryd.prog.godebug = none := by kernel_rfl
theorem laidOut : laidOutB Tryd.prog = true := by kernel_rfl
theorem et : Tryd.prog.globalNamed "errors.errorType" = some 0 := by kernel_rfl
theorem rt : (Tryd.prog.cutTypes.find? (·.1 == "internal/reflectlite.rtype")).map (·.2) = some 228 := by kernel_rfl
theorem oneRow : ((List.range 287).filter fun t => Tryd.prog.rowNamed t [101, 114, 114, 111, 114]) = [26] := by kernel_rfl
theorem tsize : Tryd.prog.types.size = 287 := by kernel_rfl
theorem thandle : typeHandle Tryd.prog 26 = .pointer (some ⟨5, 26, none⟩) := by kernel_rfl
abbrev laid1 : List (String × DataW Unit) := [("errors.errorType", YtgphmpppekghbaaDoor.Rows.laid_errors_errorType)]
theorem handle_of {l : List (String × DataW Unit)} {W : World} (hm : ("errors.errorType", YtgphmpppekghbaaDoor.Rows.laid_errors_errorType) ∈ l) (h' : handlesMet Tryd.prog l W) : Laid W := by
  obtain ⟨name, u, ty, e1, e2, e3, e4, e5⟩ := h' _ hm
  have en : name = [101, 114, 114, 111, 114] := (Option.some.inj e1).symm
  subst en
  obtain rfl := Option.some.inj (rt.symm.trans e2)
  have hm : ty ∈ (List.range 287).filter fun t => Tryd.prog.rowNamed t [101, 114, 114, 111, 114] := List.mem_filter.2 ⟨List.mem_range.2 (by rw [← tsize]; exact e3), e4⟩
  rw [oneRow] at hm
  obtain rfl := List.mem_singleton.1 hm
  rw [thandle] at e5
  simpa [Laid] using World.var?_cell et e5 0
theorem laid_of {W : World} (h : laidMetH Tryd.prog laid1 W) : Laid W := by
  have h' : laidMet Tryd.prog [] W ∧ handlesMet Tryd.prog laid1 W := h
  exact handle_of List.mem_cons_self h'.2
/-- A world that meets the condition: the settled one, the variable's cell laid. -/
noncomputable def laidWorld (os : Os) : World :=
  let w0 := World.holding Tryd.prog os ⟨#[], #[], []⟩
  { w0 with heap := w0.heap.modify 0 fun
      | .cells _ t frozen => .cells #[.iface 228 (.agg #[.pointer (some ⟨5, 26, none⟩)])] t frozen
      | o => o }
theorem laidWorld_met (os : Os) (args : Array Value) : laidMetH Tryd.prog laid1 ((laidWorld os).forCall (fun _ _ => 0) ⟨#[], args, []⟩).memory :=
  laidMetH_of_parts (laidMet_nil _ _) (by kernel_rfl)
/-! ### What came in, opened -/
section
open Go.Sl Go.Deep
variable {H : Type} {enc : TypeId × Value → H} {W : World} {base : Nat} {v : Value} {d : DataW H} {p : List MemPlace}
theorem cellsInt : Tryd.prog.cellsOf 3 = 1 := by kernel_rfl
theorem cellsInts : Tryd.prog.cellsOf 22 = 1 := by kernel_rfl
set_option maxRecDepth 100000 in
theorem ints_open (h : DataW.Trod enc Tryd.prog W 0 (fun _ => true) true 22 v d p) (hv : Value.okWide Tryd.prog W .any base 22 v) : ∃ xs, Ints W Sl.emp v xs ∧ xs.length < 9223372036854775808 := by
  obtain ⟨a0, len, cap, rfl⟩ := okWide_slice Tryd.underlying22 hv
  obtain ⟨fuel, hf⟩ := h
  rcases open_ints Tryd.underlying22 Tryd.underlying3 cellsInt hf with ⟨hcs, _⟩ | ⟨a, len', cap', zs, hcs, _, hl, hm, hz, _, hcell, _⟩
  · simp [Value.cells] at hcs
    obtain ⟨rfl, rfl, rfl⟩ := hcs
    exact ⟨[], Elems.nil, by simp⟩
  · simp [Value.cells] at hcs
    obtain ⟨rfl, rfl, rfl⟩ := hcs
    simp only [if_true] at hz
    refine ⟨zs.take len, Ints.old (by omega) hcell, ?_⟩
    have : maxLen = 9223372036854775807 := by unfold maxLen; omega
    rw [List.length_take]; omega
set_option maxRecDepth 100000 in
theorem lists_open (h : DataW.Trod enc Tryd.prog W 0 (fun _ => true) true 23 v d p) (hv : Value.okWide Tryd.prog W .any base 23 v) : ∃ xss, Lists W Sl.emp v xss ∧ xss.length < 9223372036854775808 ∧ ∀ xs ∈ xss, xs.length < 9223372036854775808 := by
  obtain ⟨a0, len, cap, rfl⟩ := okWide_slice Tryd.underlying23 hv
  obtain ⟨fuel, hf⟩ := h
  have hmax : maxLen = 9223372036854775807 := by unfold maxLen; omega
  rcases open_int_rows Tryd.underlying23 Tryd.underlying22 Tryd.underlying3 cellsInts cellsInt hf with ⟨hcs, _⟩ | ⟨a, len', cap', A, L, C, Z, hcs, _, hl, hm, _, hr⟩
  · simp [Value.cells] at hcs
    obtain ⟨rfl, rfl, rfl⟩ := hcs
    exact ⟨[], Lists.nil, by simp, by simp⟩
  · simp [Value.cells] at hcs
    obtain ⟨rfl, rfl, rfl⟩ := hcs
    refine ⟨_, Lists.old (A := A) (L := L) (C := C) (Z := Z) hl fun r hrr => ?_, by simp; omega, fun xs hx => ?_⟩
    · obtain ⟨g1, g2, _, g4, _, g6, g7⟩ := hr r hrr
      exact ⟨g1, g2, g4, g6, fun a' ha c hc => (g7 a' ha).2 c hc⟩
    · obtain ⟨r, hr', rfl⟩ := List.mem_map.1 hx
      obtain ⟨_, g2, g3, g4, _⟩ := hr r (by have := List.mem_range.1 hr'; omega)
      rw [List.length_take]; omega
end
end Go.Proofs.Tryd
