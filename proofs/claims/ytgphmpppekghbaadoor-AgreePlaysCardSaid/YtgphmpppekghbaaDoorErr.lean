/- What the statements ask of errors: mootsame.Error, plain.Told. -/
import Derived.Test.YtgphmpppekghbaaDoorTab
import Derived.Test.YtgphmpppekghbaaDoorAs
namespace Go.Proofs.Tryd
open Go.Sl
set_option maxHeartbeats 400000
attribute [local irreducible] Go.wpList Go.Code.wp Go.wpQuiet PO PQ
variable {w0 : World} {H : HProp}

/-- The variable errors.errorType as the row lists it. -/
def Laid (w0 : World) : Prop := w0.cell? ⟨0, 0, none⟩ = some (.iface 228 (.agg #[.pointer (some ⟨5, 26, none⟩)]))
/-- An error of the program's, by its number. -/
def errV (e : Int) : Value := if e = 0 then .nilIface else .iface 126 (.int .i64 e)
theorem errV_0 : errV 0 = .nilIface := rfl
theorem errV_ne {e : Int} (h : e ≠ 0) : errV e = .iface 126 (.int .i64 e) := if_neg h

theorem as_h (hg : Laid w0) (k : Int) (bt : Nat) : HSpec prog w0 111 [.iface 126 (.int .i64 k), .iface 187 (.pointer (some ⟨bt, 0, none⟩))] (cels bt [.int .i64 0] 126)
    (fun v => pur (v = .bool true) * cels bt [.int .i64 k] 126) := by
  refine ⟨by kernel_rfl, fun R w hw => (as_hit k ⟨bt, 0, none⟩ (.int .i64 0) w (hw.oldCell hg) (by rw [hw.cell]; rfl) hw.frozen).mono ?_⟩
  rintro e w' ⟨rfl, rfl⟩
  refine ⟨_, rfl, ?_⟩
  have h4 := ((((hw.alloc (.cells #[.pointer (some ⟨bt, 0, none⟩)] 187)).alloc (.cells #[.pointer (some ⟨5, 187, none⟩), .pointer (some ⟨w.heap.size, 0, none⟩), .int .u64 150] 202)).alloc (.cells #[.pointer (some ⟨5, 187, none⟩), .pointer (some ⟨w.heap.size, 0, none⟩), .int .u64 150] 202)).alloc (.cells #[.int .i64 k] 126)).ent
    ((Ent.right _ _).trans ((Ent.right _ _).trans ((Ent.right _ _).trans (Ent.right _ _))))
  exact (h4.setCell (i := 0) (.int .i64 k)).ent (Ent.star (Ent.frp rfl (Ent.refl _)) (Ent.refl _))
theorem told_r (hg : Laid w0) (e : Int) : RSpec prog w0 67 [errV e] H (.int .i64 e) := by
  by_cases he : e = 0
  · subst he
    refine RSpec.intro (n := 10) func67 rfl rfl rfl (by kernel_rfl) ?_
    rw [errV_0]
    refine go ?_
    exact PO.returnR rfl rfl rfl
  · rw [errV_ne he]
    refine RSpec.intro (n := 10) func67 rfl rfl rfl (by kernel_rfl) ?_
    refine go fun b => ?_
    refine go ?_
    refine PO.callh rfl (as_h hg e b) rfl fun v => ?_
    refine PO.ent (Ent.assoc _ _ _) (PO.pur fun hv => ?_)
    subst hv
    refine go ?_
    exact PO.returnRE rfl rfl rfl Ent.fr
theorem error_r (hg : Laid w0) (e k : Int) : RSpec prog w0 11 [errV e, .int .i64 k] H (.bool (decide (e = k))) := by
  refine RSpec.intro (n := 11) func11 rfl rfl rfl (by kernel_rfl) ?_
  refine go ?_
  refine PO.callr rfl (told_r hg e) rfl ?_
  refine go ?_
  exact PO.returnR rfl rfl rfl
end Go.Proofs.Tryd
