/- Scripts that stop at a region's end; points where ways meet, without a ghost. -/
import Derived.Test.YtgphmpppekghbaaDoorSlSlice3
namespace Go.Sl
open Go.RowKit
variable {P : Program} {w0 : World} {n : Nat} {env : Env} {H H' R : HProp} {ops : Array Oper} {rest : List Oper} {Q : Exit → Act → World → Prop}
/-- Runs one region till something must be said, or till its end. -/
theorem go1 {φ : Act → World → Prop} {ψ : Prop} (h : ψ)
    (s : Box ψ → PO w0 n env H φ := by
      intro h
      repeat (first
        | refine PO.o rfl (OpV.ev rfl) ?_
        | refine PO.region ?_
        | refine PO.nil ?_
        | refine PO.gyes rfl rfl rfl ?_
        | refine PO.gno rfl rfl rfl rfl rfl ?_
        | refine PO.gno0 rfl rfl rfl rfl ?_
        | refine PO.gskip rfl rfl rfl rfl ?_
        | refine PO.o rfl (OpV.load rfl rfl rfl rfl rfl) ?_
        | refine PO.o rfl (OpV.load_agg rfl rfl rfl rfl rfl) ?_
        | refine PO.o rfl (OpV.add64 rfl rfl rfl (by omega)) ?_
        | refine PO.o rfl (OpV.sub64 rfl rfl rfl (by omega)) ?_
        | refine PO.o rfl (OpV.pick_bool rfl rfl rfl rfl) ?_
        | refine PO.o rfl (OpV.len_map rfl rfl rfl rfl) ?_
        | refine PO.o rfl (OpV.makeFunc rfl rfl rfl) ?_
        | refine PO.o rfl (OpV.indexN1_slice rfl rfl rfl rfl rfl rfl rfl (by omega)) ?_
        | refine PO.o rfl (OpV.indexN1_array rfl rfl rfl rfl rfl rfl rfl (by omega)) ?_
        | refine PO.o rfl (OpV.indexN_slice rfl rfl rfl rfl rfl rfl (by omega)) ?_
        | refine PO.o rfl (OpV.indexN_array rfl rfl rfl rfl rfl rfl (by omega)) ?_
        | refine PO.o rfl (OpV.indexAddr_slice rfl rfl rfl rfl rfl rfl (by omega)) ?_
        | refine PO.o rfl (OpV.indexAddr_array rfl rfl rfl rfl rfl rfl (by omega)) ?_
        | refine PO.o rfl (OpV.mul64 rfl rfl rfl (by omega)) ?_
        | refine PO.o rfl (OpV.rem rfl rfl rfl (by omega)) ?_
        | refine PO.o rfl (OpV.quo64 rfl rfl rfl (by omega)) ?_
        | refine PO.store rfl rfl rfl rfl rfl rfl rfl rfl rfl ?_
        | refine PO.al rfl rfl rfl rfl ?_
        | refine PO.bx rfl rfl rfl rfl ?_)
      exact h.out) : PO w0 n env H φ := s ⟨h⟩
/-- Ways meet; nothing is to be told of them. -/
theorem PO.midU {c : Code} (E : Env) (M : HProp) (h : PO w0 n env H (c.wp P (Mid w0 n (α := Unit) (fun _ => True) (fun _ => E) (fun _ => M) Q))) (k : PO w0 n E M (Q .normal)) : PO w0 n env H (c.wp P Q) :=
  PO.mid _ _ _ h fun _ _ => k
/-- Behind a region there is more. -/
theorem PO.more {x y : Code} (h : PO w0 n env H (x.wp P Q)) : PO w0 n env H (Exit.then (x.wp P Q) Q .normal) := PO.then_normal h
end Go.Sl
