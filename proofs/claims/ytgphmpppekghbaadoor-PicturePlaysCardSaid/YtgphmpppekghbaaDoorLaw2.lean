/- The statement's own code, part by part: what comes, what begins. -/
import Derived.Test.YtgphmpppekghbaaDoorLaw1
namespace Go.Proofs.Tryd
open Go.Sl
set_option maxHeartbeats 1000000
attribute [local irreducible] Go.wpList Go.Code.wp Go.wpQuiet PO PQ AnyH layL
variable {w0 : World} {H R : HProp} {gv : Value} {wv : Nat → Nat → Value} {S : PS}
theorem error_t (hg : Laid w0) (e : Int) : RSpec prog w0 11 [errV e, .int .i64 e] H (.bool true) := by
  have := error_r (H := H) hg e e
  simpa using this
theorem ints_t (s t : Value) (xs : List Int) (hs : Ints w0 H s xs) (ht : Ints w0 H t xs) (hl : xs.length < 4611686018427387904) : RSpec prog w0 20 [s, t] H (.bool true) := by
  have := ints_r s t xs xs hs ht hl
  simpa using this
theorem pay_arm {Q : Exit → Act → World → Prop} (hl : Laid w0) {g0 g1 : Value} {bp bm bv i : Nat} {a0 a1 a2 a3 : Int} (hS : Inv S i) (hi : i ≤ 200)
    (k : PO w0 404 [(0, g0), (1, g1), (7, ptr bp), (9, .bool true), (10, ptr bm), (11, iv i), (12, ptr bv), (14, iv (wayE S.gold.length a1 a2))] (picP bp (payS S a1 a2 a3).1 * (refR bm (payS S a1 a2 a3).1 * (v4 bv a0 a1 a2 a3 * R))) (Q .normal)) :
    PO w0 404 [(0, g0), (1, g1), (7, ptr bp), (10, ptr bm), (11, iv i), (12, ptr bv), (14, iv (wayE S.gold.length a1 a2))] (picP bp S * (refR bm S * (v4 bv a0 a1 a2 a3 * R))) ((sub switchC [1, 0]).wp prog Q) := by
  refine PO.seq ?_
  refine PO.region ?_
  refine PO.o rfl (OpV.ev rfl) ?_
  refine PO.o rfl (OpV.ev rfl) ?_
  refine PO.nil ?_
  refine PO.then_normal ?_
  refine PO.seq ?_
  refine PO.sub subs (pay_ref hS hi ?_)
  refine go ?_
  refine PO.callh rfl (pay_h bp S a1 a2 a3 i hi hS) rfl fun v => ?_
  refine PO.ent (Ent.assoc _ _ _) (PO.pur fun hv => ?_)
  subst hv
  refine go ?_
  refine PO.callr rfl (error_t hl _) rfl ?_
  refine go ?_
  exact PO.sub subs (PO.ent Ent.fr k)
theorem come_arm {Q : Exit → Act → World → Prop} (hl : Laid w0) {g0 g1 wy : Value} {bp bm bv i : Nat} {a0 a1 a2 a3 : Int} (hS : Inv S i) (hi : i ≤ 200)
    (k : PO w0 404 [(0, g0), (1, g1), (7, ptr bp), (9, .bool true), (10, ptr bm), (11, iv i), (12, ptr bv), (14, wy)] (picP bp (comeS S a1 a2).1 * (refR bm (comeS S a1 a2).1 * (v4 bv a0 a1 a2 a3 * R))) (Q .normal)) :
    PO w0 404 [(0, g0), (1, g1), (7, ptr bp), (10, ptr bm), (11, iv i), (12, ptr bv), (14, wy)] (picP bp S * (refR bm S * (v4 bv a0 a1 a2 a3 * R))) ((sub switchC [1, 1, 1, 0]).wp prog Q) := by
  refine go ?_
  refine PO.callh rfl (rcome_h bm S a1 a2 i hi hS) rfl fun v => ?_
  refine PO.ent (Ent.assoc _ _ _) (PO.pur fun hv => ?_)
  subst hv
  refine go ?_
  refine PO.callh rfl (come_h bp S a1 a2 i hi hS) rfl fun v => ?_
  refine PO.ent (Ent.assoc _ _ _) (PO.pur fun hv => ?_)
  subst hv
  refine go ?_
  refine PO.callr rfl (error_t hl _) rfl ?_
  refine go ?_
  have e1 : Value.bool (decide ((comeS S a1 a2).2.1 = (comeS S a1 a2).2.1)) = .bool true := by simp
  exact PO.sub subs (PO.ent Ent.fr k)
theorem begin_arm {Q : Exit → Act → World → Prop} (hl : Laid w0) {g1 wy : Value} {p0 : Option Addr} {c0 bp bm bv i : Nat} {a0 a1 a2 a3 : Int} (hS : Inv S i) (hi : i ≤ 200)
    (k : PO w0 404 [(0, .slice p0 S.gold.length c0), (1, g1), (7, ptr bp), (9, .bool true), (10, ptr bm), (11, iv i), (12, ptr bv), (14, wy)] (picP bp (beginS S a1).1 * (refR bm (beginS S a1).1 * (v4 bv a0 a1 a2 a3 * R))) (Q .normal)) :
    PO w0 404 [(0, .slice p0 S.gold.length c0), (1, g1), (5, iv 0), (7, ptr bp), (10, ptr bm), (11, iv i), (12, ptr bv), (14, wy)] (picP bp S * (refR bm S * (v4 bv a0 a1 a2 a3 * R))) ((sub switchC [1, 1, 1, 1]).wp prog Q) := by
  -- the tail: what the program does
  have tail : PO w0 404 [(0, .slice p0 S.gold.length c0), (1, g1), (5, iv (beginS S a1).2), (7, ptr bp), (10, ptr bm), (11, iv i), (12, ptr bv), (14, wy)] (picP bp S * (refR bm (beginS S a1).1 * (v4 bv a0 a1 a2 a3 * R))) ((sub switchC [1, 1, 1, 1, 1]).wp prog Q) := by
    refine go ?_
    refine PO.callh rfl (begin_h bp S a1 i hi hS) rfl fun v => ?_
    refine PO.ent (Ent.assoc _ _ _) (PO.pur fun hv => ?_)
    subst hv
    refine go ?_
    refine PO.callr rfl (error_t hl _) rfl ?_
    refine go ?_
    exact PO.sub subs (PO.ent Ent.fr k)
  refine PO.seq ?_
  refine PO.mid (α := Unit) (fun _ => True) (fun _ => [(0, .slice p0 S.gold.length c0), (1, g1), (5, iv (beginS S a1).2), (7, ptr bp), (10, ptr bm), (11, iv i), (12, ptr bv), (14, wy)]) (fun _ => picP bp S * (refR bm (beginS S a1).1 * (v4 bv a0 a1 a2 a3 * R))) ?_ (fun _ _ => PO.then_normal tail)
  clear tail
  by_cases hin : 0 ≤ a1 ∧ a1 < S.gold.length
  · refine go ?_
    refine PO.gsplit rfl rfl rfl rfl (fun h1 => ?_) (fun h1 => absurd (of_decide_eq_true h1) (by omega))
    refine go ?_
    refine PO.csplit rfl (fun h2 => absurd (of_decide_eq_true h2) (by omega)) (fun h2 => ?_)
    refine PO.front (refR bm S) ?_
    refine refR_open fun gv wv => ?_
    refine go ?_
    refine PO.o rfl (OpV.load rfl rfl rfl rfl lay_begun) ?_
    refine go ?_
    cases hB : S.begun
    · have hb : beginS S a1 = (writeS { S with begun := true } a1 S.gold.length, 0) := by unfold beginS; rw [if_neg (fun g => g hin), if_neg (by simp [hB])]
      rw [hb]
      refine go ?_
      refine PO.storeLay rfl rfl rfl rfl rfl rfl rfl (by omega) put_begun ?_
      refine go ?_
      refine PO.ent (refR_close bm (setBegun S true) gv wv S.gold rfl) ?_
      refine PO.callh rfl (rwrite_h bm (setBegun S true) a1 hin.1 hin.2 hS.n5 (fun f t => by have := hS.len f t; simp only; omega)) rfl fun v => ?_
      refine go ?_
      exact PO.meet () trivial Ent.fr
    · have hb : beginS S a1 = (S, 6) := by unfold beginS; rw [if_neg (fun g => g hin), if_pos hB]
      rw [hb]
      refine go ?_
      refine PO.ent (refR_close bm S gv wv S.gold rfl) ?_
      exact PO.meet () trivial Ent.fr
  · have hb0 : beginS S a1 = (S, 1) := by unfold beginS; rw [if_pos hin]
    rw [hb0]
    refine go ?_
    refine PO.gsplit rfl rfl rfl rfl (fun h1 => ?_) (fun h1 => ?_)
    · refine go ?_
      refine PO.csplit rfl (fun h2 => ?_) (fun h2 => absurd (of_decide_eq_false h2) (by have := of_decide_eq_false h1; omega))
      refine go ?_
      exact PO.meet () trivial Ent.fr
    · refine go ?_
      exact PO.meet () trivial Ent.fr
end Go.Proofs.Tryd
