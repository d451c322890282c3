/- AgreePlays: the statement's own code, part by part. -/
import Derived.Test.YtgphmpppekghbaaDoorAgrD
namespace Go.Proofs.Tryd
open Go.Sl
set_option maxHeartbeats 2000000
attribute [local irreducible] Go.wpList Go.Code.wp Go.wpQuiet PO PQ AnyH layA
variable {w0 : World} {H R : HProp} {S S' : AS} {i : Nat} {A A' : RA}
noncomputable def lawC : Code := (f4.body).getD .skip
noncomputable def copyC : Code := sub lawC [1, 1, 1, 1, 1, 1, 1, 0, 1, 0, 0, 1, 0, 0, 1, 0, 1]
noncomputable def stepC : Code := sub lawC [1, 1, 1, 1, 1, 1, 1, 0, 1, 0, 0, 1, 0, 0, 1, 1, 1, 0, 1]
noncomputable def obsC : Code := sub lawC [1, 1, 1, 1, 1, 1, 1, 0, 1, 0, 0, 1, 0, 0, 1, 1, 1, 1]
abbrev v3 (b : Nat) (a0 a1 a2 : Int) : HProp := cels b [iv a0, iv a1, iv a2] 70
theorem stamp_fields : prog.fieldsOf 64 = #[{ name := "N", type := 3, offset := 0, embedded := false, tag := "", pkgPath := "", byteOffset := 0 }, { name := "Who", type := 3, offset := 1, embedded := false, tag := "", pkgPath := "", byteOffset := 8 }] := by kernel_rfl
theorem stamp_same (a b : Int) (w : World) : (Op.equal 64 (.agg #[iv a, iv b]) (.agg #[iv a, iv b])).run prog w = .ok true w := by
  refine run_equal_of2 fun d => ?_
  rw [run_equalIn_struct w (d + 1) 64 _ _ (by rw [stamp_fields]; exact underlying64) stoodInHeld64, stamp_fields]
  have hu : prog.underlying 3 = some (.int .i64) := underlying3
  simp [Op.eqFields, int_part _ 0 (.int .i64 a) w, int_part _ 1 (.int .i64 b) w, run_equalIn_int w d 3 .i64 .i64 a a hu, run_equalIn_int w d 3 .i64 .i64 b b hu]
theorem RefOk.said (h : RefOk S A) {w : Nat} : RefOk { S with was := fun y => if y = (w : Int) then true else S.was y } { A with was := upd1 A.was w true } where
  n := h.n
  was y hy := by
    simp only [upd1]
    by_cases e : y = w
    · rw [if_pos e, if_pos (by omega)]
    · rw [if_neg e, if_neg (by omega), h.was y hy]
  has := h.has
  knew := h.knew
  most := h.most
  g := h.g
theorem say_arm {Q : Exit → Act → World → Prop} (hl : Laid w0) {t0 t1 : Value} {bp bm bv i : Nat} {a0 a1 a2 : Int} (hS : AInv S i)
    (k : PO w0 205 [(0, t0), (1, t1), (6, ptr bp), (8, .bool true), (9, ptr bm), (10, iv i), (11, ptr bv)] (agrP bp (sayA S a2).1 * (refA bm (sayA S a2).1 * (v3 bv a0 a1 a2 * R))) (Q .normal)) :
    PO w0 205 [(5, iv 0), (0, t0), (1, t1), (6, ptr bp), (9, ptr bm), (10, iv i), (11, ptr bv)] (agrP bp S * (refA bm S * (v3 bv a0 a1 a2 * R))) ((sub stepC [0, 1, 0]).wp prog Q) := by
  refine PO.seq ?_
  refine PO.midU [(5, iv (sayA S a2).2), (0, t0), (1, t1), (6, ptr bp), (9, ptr bm), (10, iv i), (11, ptr bv)] (agrP bp S * (refA bm (sayA S a2).1 * (v3 bv a0 a1 a2 * R))) ?_ ?_
  · by_cases hin : 1 ≤ a2 ∧ a2 ≤ 30
    · obtain ⟨wn, rfl⟩ := Int.eq_ofNat_of_zero_le (show 0 ≤ a2 by omega)
      have hw : wn < 31 := by omega
      refine PO.pull (refA bm S) ?_
      refine refA_open fun A hok => ?_
      have hlw : (layA A)[0 + 1 + wn]? = some (.bool (S.was wn)) := by rw [layA_was hw, hok.was wn hw]
      refine go ?_
      refine PO.gsplit rfl rfl rfl rfl (fun h1 => ?_) (fun h1 => absurd (of_decide_eq_true h1) (by omega))
      refine go ?_
      refine PO.csplit rfl (fun h2 => absurd (of_decide_eq_true h2) (by omega)) (fun h2 => ?_)
      refine go ?_
      refine PO.regionQ (by kernel_rfl) (by kernel_rfl) ?_
      refine goQ ?_
      refine PQ.o rfl (OpV.load rfl rfl rfl rfl hlw) ?_
      refine goQ ?_
      refine go ?_
      cases hW : S.was wn
      · have hs : sayA S wn = ({ S with was := fun y => if y = (wn : Int) then true else S.was y }, 0) := by unfold sayA; rw [if_neg (fun g => g hin), if_neg (by simp [hW])]
        rw [hs]
        refine go ?_
        refine PO.regionF (cels bm (layA A) 69) (by kernel_rfl) ?_
        refine tk 0 ?_
        refine tk 1 ?_
        refine tk 2 ?_
        refine tk 3 ?_
        refine tk 4 ?_
        refine tk 5 ?_
        refine PO.any [6] (by kernel_rfl) (by simp) (OneOf.cons rfl ?_ OneOf.nil)
        refine PO.storeA rfl rfl rfl rfl rfl rfl (by show 0 + 1 + wn + 1 ≤ 662; omega) (layA_setWas hw) ?_
        refine PO.kept (Ent.right _ _) ?_
        refine PO.anyDone (by kernel_rfl) ?_
        refine PO.meet () trivial ?_
        exact (refA_close (R := agrP bp S * (v3 bv a0 a1 wn * R)) bm { S with was := fun y => if y = (wn : Int) then true else S.was y } { A with was := upd1 A.was wn true } hok.said (M := sepL (fun x : Nat => ints (A.hv x) 3 (S.heard x)) (List.range 5)) rfl Ent.fr).trans (Ent.swap _ _ _)
      · have hs : sayA S wn = (S, 7) := by unfold sayA; rw [if_neg (fun g => g hin), if_pos hW]
        rw [hs]
        refine go ?_
        refine PO.meet () trivial ?_
        exact (refA_close (R := agrP bp S * (v3 bv a0 a1 wn * R)) bm S A hok rfl Ent.fr).trans (Ent.swap _ _ _)
    · have hs : sayA S a2 = (S, 1) := by unfold sayA; rw [if_pos hin]
      rw [hs]
      refine go ?_
      refine PO.gsplit rfl rfl rfl rfl (fun h1 => ?_) (fun h1 => ?_)
      · refine go ?_
        refine PO.csplit rfl (fun h2 => ?_) (fun h2 => absurd (of_decide_eq_false h2) (by have := of_decide_eq_false h1; omega))
        refine go ?_
        exact PO.meet () trivial (Ent.refl _)
      · refine go ?_
        exact PO.meet () trivial (Ent.refl _)
  refine go ?_
  refine PO.callh rfl (say_h bp S a2 hS) rfl fun v => ?_
  refine PO.ent (Ent.assoc _ _ _) (PO.pur fun hv => ?_)
  subst hv
  refine go ?_
  refine PO.callr rfl (error_t hl _) rfl ?_
  refine go ?_
  exact PO.sub subs (PO.ent Ent.fr k)
theorem prop_arm {Q : Exit → Act → World → Prop} (hl : Laid w0) {t0 t1 : Value} {bp bm bv i : Nat} {a0 a1 a2 : Int} (hi : i ≤ 200) (hS : AInv S i)
    (k : PO w0 205 [(0, t0), (1, t1), (6, ptr bp), (8, .bool true), (9, ptr bm), (10, iv i), (11, ptr bv)] (agrP bp (proposeA S a1 a2).1 * (refA bm (proposeA S a1 a2).1 * (v3 bv a0 a1 a2 * R))) (Q .normal)) :
    PO w0 205 [(5, iv 0), (0, t0), (1, t1), (6, ptr bp), (9, ptr bm), (10, iv i), (11, ptr bv)] (agrP bp S * (refA bm S * (v3 bv a0 a1 a2 * R))) ((sub stepC [0, 1, 1, 1, 0]).wp prog Q) := by
  refine go ?_
  refine PO.callh rfl (rpropose_h bm S a1 a2 hi hS) rfl fun v => ?_
  refine PO.ent (Ent.assoc _ _ _) (PO.pur fun hv => ?_)
  subst hv
  refine go fun b13 => ?_
  refine go ?_
  refine PO.callh rfl (propose_h bp S a1 a2 hi hS) rfl fun v => ?_
  refine PO.ent (Ent.assoc _ _ _) (PO.pur fun hv => ?_)
  subst hv
  refine go fun b15 => ?_
  refine go ?_
  refine PO.callr rfl (error_t hl _) rfl ?_
  refine go ?_
  refine PO.o rfl (OpV.eql_agg rfl rfl rfl (by kernel_rfl) (stamp_same _ _)) ?_
  refine go ?_
  exact PO.sub subs (PO.ent Ent.fr k)
theorem settle_arm {Q : Exit → Act → World → Prop} (hl : Laid w0) {t0 t1 : Value} {bp bm bv i : Nat} {a0 a1 a2 : Int} (hi : i ≤ 200) (hS : AInv S i)
    (k : PO w0 205 [(0, t0), (1, t1), (6, ptr bp), (8, .bool true), (9, ptr bm), (10, iv i), (11, ptr bv)] (agrP bp (settleA S a1 a2).1 * (refA bm (settleA S a1 a2).1 * (v3 bv a0 a1 a2 * R))) (Q .normal)) :
    PO w0 205 [(5, iv 0), (0, t0), (1, t1), (6, ptr bp), (9, ptr bm), (10, iv i), (11, ptr bv)] (agrP bp S * (refA bm S * (v3 bv a0 a1 a2 * R))) ((sub stepC [0, 1, 1, 1, 1]).wp prog Q) := by
  have hlen : (settleA S a1 a2).2.1.length ≤ 30 := by
    have h1 := hS.settle a1 a2
    unfold settleA at h1 ⊢
    split
    · simp
    · split
      · simp
      · split
        · simp
        · rename_i g1 g2 g3
          rw [if_neg g1, if_neg g2, if_neg g3] at h1
          have h2 := h1.heard30 a1
          rw [hear_fields] at h2
          simp [heardA] at h2 ⊢
          omega
  refine go ?_
  refine PO.callh rfl (rsettle_h bm S a1 a2 hS) rfl fun v => ?_
  refine PO.ent (Ent.assoc _ _ _) (PO.ex_star fun u1 => PO.ent (Ent.assoc _ _ _) (PO.pur fun hv => ?_))
  subst hv
  refine go ?_
  refine PO.callh rfl (settle_h bp S a1 a2 hi hS) rfl fun v => ?_
  refine PO.ent (Ent.assoc _ _ _) (PO.ex_star fun u2 => PO.ent (Ent.assoc _ _ _) (PO.pur fun hv => ?_))
  subst hv
  refine PO.rd (v := u1) encI_ok fun h1 => ?_
  refine PO.rd (v := u2) encI_ok fun h2 => ?_
  refine go ?_
  refine PO.callr rfl (error_t hl _) rfl ?_
  refine go ?_
  refine PO.callr rfl (ints_t u2 u1 _ (h2.ent Ent.fr) (h1.ent Ent.fr) (by omega)) rfl ?_
  refine go ?_
  exact PO.sub subs (PO.ent Ent.fr k)
end Go.Proofs.Tryd
