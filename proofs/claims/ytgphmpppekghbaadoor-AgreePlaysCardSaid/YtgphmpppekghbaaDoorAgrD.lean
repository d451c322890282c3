/- The group that the statement sets beside: Settle, whole. -/
import Derived.Test.YtgphmpppekghbaaDoorAgrC
namespace Go.Proofs.Tryd
open Go.Sl
set_option maxHeartbeats 2000000
attribute [local irreducible] Go.wpList Go.Code.wp Go.wpQuiet PO PQ AnyH layA
variable {w0 : World} {H R : HProp} {S S' : AS} {i : Nat} {A A' : RA}
theorem rsettle_h (b : Nat) (S : AS) (x w : Int) (hS : AInv S i) :
    HSpec prog w0 28 [ptr b, iv x, iv w] (refA b S) (fun v => (ex fun u : Value => pur (v = .tuple #[u, iv (settleA S x w).2.2]) * ints u 3 (settleA S x w).2.1) * refA b (settleA S x w).1) := by
  refine HSpec.intro (n := 153) func28 rfl rfl rfl (by kernel_rfl) fun R => ?_
  have bad : ∀ (e : Int) (hs : settleA S x w = (S, [], e)) {X : HProp} (hX : Ent X (refA b S * R)) (v : Value) (_ : v = .tuple #[nilS, iv e]), Ent X ((ex fun u : Value => pur (v = .tuple #[u, iv (settleA S x w).2.2]) * ints u 3 (settleA S x w).2.1) * refA b (settleA S x w).1 * R) := by
    intro e hs X hX v hv
    rw [hs]
    refine hX.trans (((Ent.emp_star _).trans (Ent.star (fun h _ => ?_) (Ent.refl _))).trans (Ent.assoc' _ _ _))
    exact ⟨nilS, (Ent.frp (H := emp) hv osl_nil) h trivial⟩
  refine refA_open fun A hok => ?_
  refine go ?_
  refine PO.callr rfl (rcheck_r b x w hok) rfl ?_
  by_cases he : agrE S.n x w (S.was w) = 0
  · rw [he]
    obtain ⟨x0, x1, w1, w2, hW⟩ := agrE_0 he
    obtain ⟨n, rfl⟩ := Int.eq_ofNat_of_zero_le x0
    obtain ⟨wn, rfl⟩ := Int.eq_ofNat_of_zero_le (show 0 ≤ w by omega)
    have hn5 := hS.n5
    have hn : n < 5 := by omega
    have hw : wn < 31 := by omega
    have hAm := hok.most n hn
    refine go ?_
    refine PO.callm rfl (final_m b wn hw hok hS) rfl fun v => ?_
    refine PO.ex_star fun s => PO.ex_star fun d => PO.pur fun hv => ?_
    obtain ⟨rfl, hd1, hd2⟩ := hv
    cases d
    · have hna : ¬ allA S wn := fun g => by have := hd1.2 g; cases this
      have hs : settleA S n wn = (S, [], 6) := by unfold settleA; rw [if_neg (fun g => g he), if_pos hna]
      refine go fun b9 => ?_
      refine go ?_
      exact PO.return_ rfl rfl (bad 6 hs (refA_close b S A hok rfl) _ rfl)
    · have ha := hd1.1 rfl
      have hfs := hd2 rfl
      subst hfs
      refine go fun b9 => ?_
      refine go ?_
      refine PO.o rfl (OpV.load rfl rfl rfl rfl (layA_knew hw hn)) ?_
      rw [hok.knew wn hw n hn]
      cases hK : S.knew wn n
      · have hs : settleA S n wn = ((hearS (knowA S n wn) n).2, (hearS (knowA S n wn) n).1, 0) := by unfold settleA; rw [if_neg (fun g => g he), if_neg (fun g => g ha), if_neg (by simp [hK])]
        have hS1 := hS.know he ha hK
        have hlm : (layA { A with knew := upd2 A.knew wn n true })[0 + 652 + n]? = some (iv (S.most n)) := by
          rw [layA_most hn]
          show some (iv (A.most n)) = _
          rw [hAm]
        refine go ?_
        refine PO.storeA rfl rfl rfl rfl rfl rfl (by show 0 + 497 + wn * 5 + n + 1 ≤ 662; omega) (layA_setKnew hw hn) ?_
        refine go1 ?_
        refine PO.then_normal ?_
        refine PO.seq ?_
        refine PO.midU [(0, ptr b), (1, iv n)] (cels b (layA { A with knew := upd2 A.knew wn n true, most := upd1 A.most n (max (S.most n) (final S wn).1) }) 69 * (hears S A * R)) ?_ ?_
        · refine go ?_
          refine PO.regionQ (by kernel_rfl) (by kernel_rfl) ?_
          refine goQ ?_
          refine PQ.o rfl (OpV.load rfl rfl rfl rfl hlm) ?_
          refine goQ ?_
          refine go ?_
          refine PO.csplit rfl (fun h => ?_) (fun h => ?_)
          · have hmx : max (S.most n) (final S wn).1 = (final S wn).1 := by have := of_decide_eq_true h; omega
            rw [hmx]
            refine go ?_
            refine PO.regionF (cels b (layA { A with knew := upd2 A.knew wn n true }) 69) (by kernel_rfl) ?_
            refine tk 0 ?_
            refine tk 1 ?_
            refine tk 2 ?_
            refine tk 3 ?_
            refine tk 4 ?_
            refine tk 5 ?_
            refine tk 6 ?_
            refine PO.any [7] (by kernel_rfl) (by simp) (OneOf.cons rfl ?_ OneOf.nil)
            refine PO.storeA rfl rfl rfl rfl rfl rfl (by show 0 + 652 + n + 1 ≤ 662; omega) (layA_setMost hn) ?_
            refine PO.kept (Ent.right _ _) ?_
            refine PO.anyDone (by kernel_rfl) ?_
            exact PO.meet () trivial Ent.fr
          · have hmx : upd1 A.most n (max (S.most n) (final S wn).1) = A.most := by
              funext y
              unfold upd1
              by_cases e : y = n
              · rw [if_pos e, e, hAm]; have := of_decide_eq_false h; omega
              · rw [if_neg e]
            rw [hmx]
            refine go ?_
            exact PO.meet () trivial Ent.fr
        refine PO.then_normal ?_
        refine PO.seq ?_
        refine go1 ?_
        refine PO.then_normal ?_
        refine PO.seq ?_
        refine PO.seq ?_
        refine go1 ?_
        refine PO.then_normal ?_
        refine PO.sub subs (outer (S := knowA S n wn) (A := { A with knew := upd2 A.knew wn n true, most := upd1 A.most n (max (S.most n) (final S wn).1) }) (x := (n : Int)) rfl hS1 hok.know hn ?_)
        intro ov A' hok'
        refine go ?_
        refine PO.return_ rfl rfl ?_
        rw [hs]
        refine (Ent.frs (A := ints ov 3 (hearS (knowA S n wn) n).1) (refA_close (R := R) b (hearS (knowA S n wn) n).2 A' hok' rfl)).trans ?_
        exact (Ent.assoc' _ _ _).trans (Ent.star (Ent.star (fun h hh => ⟨ov, (Ent.frp rfl (Ent.refl _)) h hh⟩) (Ent.refl _)) (Ent.refl _))
      · have hs : settleA S n wn = (S, [], 7) := by unfold settleA; rw [if_neg (fun g => g he), if_neg (fun g => g ha), if_pos hK]
        refine go ?_
        exact PO.return_ rfl rfl (bad 7 hs (refA_close b S A hok rfl) _ rfl)
  · have hs : settleA S x w = (S, [], agrE S.n x w (S.was w)) := by unfold settleA; rw [if_pos he]
    refine go ?_
    refine PO.csplit rfl (fun h => ?_) (fun h => absurd (of_decide_eq_false h) (fun g => g he))
    refine go ?_
    exact PO.return_ rfl rfl (bad _ hs (refA_close b S A hok rfl) _ rfl)
end Go.Proofs.Tryd
