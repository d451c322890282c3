/- The group that the statement sets beside: Settle's inner loop. -/
import Derived.Test.YtgphmpppekghbaaDoorAgrA
namespace Go.Proofs.Tryd
open Go.Sl
set_option maxHeartbeats 2000000
attribute [local irreducible] Go.wpList Go.Code.wp Go.wpQuiet PO PQ AnyH layA
variable {w0 : World} {H R : HProp} {S S' : AS} {i : Nat} {A A' : RA}
noncomputable def rsetC : Code := (f28.body).getD .skip
noncomputable def innerC : Code := sub rsetC [1, 1, 1, 1, 1, 1, 1, 1, 1, 0, 1, 0, 0, 1, 0, 1, 1, 1, 0, 1]
theorem inner {Q : Exit → Act → World → Prop} {b b14 n : Nat} {ov : Value} (hS : AInv S i) (hok : RefOk S A) (hn : n < 5)
    (k : PO w0 153 [(13, iv (best S n)), (12, .bool false), (11, ov), (0, ptr b), (1, iv n)] (cels b (layA A) 69 * (hears S A * R)) (Q .normal)) :
    PO w0 153 [(15, iv 1), (13, iv 0), (14, ptr b14), (12, .bool false), (11, ov), (0, ptr b), (1, iv n)] (cels b14 [iv 0, iv 0] 64 * (cels b (layA A) 69 * (hears S A * R))) (innerC.wp prog Q) := by
  refine PO.block ?_
  refine PO.while3 (fun (wd : Nat) (bst : Int) (m : Stp) => 1 ≤ wd ∧ wd ≤ 31 ∧ Bst S n wd bst m) (fun wd bst _ => [(15, iv wd), (13, iv bst), (14, ptr b14), (12, .bool false), (11, ov), (0, ptr b), (1, iv n)])
    (fun _ _ m => cels b14 [iv m.1, iv m.2] 64 * (cels b (layA A) 69 * (hears S A * R))) (fun wd _ _ => 31 - wd) 1 0 (0, 0) ⟨by omega, by omega, .inl ⟨rfl, fun y hy => ?_⟩⟩ (Ent.refl _) ?_
  · cases h : waitS S n y
    · rfl
    · have := hS.word (waitS_iff.1 h).1; omega
  rintro wd bst m ⟨h1, h31, hB⟩
  refine go ?_
  refine PO.csplit rfl (fun h => ?_) (fun h => ?_)
  · have hw : wd < 31 := by have := of_decide_eq_true h; omega
    refine PO.skip ?_
    refine PO.then_normal ?_
    refine PO.seq ?_
    refine PO.mid (α := Int × Stp) (fun p => Bst S n (wd + 1) p.1 p.2) (fun p => [(15, iv wd), (13, iv p.1), (14, ptr b14), (12, .bool false), (11, ov), (0, ptr b), (1, iv n)]) (fun p => cels b14 [iv p.2.1, iv p.2.2] 64 * (cels b (layA A) 69 * (hears S A * R))) ?_ ?_
    · refine PO.sepRd (T := 3) (f := A.hv) (g := fun x : Nat => S.heard x) (x := n) (List.mem_range.2 hn) encI_ok fun hrd => ?_
      refine go ?_
      refine PO.o rfl (OpV.load rfl rfl rfl rfl (layA_hv hn)) ?_
      refine go ?_
      refine PO.callr rfl (in_r (A.hv n) (S.heard n) wd (hrd.ent Ent.fr) (by have := hS.heard30 n; omega)) rfl ?_
      refine go ?_
      refine PO.o rfl (OpV.load rfl rfl rfl rfl (layA_has hw hn)) ?_
      rw [hok.has wd hw n hn]
      cases hH : S.has wd n
      · refine go ?_
        exact PO.meet (bst, m) (hB.skip (by unfold waitS; rw [hH]; rfl)) (Ent.refl _)
      · refine go ?_
        cases hC : (S.heard n).contains (wd : Int)
        · have hwt : waitS S n wd = true := by unfold waitS; rw [hH, hC]; rfl
          have hg := hok.g wd hw n hn hH
          refine go ?_
          refine PO.o rfl (OpV.load_aggP rfl rfl rfl rfl (layA_g hw hn) rfl) ?_
          rw [hg]
          refine go fun b17 => ?_
          refine go1 ?_
          refine PO.then_normal ?_
          refine PO.seq ?_
          refine PO.midU [(17, ptr b17), (15, iv wd), (13, iv bst), (14, ptr b14), (12, .bool false), (11, ov), (0, ptr b), (1, iv n)] (cels b17 [iv (tS S n wd).1, iv (tS S n wd).2] 64 * (cels b14 [iv m.1, iv m.2] 64 * (cels b (layA A) 69 * (hears S A * R)))) ?_ ?_
          · refine go ?_
            refine PO.o rfl (OpV.load rfl rfl rfl rfl (layA_knew hw hn)) ?_
            rw [hok.knew wd hw n hn]
            cases hK : S.knew wd n
            · have ht : tS S n wd = stp S wd n := by unfold tS; rw [hK]; rfl
              rw [ht]
              refine go ?_
              exact PO.meet () trivial (Ent.refl _)
            · have ht : tS S n wd = final S wd := by unfold tS; rw [hK]; rfl
              have ha : allA S wd := fun y y0 y1 => (hS.knewr wd n hK).2.2 y y0 y1
              rw [ht]
              refine go ?_
              refine PO.callm rfl (final_m b wd hw hok hS) rfl fun v => ?_
              refine PO.ex_star fun s => PO.ex_star fun d => PO.pur fun hv => ?_
              obtain ⟨rfl, hd1, hd2⟩ := hv
              have hs := hd2 (hd1.2 ha)
              subst hs
              refine go ?_
              exact PO.meet () trivial (Ent.refl _)
          refine go ?_
          refine PO.callr rfl (less2_r (tS S n wd) m) rfl ?_
          refine go ?_
          refine PO.gsplit rfl rfl rfl rfl (fun h2 => ?_) (fun h2 => ?_)
          · have hb0 := of_decide_eq_false h2
            refine go ?_
            refine PO.csplit rfl (fun h3 => ?_) (fun h3 => ?_)
            · refine go ?_
              exact PO.meet ((wd : Int), tS S n wd) (hB.take hwt (by omega) (.inr h3)) Ent.fr
            · refine go ?_
              exact PO.meet (bst, m) (hB.keep hb0 h3) Ent.fr
          · refine go ?_
            exact PO.meet ((wd : Int), tS S n wd) (hB.take hwt (by omega) (.inl (of_decide_eq_true h2))) Ent.fr
        · refine go ?_
          exact PO.meet (bst, m) (hB.skip (by unfold waitS; rw [hH, hC]; rfl)) (Ent.refl _)
    rintro ⟨bst', m'⟩ hB'
    refine go ?_
    exact PO.again3 (wd + 1) bst' m' ⟨by omega, by omega, hB'⟩ (by omega) (Ent.refl _)
  · have hwd : wd = 31 := by have := of_decide_eq_false h; omega
    subst hwd
    have hbest := hB.done hS
    subst hbest
    refine go ?_
    exact PO.sub subs (PO.ent (Ent.right _ _) k)
end Go.Proofs.Tryd
