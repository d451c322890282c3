/- The group that the statement sets beside: Propose. -/
import Derived.Test.YtgphmpppekghbaaDoorAgr8
namespace Go.Proofs.Tryd
open Go.Sl
set_option maxHeartbeats 1000000
attribute [local irreducible] Go.wpList Go.Code.wp Go.wpQuiet PO PQ AnyH layA
variable {w0 : World} {H R : HProp} {S S' : AS} {i : Nat} {A A' : RA}
theorem RefOk.prop' (h : RefOk S A) {wn n : Nat} : RefOk (propA S n wn) { A with most := upd1 A.most n (S.most n + 1), g := upd2 A.g wn n (S.most n + 1, (n : Int)), has := upd2 A.has wn n true } where
  n := h.n
  was := h.was
  has w hw x hx := by
    simp only [propA, upd2]
    by_cases e : w = wn ∧ x = n
    · rw [if_pos e, if_pos (by omega)]
    · rw [if_neg e, if_neg (by omega), h.has w hw x hx]
  knew := h.knew
  most x hx := by
    simp only [propA, upd1]
    by_cases e : x = n
    · rw [if_pos e, if_pos (by omega)]
    · rw [if_neg e, if_neg (by omega), h.most x hx]
  g w hw x hx hh := by
    simp only [propA, upd2] at hh ⊢
    by_cases e : w = wn ∧ x = n
    · rw [if_pos e]
      simp only [stp]
      rw [if_pos (by omega), e.2]
    · rw [if_neg e]
      rw [if_neg (by omega)] at hh
      rw [h.g w hw x hx hh]
      simp only [stp]
      rw [if_neg (by omega)]
theorem rpropose_h (b : Nat) (S : AS) (x w : Int) (hi : i ≤ 200) (hS : AInv S i) :
    HSpec prog w0 26 [ptr b, iv x, iv w] (refA b S) (fun v => pur (v = .tuple #[stV (proposeA S x w).2.1, iv (proposeA S x w).2.2]) * refA b (proposeA S x w).1) := by
  refine HSpec.intro (n := 61) func26 rfl rfl rfl (by kernel_rfl) fun R => ?_
  refine refA_open fun A hok => ?_
  refine go fun b6 => ?_
  refine go ?_
  refine PO.callr rfl (rcheck_r b x w hok) rfl ?_
  by_cases he : agrE S.n x w (S.was w) = 0
  · rw [he]
    obtain ⟨x0, x1, w1, w2, hW⟩ := agrE_0 he
    obtain ⟨n, rfl⟩ := Int.eq_ofNat_of_zero_le x0
    obtain ⟨wn, rfl⟩ := Int.eq_ofNat_of_zero_le (show 0 ≤ w by omega)
    have hn5 := hS.n5
    have hn : n < 5 := by omega
    have hw : wn < 31 := by omega
    have hm := hS.mostr n
    have hAm := hok.most n hn
    refine go ?_
    refine PO.o rfl (OpV.load rfl rfl rfl rfl (layA_has hw hn)) ?_
    rw [hok.has wn hw n hn]
    cases hX : S.has wn n
    · have hp : proposeA S n wn = (propA S n wn, (S.most n + 1, (n : Int)), 0) := by unfold proposeA; rw [if_neg (fun g => g he), if_neg (by simp [hX])]
      refine go ?_
      refine PO.regionF (cels b (layA A) 69) (by kernel_rfl) ?_
      refine tk 0 ?_
      refine tk 1 ?_
      refine tk 2 ?_
      refine tk 3 ?_
      refine tk 4 ?_
      refine tk 7 ?_
      refine tk 8 ?_
      refine PO.any [5] (by kernel_rfl) (by simp) (OneOf.cons rfl ?_ OneOf.nil)
      refine PO.o rfl (OpV.load rfl rfl rfl rfl (layA_most hn)) ?_
      rw [hAm]
      refine PO.kept (Ent.right _ _) ?_
      refine tk 6 ?_
      refine tk 9 ?_
      refine PO.any [10] (by kernel_rfl) (by simp) (OneOf.cons rfl ?_ OneOf.nil)
      refine PO.storeA rfl rfl rfl rfl rfl rfl (by show 0 + 652 + n + 1 ≤ 662; omega) (layA_setMost hn) ?_
      refine PO.kept (Ent.right _ _) ?_
      refine PO.anyDone (by kernel_rfl) ?_
      refine go ?_
      refine PO.o rfl (OpV.load rfl rfl rfl rfl (layA_most hn)) ?_
      rw [show ({ A with most := upd1 A.most n (S.most n + 1) } : RA).most n = S.most n + 1 from if_pos rfl]
      refine go fun b9 => ?_
      refine go ?_
      refine PO.regionF (cels b (layA { A with most := upd1 A.most n (S.most n + 1) }) 69) (by kernel_rfl) ?_
      refine tk 0 ?_
      refine tk 1 ?_
      refine tk 2 ?_
      refine tk 3 ?_
      refine tk 4 ?_
      refine tk 5 ?_
      refine tk 6 ?_
      refine tk 7 ?_
      refine PO.any [8] (by kernel_rfl) (by simp) (OneOf.cons rfl ?_ OneOf.nil)
      refine PO.storeA rfl rfl rfl rfl rfl rfl (by show 0 + 32 + wn * 10 + n * 2 + 2 ≤ 662; omega) (layA_setG hw hn (s := (S.most n + 1, (n : Int)))) ?_
      refine PO.kept (Ent.right _ _) ?_
      refine PO.anyDone (by kernel_rfl) ?_
      refine go ?_
      refine PO.storeA rfl rfl rfl rfl rfl rfl (by show 0 + 342 + wn * 5 + n + 1 ≤ 662; omega) (layA_setHas hw hn) ?_
      refine go ?_
      refine PO.returnC rfl (Ret.cell rfl rfl rfl rfl (Ret.tmp rfl Ret.nil)) (Ent.purL ?_ ?_)
      · rw [hp]; rfl
      · rw [hp]
        exact refA_close b (propA S n wn) { A with most := upd1 A.most n (S.most n + 1), g := upd2 A.g wn n (S.most n + 1, (n : Int)), has := upd2 A.has wn n true } hok.prop' (M := sepL (fun x : Nat => ints (A.hv x) 3 (S.heard x)) (List.range 5)) rfl
    · have hp : proposeA S n wn = (S, (0, 0), 7) := by unfold proposeA; rw [if_neg (fun g => g he), if_pos hX]
      refine go ?_
      refine PO.returnC rfl (Ret.cell rfl rfl rfl rfl (Ret.tmp rfl Ret.nil)) (Ent.purL ?_ ?_)
      · rw [hp]; rfl
      · rw [hp]; exact refA_close b S A hok rfl
  · have hp : proposeA S x w = (S, (0, 0), agrE S.n x w (S.was w)) := by unfold proposeA; rw [if_pos he]
    have hr : ¬ agrE S.n x w (S.was w) = 0 := he
    refine go ?_
    refine PO.csplit rfl (fun h => ?_) (fun h => absurd (of_decide_eq_false h) (fun g => g he))
    refine go ?_
    refine PO.returnC rfl (Ret.cell rfl rfl rfl rfl (Ret.tmp rfl Ret.nil)) (Ent.purL ?_ ?_)
    · rw [hp]; rfl
    · rw [hp]; exact refA_close b S A hok rfl
end Go.Proofs.Tryd
