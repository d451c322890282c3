/- What the statement sets beside the picture: Done. -/
import Derived.Test.YtgphmpppekghbaaDoorRef3
namespace Go.Proofs.Tryd
open Go.Sl
set_option maxHeartbeats 400000
attribute [local irreducible] Go.wpList Go.Code.wp Go.wpQuiet PO PQ AnyH layL
variable {w0 : World} {H R : HProp} {gv : Value} {wv : Nat → Nat → Value} {S : PS}
theorem done_true (h : ∀ i < S.gold.length, S.has (i : Int) = true ∧ ∀ k < S.gold.length, S.opn (i : Int) (k : Int) = false) : doneS S = true := by
  unfold doneS
  rw [Bool.and_eq_true, List.all_eq_true, List.all_eq_true]
  refine ⟨fun k hk => ?_, fun f hf => List.all_eq_true.2 fun t ht => ?_⟩
  · obtain ⟨h1, h2⟩ := mem_irange.1 hk
    obtain ⟨k', rfl⟩ := Int.eq_ofNat_of_zero_le h1
    exact (h k' (by omega)).1
  · obtain ⟨h1, h2⟩ := mem_irange.1 hf
    obtain ⟨h3, h4⟩ := mem_irange.1 ht
    obtain ⟨f', rfl⟩ := Int.eq_ofNat_of_zero_le h1
    obtain ⟨t', rfl⟩ := Int.eq_ofNat_of_zero_le h3
    rw [(h f' (by omega)).2 t' (by omega)]; rfl
theorem done_false1 {i : Nat} (hi : i < S.gold.length) (h : S.has (i : Int) = false) : doneS S = false := by
  cases hd : doneS S
  · rfl
  · unfold doneS at hd
    rw [Bool.and_eq_true, List.all_eq_true] at hd
    have := hd.1 i (mem_irange.2 ⟨by omega, by omega⟩)
    rw [h] at this; cases this
theorem done_false2 {i k : Nat} (hi : i < S.gold.length) (hk : k < S.gold.length) (h : S.opn (i : Int) (k : Int) = true) : doneS S = false := by
  cases hd : doneS S
  · rfl
  · unfold doneS at hd
    rw [Bool.and_eq_true, List.all_eq_true, List.all_eq_true] at hd
    have := List.all_eq_true.1 (hd.2 i (mem_irange.2 ⟨by omega, by omega⟩)) k (mem_irange.2 ⟨by omega, by omega⟩)
    rw [h] at this; cases this
theorem rdone_r (b : Nat) (hn : S.gold.length ≤ 5) {p : Option Addr} {c : Nat} [q : PullBlk b H (.cells (layL (.slice p S.gold.length c) wv S).toArray 38 (0, 0)) R] :
    RSpec prog w0 21 [ptr b] H (.bool (doneS S)) := by
  refine RSpec.intro (n := 38) func21 rfl rfl rfl (by kernel_rfl) ?_
  refine go ?_
  refine PO.while (fun j : Nat => j ≤ S.gold.length ∧ ∀ i < j, S.has (i : Int) = true ∧ ∀ k < S.gold.length, S.opn (i : Int) (k : Int) = false) (fun j => [(0, ptr b), (3, iv j)]) (fun _ => H) (fun j => S.gold.length - j) 0 ⟨Nat.zero_le _, fun i hi => absurd hi (Nat.not_lt_zero i)⟩ (Ent.refl _) ?_
  rintro j ⟨hj, hall⟩
  refine go ?_
  refine PO.o rfl (OpV.load rfl rfl rfl rfl lay_gold) ?_
  refine go ?_
  refine PO.csplit rfl (fun h => ?_) (fun h => ?_)
  · have hlt : j < S.gold.length := by simpa using h
    have hj5 : j < 5 := by omega
    refine go ?_
    refine PO.o rfl (OpV.load rfl rfl rfl rfl (lay_has hj5)) ?_
    refine go ?_
    cases hH : S.has (j : Int)
    · refine go ?_
      exact PO.returnR rfl rfl (by rw [done_false1 hlt hH]; rfl)
    · refine go ?_
      refine PO.while (fun k : Nat => k ≤ S.gold.length ∧ ∀ x < k, S.opn (j : Int) (x : Int) = false) (fun k => [(0, ptr b), (3, iv j), (4, iv k)]) (fun _ => H) (fun k => S.gold.length - k) 0 ⟨Nat.zero_le _, fun i hi => absurd hi (Nat.not_lt_zero i)⟩ (Ent.refl _) ?_
      rintro k ⟨hk, hno⟩
      refine go ?_
      refine PO.o rfl (OpV.load rfl rfl rfl rfl lay_gold) ?_
      refine go ?_
      refine PO.csplit rfl (fun h => ?_) (fun h => ?_)
      · have hkt : k < S.gold.length := by simpa using h
        have hk5 : k < 5 := by omega
        refine go ?_
        refine PO.o rfl (OpV.load rfl rfl rfl rfl (lay_opn hj5 hk5)) ?_
        refine go ?_
        cases hO : S.opn (j : Int) (k : Int)
        · refine go ?_
          refine PO.again (k + 1) ⟨hkt, fun x hx => ?_⟩ (by omega) (Ent.refl _)
          rcases Nat.lt_succ_iff_lt_or_eq.1 hx with h1 | rfl
          · exact hno x h1
          · exact hO
        · refine go ?_
          exact PO.returnR rfl rfl (by rw [done_false2 hlt hkt hO]; rfl)
      · have hke : k = S.gold.length := by have : ¬ k < S.gold.length := by simpa using h
                                           omega
        refine go ?_
        refine PO.again (j + 1) ⟨hlt, fun x hx => ?_⟩ (by omega) (Ent.refl _)
        rcases Nat.lt_succ_iff_lt_or_eq.1 hx with h1 | rfl
        · exact hall x h1
        · exact ⟨hH, fun y hy => hno y (by omega)⟩
  · have hje : j = S.gold.length := by have : ¬ j < S.gold.length := by simpa using h
                                       omega
    refine go ?_
    exact PO.returnR rfl rfl (by rw [done_true fun i hi => hall i (by omega)]; rfl)
end Go.Proofs.Tryd
