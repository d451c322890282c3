/- AgreePlays: the statement's own code, whole. -/
import Derived.Test.YtgphmpppekghbaaDoorAgrL
namespace Go.Proofs.Tryd
open Go.Sl
set_option maxHeartbeats 2000000
attribute [local irreducible] Go.wpList Go.Code.wp Go.wpQuiet PO PQ AnyH layA
variable {w0 : World} {H R : HProp} {S S' : AS} {i : Nat} {A A' : RA}
noncomputable def stepA (S : AS) (a0 a1 a2 : Int) : AS := if a0 = 0 then (sayA S a2).1 else if a0 = 1 ∨ a0 = 2 ∨ a0 = 3 then (proposeA S a1 a2).1 else (settleA S a1 a2).1
theorem stepA_inv {a0 a1 a2 : Int} (hS : AInv S i) : AInv (stepA S a0 a1 a2) (i + 1) := by
  unfold stepA
  split
  · exact hS.say a2
  · split
    · exact hS.propose a1 a2
    · exact hS.settle a1 a2
theorem stepA_n {a0 a1 a2 : Int} : (stepA S a0 a1 a2).n = S.n := by
  unfold stepA
  split
  · unfold sayA; repeat' split
    all_goals rfl
  · split
    · unfold proposeA; repeat' split
      all_goals rfl
    · unfold settleA; repeat' split
      all_goals first | rfl | (rw [hear_fields]; rfl)
theorem step_arm {Q : Exit → Act → World → Prop} (hl : Laid w0) {t0 t1 : Value} {bp bm bv i : Nat} {a0 a1 a2 : Int} (hi : i ≤ 200) (hS : AInv S i)
    (k : PO w0 205 [(0, t0), (1, t1), (6, ptr bp), (8, .bool true), (9, ptr bm), (10, iv i), (11, ptr bv)] (agrP bp (stepA S a0 a1 a2) * (refA bm (stepA S a0 a1 a2) * (v3 bv a0 a1 a2 * R))) (Q .normal)) :
    PO w0 205 [(82, iv a0), (5, iv 0), (0, t0), (1, t1), (6, ptr bp), (9, ptr bm), (10, iv i), (11, ptr bv)] (agrP bp S * (refA bm S * (v3 bv a0 a1 a2 * R))) (stepC.wp prog Q) := by
  refine PO.block ?_
  refine PO.seq ?_
  have k1 : PO w0 205 [(0, t0), (1, t1), (6, ptr bp), (8, .bool true), (9, ptr bm), (10, iv i), (11, ptr bv)] (agrP bp (stepA S a0 a1 a2) * (refA bm (stepA S a0 a1 a2) * (v3 bv a0 a1 a2 * R))) (Exit.inBlock 4 Q .normal) := PO.inBlock_normal k
  refine go1 ?_
  refine PO.then_normal ?_
  refine PO.csplit rfl (fun h => ?_) (fun h => ?_)
  · have hs : stepA S a0 a1 a2 = (sayA S a2).1 := by unfold stepA; rw [if_pos (of_decide_eq_true h)]
    rw [hs] at k1
    exact PO.sub subs (say_arm hl hS k1)
  · have h0 := of_decide_eq_false h
    refine PO.seq ?_
    refine PO.midU [(138, .bool (decide (a0 = 1 ∨ a0 = 2 ∨ a0 = 3))), (5, iv 0), (0, t0), (1, t1), (6, ptr bp), (9, ptr bm), (10, iv i), (11, ptr bv)] (agrP bp S * (refA bm S * (v3 bv a0 a1 a2 * R))) ?_ ?_
    · refine go ?_
      refine PO.csplit rfl (fun h1 => ?_) (fun h1 => ?_)
      · have e : Value.bool true = .bool (decide (a0 = 1 ∨ a0 = 2 ∨ a0 = 3)) := by simp at h1; simp [h1]
        refine go ?_
        exact PO.meet () trivial (Ent.refl _)
      · refine go ?_
        refine PO.csplit rfl (fun h2 => ?_) (fun h2 => ?_)
        · have e : Value.bool true = .bool (decide (a0 = 1 ∨ a0 = 2 ∨ a0 = 3)) := by simp at h2; simp [h2]
          refine go ?_
          exact PO.meet () trivial (Ent.refl _)
        · have e : Value.bool (decide (a0 = 3)) = .bool (decide (a0 = 1 ∨ a0 = 2 ∨ a0 = 3)) := by simp at h1 h2; simp [h1, h2]
          refine go ?_
          exact PO.meet () trivial (Ent.refl _)
    refine PO.then_normal ?_
    refine PO.csplit rfl (fun h3 => ?_) (fun h3 => ?_)
    · have hs : stepA S a0 a1 a2 = (proposeA S a1 a2).1 := by unfold stepA; rw [if_neg h0, if_pos (of_decide_eq_true h3)]
      rw [hs] at k1
      exact PO.sub subs (prop_arm hl hi hS k1)
    · have hs : stepA S a0 a1 a2 = (settleA S a1 a2).1 := by unfold stepA; rw [if_neg h0, if_neg (of_decide_eq_false h3)]
      rw [hs] at k1
      exact PO.sub subs (settle_arm hl hi hS k1)
theorem obs {Q : Exit → Act → World → Prop} (hl : Laid w0) {t1 ii : Value} {bp bm bv i : Nat} {a0 a1 a2 : Int} (hS : AInv S i)
    (k : PO w0 205 [(0, iv S.n), (1, t1), (6, ptr bp), (9, ptr bm), (10, ii)] (agrP bp S * (refA bm S * R)) (Q .normal)) :
    PO w0 205 [(0, iv S.n), (1, t1), (6, ptr bp), (8, .bool true), (9, ptr bm), (10, ii), (11, ptr bv)] (agrP bp S * (refA bm S * (v3 bv a0 a1 a2 * R))) (obsC.wp prog Q) := by
  have hn5 := hS.n5
  refine PO.pull (refA bm S) ?_
  refine refA_open fun A hok => ?_
  refine PO.seq ?_
  refine go1 ?_
  refine PO.then_normal ?_
  refine PO.seq ?_
  refine go1 ?_
  refine PO.then_normal ?_
  refine PO.seq ?_
  refine PO.mid (α := Value) (fun u => Ints w0 (hears S A) u (if 0 ≤ a1 ∧ a1 < S.n then S.heard a1 else [])) (fun u => [(21, u), (5, iv (heardE S a1)), (0, iv S.n), (1, t1), (6, ptr bp), (8, .bool true), (9, ptr bm), (10, ii), (11, ptr bv)])
    (fun _ => cels bm (layA A) 69 * (hears S A * (agrP bp S * (v3 bv a0 a1 a2 * R)))) ?_ ?_
  · by_cases hin : 0 ≤ a1 ∧ a1 < S.n
    · have hE : heardE S a1 = 0 := if_pos hin
      rw [hE]
      obtain ⟨n, rfl⟩ := Int.eq_ofNat_of_zero_le hin.1
      have hn : n < 5 := by omega
      refine PO.sepRd (T := 3) (f := A.hv) (g := fun x : Nat => S.heard x) (x := n) (List.mem_range.2 hn) encI_ok fun hrd => ?_
      refine go ?_
      refine PO.csplit rfl (fun h2 => absurd (of_decide_eq_true h2) (by omega)) (fun h2 => ?_)
      refine go ?_
      refine PO.regionQ (by kernel_rfl) (by kernel_rfl) ?_
      refine goQ ?_
      refine PQ.o rfl (OpV.load rfl rfl rfl rfl (layA_hv hn)) ?_
      refine goQ ?_
      exact PO.meet (A.hv n) (by rw [if_pos hin]; exact hrd) Ent.fr
    · have hE : heardE S a1 = 1 := if_neg hin
      rw [hE]
      refine go ?_
      refine PO.gsplit rfl rfl rfl rfl (fun h1 => ?_) (fun h1 => ?_)
      · refine go ?_
        refine PO.csplit rfl (fun h2 => ?_) (fun h2 => absurd (of_decide_eq_false h2) (by have := of_decide_eq_false h1; omega))
        refine go ?_
        exact PO.meet nilS (by rw [if_neg hin]; exact Elems.nil) Ent.fr
      · refine go ?_
        exact PO.meet nilS (by rw [if_neg hin]; exact Elems.nil) Ent.fr
  intro on hon
  refine go ?_
  refine PO.callh rfl (aheard_h bp S a1 hS) rfl fun v => ?_
  refine PO.ent (Ent.assoc _ _ _) (PO.ex_star fun u => PO.ent (Ent.assoc _ _ _) (PO.pur fun hv => ?_))
  subst hv
  refine PO.rd (v := u) encI_ok fun hu => ?_
  refine go ?_
  refine PO.callr rfl (error_t hl _) rfl ?_
  refine go ?_
  refine PO.callr rfl (ints_t u on _ (hu.ent Ent.fr) (hon.ent Ent.fr) (by have := hS.heard30 a1; split <;> simp; omega)) rfl ?_
  refine go ?_
  refine PO.sub subs (PO.ent ?_ k)
  exact (refA_close (R := agrP bp S * R) bm S A hok rfl Ent.fr).trans (Ent.swap _ _ _)
theorem celf3 {bv : Nat} {T : TypeId} {j : Nat} {xs : List Int} (h : j = 3 ∨ j = xs.length) (_ : j ≤ 3) : celf bv 3 (fun t => if t < j then iv (xs.getD t 0) else iv 0) T = cels bv [iv (xs.getD 0 0), iv (xs.getD 1 0), iv (xs.getD 2 0)] T := by
  have e : (List.range 3).map (fun t => if t < j then iv (xs.getD t 0) else iv 0) = (List.range 3).map fun t => iv (xs.getD t 0) := List.map_congr_left fun t ht => by
    have ht := List.mem_range.1 ht
    split
    · rfl
    · rename_i hn
      have : xs.length ≤ t := by omega
      simp [List.getElem?_eq_none this]
  unfold celf
  rw [e]; rfl
theorem celf_stepN {bv m j : Nat} {T : TypeId} {f : Nat → Value} {z : Value} : cels bv ((List.range m).map (upd (fun t => if t < j then f t else z) (0 + j) (f j))) T = celf bv m (fun t => if t < j + 1 then f t else z) T := by
  unfold celf
  congr 2
  funext t
  unfold upd
  by_cases e : t = 0 + j
  · rw [if_pos e, if_pos (by omega), show t = j by omega]
  · rw [if_neg e]
    show (if t < j then f t else z) = (if t < j + 1 then f t else z)
    by_cases h : t < j
    · rw [if_pos h, if_pos (by omega)]
    · rw [if_neg h, if_neg (by omega)]
theorem copy_loop {Q : Exit → Act → World → Prop} {v0 : Value} {sb so m c1 bp bm bv i qc : Nat} {q : Option Addr} {xs : List Int} (hm : i < m) (hsc : ∀ w, Holds w0 emp w → w.cell? ⟨sb, so + i, none⟩ = some (.slice q xs.length qc)) (hxi : Ints w0 emp (.slice q xs.length qc) xs) (hxb : xs.length < 9223372036854775808)
    (k : PO w0 205 [(0, v0), (1, .slice (some ⟨sb, so, none⟩) m c1), (6, ptr bp), (9, ptr bm), (10, iv i), (11, ptr bv)] (v3 bv (xs.getD 0 0) (xs.getD 1 0) (xs.getD 2 0) * R) (Q .normal)) :
    PO w0 205 [(12, iv 0), (0, v0), (1, .slice (some ⟨sb, so, none⟩) m c1), (6, ptr bp), (9, ptr bm), (10, iv i), (11, ptr bv)] (v3 bv 0 0 0 * R) (copyC.wp prog Q) := by
  refine PO.block ?_
  refine PO.while (fun j : Nat => j ≤ 3 ∧ j ≤ xs.length) (fun j => [(12, iv j), (0, v0), (1, .slice (some ⟨sb, so, none⟩) m c1), (6, ptr bp), (9, ptr bm), (10, iv i), (11, ptr bv)])
    (fun j => celf bv 3 (fun t => if t < j then iv (xs.getD t 0) else iv 0) 70 * R) (fun j => 3 - j) 0 ⟨by omega, by omega⟩ (Ent.refl _) ?_
  rintro j ⟨hj, hjl⟩
  refine go ?_
  refine PO.o rfl (OpV.loadH rfl rfl rfl rfl (fun w hw => hsc w (hw.ent (Ent.emp _)))) ?_
  refine go ?_
  refine PO.gsplit rfl rfl rfl rfl (fun h1 => ?_) (fun h1 => ?_)
  · have hlt : j < xs.length := by have := of_decide_eq_true h1; omega
    refine go ?_
    refine PO.csplit rfl (fun h2 => ?_) (fun h2 => ?_)
    · have h4 : j < 3 := by have := of_decide_eq_true h2; omega
      obtain ⟨b2, o2, rfl, hcell⟩ := hxi.cell1 (j := j) (x := xs[j]) (by simp [hlt])
      refine go ?_
      refine PO.o rfl (OpV.loadH rfl rfl rfl rfl (fun w hw => hsc w (hw.ent (Ent.emp _)))) ?_
      refine go ?_
      refine PO.o rfl (OpV.loadH rfl rfl rfl rfl (fun w hw => hcell w (hw.ent (Ent.emp _)))) ?_
      refine go ?_
      refine PO.storeP rfl rfl rfl rfl rfl rfl rfl rfl (by simp [Value.cells]; omega) (celf_set (by omega)) ?_
      refine go ?_
      have e : Value.int .i64 xs[j] = iv (xs.getD j 0) := by simp [hlt]
      rw [e, celf_stepN (f := fun t => iv (xs.getD t 0))]
      exact PO.again (j + 1) ⟨h4, hlt⟩ (by omega) (Ent.refl _)
    · have h4 : j = 3 := by have := of_decide_eq_false h2; omega
      refine go ?_
      rw [celf3 (.inl h4) hj]
      exact PO.sub subs k
  · have hje : j = xs.length := by have := of_decide_eq_false h1; omega
    refine go ?_
    rw [celf3 (.inr hje) hj]
    exact PO.sub subs k
def RA0 (m : Nat) : RA := { n := m, was := fun _ => false, g := fun _ _ => (0, 0), has := fun _ _ => false, knew := fun _ _ => false, most := fun _ => 0, hv := fun _ => nilS }
theorem RA0_ok (m : Nat) : RefOk (agrS m) (RA0 m) := ⟨rfl, fun _ _ => rfl, fun _ _ _ _ => rfl, fun _ _ _ _ => rfl, fun _ _ => rfl, fun _ _ _ _ h => by cases h⟩
set_option maxRecDepth 10000 in
theorem agreePlays_r (hl : Laid w0) {n : Int} {v1 : Value} {steps : List (List Int)} (hs : Lists w0 emp v1 steps) (hb : steps.length < 9223372036854775808) (hbb : ∀ xs ∈ steps, xs.length < 9223372036854775808) :
    RSpec prog w0 4 [iv n, v1] emp (.bool true) := by
  obtain ⟨p1, c1, rfl⟩ := hs.shape
  refine RSpec.intro (n := 205) func4 rfl rfl rfl (by kernel_rfl) ?_
  refine PO.seq ?_
  refine go1 ?_
  refine PO.then_normal ?_
  refine PO.seq ?_
  refine go1 ?_
  refine PO.then_normal ?_
  refine PO.seq ?_
  refine PO.midU [(5, iv (grpE n)), (0, iv n), (1, .slice p1 steps.length c1)] emp ?_ ?_
  · by_cases hin : 2 ≤ n ∧ n ≤ 5
    · have hE : grpE n = 0 := if_pos hin
      rw [hE]
      refine go ?_
      refine PO.gsplit rfl rfl rfl rfl (fun h1 => ?_) (fun h1 => absurd (of_decide_eq_true h1) (by omega))
      refine go ?_
      refine PO.csplit rfl (fun h2 => absurd (of_decide_eq_true h2) (by omega)) (fun h2 => ?_)
      refine go ?_
      exact PO.meet () trivial (Ent.refl _)
    · have hE : grpE n = 1 := if_neg hin
      rw [hE]
      refine go ?_
      refine PO.gsplit rfl rfl rfl rfl (fun h1 => ?_) (fun h1 => ?_)
      · refine go ?_
        refine PO.csplit rfl (fun h2 => ?_) (fun h2 => absurd (of_decide_eq_false h2) (by have := of_decide_eq_false h1; omega))
        refine go ?_
        exact PO.meet () trivial (Ent.refl _)
      · refine go ?_
        exact PO.meet () trivial (Ent.refl _)
  refine go ?_
  refine PO.callm rfl (anew_m n) rfl fun v => ?_
  refine PO.ex_star fun pv => PO.ent (Ent.assoc _ _ _) (PO.pur fun hv => ?_)
  subst hv
  refine go ?_
  refine PO.callr rfl (error_t hl _) rfl ?_
  by_cases hin : 2 ≤ n ∧ n ≤ 5
  · have hE : grpE n = 0 := if_pos hin
    rw [hE]
    simp only [if_true]
    refine PO.ex_star fun bp => PO.ent (Ent.assoc _ _ _) (PO.pur fun hp => ?_)
    subst hp
    obtain ⟨m, rfl⟩ := Int.eq_ofNat_of_zero_le (show 0 ≤ n by omega)
    have hS0 : AInv (agrS m) 0 := AInv.new (by omega) (by omega)
    simp only [Int.toNat_natCast]
    refine go fun bm => ?_
    refine PO.ent (Ent.star (cels_eqN (l' := layA (RA0 m)) (by unfold layA; rfl)) (Ent.refl _)) ?_
    refine PO.addN (sepL (fun x : Nat => ints ((RA0 m).hv x) 3 ((agrS m).heard x)) (List.range 5)) (sepL_all (fun x => osl_nil) _) ?_
    refine PO.ent (refA_close (R := agrP bp (agrS m)) bm (agrS m) (RA0 m) (RA0_ok m) rfl Ent.fr) ?_
    refine go ?_
    refine PO.while2 (fun (i : Nat) (S : AS) => i ≤ 150 ∧ AInv S i) (fun i S => [(0, iv S.n), (1, .slice p1 steps.length c1), (6, ptr bp), (9, ptr bm), (10, iv i)]) (fun _ S => agrP bp S * refA bm S) (fun i _ => 150 - i) 0 (agrS m) ⟨Nat.zero_le _, hS0⟩ Ent.fr ?_
    rintro i S ⟨hi, hS⟩
    refine go ?_
    refine PO.gsplit rfl rfl rfl rfl (fun h1 => ?_) (fun h1 => ?_)
    · have hlt : i < steps.length := by have := of_decide_eq_true h1; omega
      refine go ?_
      refine PO.csplit rfl (fun h2 => ?_) (fun h2 => ?_)
      · have hi2 : i < 150 := by have := of_decide_eq_true h2; omega
        obtain ⟨xs, hxs⟩ : ∃ xs, xs = steps[i] := ⟨_, rfl⟩
        obtain ⟨sb, so, q, qc, rfl, hsc, hxi⟩ := hs.get hlt
        have hxb : steps[i].length < 9223372036854775808 := hbb _ (List.getElem_mem hlt)
        rw [← hxs] at hsc hxi hxb
        refine go fun bv => ?_
        refine PO.nil ?_
        refine PO.then_normal ?_
        refine PO.seq ?_
        refine PO.seq ?_
        refine go1 ?_
        refine PO.then_normal ?_
        refine PO.midU [(0, iv S.n), (1, .slice (some ⟨sb, so, none⟩) steps.length c1), (6, ptr bp), (9, ptr bm), (10, iv i), (11, ptr bv)] (agrP bp S * (refA bm S * (v3 bv (xs.getD 0 0) (xs.getD 1 0) (xs.getD 2 0) * emp))) ?_ ?_
        · exact PO.sub subs (copy_loop hlt hsc hxi hxb (PO.meet () trivial Ent.fr))
        refine PO.then_normal ?_
        refine PO.seq ?_
        refine go1 ?_
        refine PO.then_normal ?_
        refine PO.seq ?_
        refine PO.seq ?_
        refine go1 ?_
        refine PO.then_normal ?_
        refine PO.sub subs (step_arm hl (by omega) hS ?_)
        refine PO.then_normal ?_
        have hn : (stepA S (xs.getD 0 0) (xs.getD 1 0) (xs.getD 2 0)).n = S.n := stepA_n
        have hS' := stepA_inv (a0 := xs.getD 0 0) (a1 := xs.getD 1 0) (a2 := xs.getD 2 0) hS
        generalize stepA S (xs.getD 0 0) (xs.getD 1 0) (xs.getD 2 0) = S' at hn hS' ⊢
        rw [← hn]
        refine PO.sub subs (obs hl hS' ?_)
        refine go ?_
        exact PO.again2 (i + 1) S' ⟨by omega, hS'⟩ (by omega) Ent.fr
      · refine go ?_
        exact PO.returnRE rfl rfl rfl (Ent.emp _)
    · refine go ?_
      exact PO.returnRE rfl rfl rfl (Ent.emp _)
  · have hE : grpE n = 1 := if_neg hin
    rw [hE]
    refine go ?_
    exact PO.returnRE rfl rfl rfl (Ent.emp _)
end Go.Proofs.Tryd
