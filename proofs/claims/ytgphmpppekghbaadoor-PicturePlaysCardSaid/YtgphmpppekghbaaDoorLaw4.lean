/- PicturePlays: the statement's own code, whole. -/
import Derived.Test.YtgphmpppekghbaaDoorLaw3
import Derived.Test.YtgphmpppekghbaaDoorSlArgs
namespace Go.Proofs.Tryd
open Go.Sl
set_option maxHeartbeats 1000000
attribute [local irreducible] Go.wpList Go.Code.wp Go.wpQuiet PO PQ AnyH layL
variable {w0 : World} {H R : HProp} {gv : Value} {wv : Nat → Nat → Value} {S : PS}
theorem put_gold {v : Value} : putCells (layL gv wv S) (0 + 0) [v] = layL v wv S := by
  unfold layL
  refine m_lay_put (by omega) fun c hc => ?_
  unfold upd lay
  by_cases e : c = 0 + 0
  · rw [if_pos e, if_pos (by omega)]
  · rw [if_neg e]
    repeat' split
    all_goals first | rfl | omega
theorem sepL_each {ι : Type} {P : ι → HProp} (h : ∀ x, Ent emp (P x)) : ∀ l : List ι, Ent H (sepL P l)
  | [] => Ent.emp _
  | x :: l => (Ent.emp_star _).trans (Ent.star (h x) (sepL_each h l))
noncomputable abbrev wv0 : Nat → Nat → Value := fun _ _ => nilS
theorem PO.addR {n : Nat} {env : Env} {φ : Act → World → Prop} (A : HProp) (e : Ent emp A) (h : PO w0 n env (A * H) φ) : PO w0 n env H φ := PO.ent ((Ent.emp_star _).trans (Ent.star e (Ent.refl _))) h
theorem cels_eq {b : Nat} {l l' : List Value} {t : TypeId} (h : l = l') : Ent (cels b l t) (cels b l' t) := by subst h; exact Ent.refl _
noncomputable def stepC : Code := sub lawC [1, 1, 1, 1, 1, 1, 1, 1, 1, 0, 1, 0, 0, 1, 0, 0, 1, 1, 1, 1, 0, 1]
def stepS (S : PS) (a0 a1 a2 a3 : Int) : PS := if a0 = 0 ∨ a0 = 1 ∨ a0 = 2 then (payS S a1 a2 a3).1 else if a0 = 3 ∨ a0 = 4 ∨ a0 = 5 then (comeS S a1 a2).1 else (beginS S a1).1
theorem stepS_inv {i : Nat} {a0 a1 a2 a3 : Int} (hS : Inv S i) (hi : i ≤ 200) : Inv (stepS S a0 a1 a2 a3) (i + 1) := by
  unfold stepS
  split
  · exact hS.pay' a1 a2 a3
  · split
    · exact hS.come' hi a1 a2
    · exact hS.begin' a1
theorem writeS_len (S : PS) (who j : Int) : (writeS S who j).gold.length = S.gold.length := rfl
theorem stepS_len {a0 a1 a2 a3 : Int} : (stepS S a0 a1 a2 a3).gold.length = S.gold.length := by
  unfold stepS
  split
  · unfold payS; repeat' split
    all_goals simp [setWay]
  · split
    · unfold comeS
      split
      · rfl
      · split
        · rfl
        · split
          · unfold markS; simp only; split <;> rfl
          · simp
    · unfold beginS; repeat' split
      all_goals rfl
/-- The switch: whichever it is, both do the same. -/
theorem step_arm {Q : Exit → Act → World → Prop} (hl : Laid w0) {g1 : Value} {p0 : Option Addr} {c0 bp bm bv i : Nat} {a0 a1 a2 a3 : Int} (hS : Inv S i) (hi : i ≤ 200)
    (k : PO w0 404 [(0, .slice p0 S.gold.length c0), (1, g1), (7, ptr bp), (9, .bool true), (10, ptr bm), (11, iv i), (12, ptr bv), (14, iv (wayE S.gold.length a1 a2))] (picP bp (stepS S a0 a1 a2 a3) * (refR bm (stepS S a0 a1 a2 a3) * (v4 bv a0 a1 a2 a3 * R))) (Q .normal)) :
    PO w0 404 [(126, iv a0), (0, .slice p0 S.gold.length c0), (1, g1), (5, iv 0), (7, ptr bp), (10, ptr bm), (11, iv i), (12, ptr bv), (14, iv (wayE S.gold.length a1 a2))] (picP bp S * (refR bm S * (v4 bv a0 a1 a2 a3 * R))) (stepC.wp prog Q) := by
  refine PO.block ?_
  refine PO.seq ?_
  have k1 : PO w0 404 [(0, .slice p0 S.gold.length c0), (1, g1), (7, ptr bp), (9, .bool true), (10, ptr bm), (11, iv i), (12, ptr bv), (14, iv (wayE S.gold.length a1 a2))] (picP bp (stepS S a0 a1 a2 a3) * (refR bm (stepS S a0 a1 a2 a3) * (v4 bv a0 a1 a2 a3 * R))) (Exit.inBlock 6 Q .normal) := PO.inBlock_normal k
  refine PO.midU [(154, .bool (decide (a0 = 0 ∨ a0 = 1 ∨ a0 = 2))), (126, iv a0), (0, .slice p0 S.gold.length c0), (1, g1), (5, iv 0), (7, ptr bp), (10, ptr bm), (11, iv i), (12, ptr bv), (14, iv (wayE S.gold.length a1 a2))] (picP bp S * (refR bm S * (v4 bv a0 a1 a2 a3 * R))) ?_ ?_
  · refine go ?_
    refine PO.csplit rfl (fun h1 => ?_) (fun h1 => ?_)
    · have e : Value.bool true = .bool (decide (a0 = 0 ∨ a0 = 1 ∨ a0 = 2)) := by simp at h1; simp [h1]
      refine go ?_
      exact PO.meet () trivial (Ent.refl _)
    · refine go ?_
      refine PO.csplit rfl (fun h2 => ?_) (fun h2 => ?_)
      · have e : Value.bool true = .bool (decide (a0 = 0 ∨ a0 = 1 ∨ a0 = 2)) := by simp at h2; simp [h2]
        refine go ?_
        exact PO.meet () trivial (Ent.refl _)
      · have e : Value.bool (decide (a0 = 2)) = .bool (decide (a0 = 0 ∨ a0 = 1 ∨ a0 = 2)) := by simp at h1 h2; simp [h1, h2]
        refine go ?_
        exact PO.meet () trivial (Ent.refl _)
  refine PO.then_normal ?_
  refine PO.csplit rfl (fun h => ?_) (fun h => ?_)
  · have hs : stepS S a0 a1 a2 a3 = (payS S a1 a2 a3).1 := by unfold stepS; rw [if_pos (of_decide_eq_true h)]
    rw [hs] at k1
    exact PO.sub subs (pay_arm hl hS hi k1)
  · have h0 := of_decide_eq_false h
    refine PO.seq ?_
    refine PO.midU [(255, .bool (decide (a0 = 3 ∨ a0 = 4 ∨ a0 = 5))), (0, .slice p0 S.gold.length c0), (1, g1), (5, iv 0), (7, ptr bp), (10, ptr bm), (11, iv i), (12, ptr bv), (14, iv (wayE S.gold.length a1 a2))] (picP bp S * (refR bm S * (v4 bv a0 a1 a2 a3 * R))) ?_ ?_
    · refine go ?_
      refine PO.csplit rfl (fun h1 => ?_) (fun h1 => ?_)
      · have e : Value.bool true = .bool (decide (a0 = 3 ∨ a0 = 4 ∨ a0 = 5)) := by simp at h1; simp [h1]
        refine go ?_
        exact PO.meet () trivial (Ent.refl _)
      · refine go ?_
        refine PO.csplit rfl (fun h2 => ?_) (fun h2 => ?_)
        · have e : Value.bool true = .bool (decide (a0 = 3 ∨ a0 = 4 ∨ a0 = 5)) := by simp at h2; simp [h2]
          refine go ?_
          exact PO.meet () trivial (Ent.refl _)
        · have e : Value.bool (decide (a0 = 5)) = .bool (decide (a0 = 3 ∨ a0 = 4 ∨ a0 = 5)) := by simp at h1 h2; simp [h1, h2]
          refine go ?_
          exact PO.meet () trivial (Ent.refl _)
    refine PO.then_normal ?_
    refine PO.csplit rfl (fun h3 => ?_) (fun h3 => ?_)
    · have hs : stepS S a0 a1 a2 a3 = (comeS S a1 a2).1 := by unfold stepS; rw [if_neg h0, if_pos (of_decide_eq_true h3)]
      rw [hs] at k1
      exact PO.sub subs (come_arm hl hS hi k1)
    · have hs : stepS S a0 a1 a2 a3 = (beginS S a1).1 := by unfold stepS; rw [if_neg h0, if_neg (of_decide_eq_false h3)]
      rw [hs] at k1
      exact PO.sub subs (begin_arm hl hS hi k1)
theorem newE_cases (gold : List Int) : newE gold = 0 ∨ newE gold = 1 := by unfold newE; split <;> simp
theorem newE_bad {gold : List Int} {x : Int} (hx : x ∈ gold) (h : x < 0 ∨ 1000 < x) : newE gold = 1 := by
  unfold newE; rw [if_pos]; right; rw [List.any_eq_true]
  refine ⟨x, hx, ?_⟩
  simp; omega
theorem newE_good {gold : List Int} (h2 : 2 ≤ gold.length ∧ gold.length ≤ 5) (h : ∀ x ∈ gold, 0 ≤ x ∧ x ≤ 1000) : newE gold = 0 := by
  unfold newE; rw [if_neg]
  rintro (g | g)
  · exact g h2
  · rw [List.any_eq_true] at g
    obtain ⟨x, hx, g⟩ := g
    have := h x hx
    simp at g; omega
theorem celf4 {bv : Nat} {T : TypeId} {j : Nat} {xs : List Int} (h : j = 4 ∨ j = xs.length) (_ : j ≤ 4) : celf bv 4 (fun t => if t < j then iv (xs.getD t 0) else iv 0) T = cels bv [iv (xs.getD 0 0), iv (xs.getD 1 0), iv (xs.getD 2 0), iv (xs.getD 3 0)] T := by
  have e : (List.range 4).map (fun t => if t < j then iv (xs.getD t 0) else iv 0) = (List.range 4).map fun t => iv (xs.getD t 0) := List.map_congr_left fun t ht => by
    have ht := List.mem_range.1 ht
    split
    · rfl
    · rename_i hn
      have : xs.length ≤ t := by omega
      simp [List.getElem?_eq_none this]
  unfold celf
  rw [e]; rfl
theorem celf_step {bv m j : Nat} {T : TypeId} {f : Nat → Value} {z : Value} : cels bv ((List.range m).map (upd (fun t => if t < j then f t else z) (0 + j) (f j))) T = celf bv m (fun t => if t < j + 1 then f t else z) T := by
  unfold celf
  congr 2
  funext t
  unfold upd
  by_cases e : t = 0 + j
  · rw [if_pos e, if_pos (by omega), show t = j by omega]
  · rw [if_neg e]
    show (if t < j then f t else z) = (if t < j + 1 then f t else z)
    by_cases h : t < j
    · rw [if_pos h, if_pos (by omega)]
    · rw [if_neg h, if_neg (by omega)]
noncomputable def copyC : Code := sub lawC [1, 1, 1, 1, 1, 1, 1, 1, 1, 0, 1, 0, 0, 1, 0, 0, 1, 0, 1]
theorem copy_loop {Q : Exit → Act → World → Prop} {v0 : Value} {sb so m c1 bp bm bv i qc : Nat} {q : Option Addr} {xs : List Int} (hm : i < m) (hsc : ∀ w, Holds w0 emp w → w.cell? ⟨sb, so + i, none⟩ = some (.slice q xs.length qc)) (hxi : Ints w0 emp (.slice q xs.length qc) xs) (hxb : xs.length < 9223372036854775808)
    (k : PO w0 404 [(0, v0), (1, .slice (some ⟨sb, so, none⟩) m c1), (7, ptr bp), (10, ptr bm), (11, iv i), (12, ptr bv)] (v4 bv (xs.getD 0 0) (xs.getD 1 0) (xs.getD 2 0) (xs.getD 3 0) * R) (Q .normal)) :
    PO w0 404 [(13, iv 0), (0, v0), (1, .slice (some ⟨sb, so, none⟩) m c1), (7, ptr bp), (10, ptr bm), (11, iv i), (12, ptr bv)] (v4 bv 0 0 0 0 * R) (copyC.wp prog Q) := by
  refine PO.block ?_
  refine PO.while (fun j : Nat => j ≤ 4 ∧ j ≤ xs.length) (fun j => [(13, iv j), (0, v0), (1, .slice (some ⟨sb, so, none⟩) m c1), (7, ptr bp), (10, ptr bm), (11, iv i), (12, ptr bv)])
    (fun j => celf bv 4 (fun t => if t < j then iv (xs.getD t 0) else iv 0) 39 * R) (fun j => 4 - j) 0 ⟨by omega, by omega⟩ (Ent.refl _) ?_
  rintro j ⟨hj, hjl⟩
  refine go ?_
  refine PO.o rfl (OpV.loadH rfl rfl rfl rfl (fun w hw => hsc w (hw.ent (Ent.emp _)))) ?_
  refine go ?_
  refine PO.gsplit rfl rfl rfl rfl (fun h1 => ?_) (fun h1 => ?_)
  · have hlt : j < xs.length := by have := of_decide_eq_true h1; omega
    refine go ?_
    refine PO.csplit rfl (fun h2 => ?_) (fun h2 => ?_)
    · have h4 : j < 4 := by have := of_decide_eq_true h2; omega
      obtain ⟨b2, o2, rfl, hcell⟩ := hxi.cell1 (j := j) (x := xs[j]) (by simp [hlt])
      refine go ?_
      refine PO.o rfl (OpV.loadH rfl rfl rfl rfl (fun w hw => hsc w (hw.ent (Ent.emp _)))) ?_
      refine go ?_
      refine PO.o rfl (OpV.loadH rfl rfl rfl rfl (fun w hw => hcell w (hw.ent (Ent.emp _)))) ?_
      refine go ?_
      refine PO.storeP rfl rfl rfl rfl rfl rfl rfl rfl (by simp [Value.cells]; omega) (celf_set (by omega)) ?_
      refine go ?_
      have e : Value.int .i64 xs[j] = iv (xs.getD j 0) := by simp [hlt]
      rw [e, celf_step (f := fun t => iv (xs.getD t 0))]
      exact PO.again (j + 1) ⟨h4, hlt⟩ (by omega) (Ent.refl _)
    · have h4 : j = 4 := by have := of_decide_eq_false h2; omega
      refine go ?_
      rw [celf4 (.inl h4) hj]
      exact PO.sub subs k
  · have hje : j = xs.length := by have := of_decide_eq_false h1; omega
    refine go ?_
    rw [celf4 (.inr hje) hj]
    exact PO.sub subs k
set_option maxRecDepth 10000 in
theorem picturePlays_r (hl : Laid w0) {v0 v1 : Value} {gold : List Int} {steps : List (List Int)} (hg : Ints w0 emp v0 gold) (hs : Lists w0 emp v1 steps) (hb : steps.length < 9223372036854775808) (hgb : gold.length < 9223372036854775808) (hbb : ∀ xs ∈ steps, xs.length < 9223372036854775808) :
    RSpec prog w0 3 [v0, v1] emp (.bool true) := by
  obtain ⟨p0, c0, rfl⟩ := hg.shape
  obtain ⟨p1, c1, rfl⟩ := hs.shape
  refine RSpec.intro (n := 404) func3 rfl rfl rfl (by kernel_rfl) ?_
  refine PO.seq ?_
  refine go1 ?_
  refine PO.then_normal ?_
  refine PO.seq ?_
  refine go1 ?_
  refine PO.then_normal ?_
  refine PO.seq ?_
  refine PO.midU [(5, iv (if 2 ≤ gold.length ∧ gold.length ≤ 5 then 0 else 1)), (0, .slice p0 gold.length c0), (1, .slice p1 steps.length c1)] emp ?_ ?_
  · by_cases hin : 2 ≤ gold.length ∧ gold.length ≤ 5
    · rw [if_pos hin]
      refine go ?_
      refine PO.gsplit rfl rfl rfl rfl (fun h1 => ?_) (fun h1 => absurd (of_decide_eq_true h1) (by omega))
      refine go ?_
      refine PO.csplit rfl (fun h2 => absurd (of_decide_eq_true h2) (by omega)) (fun h2 => ?_)
      refine go ?_
      exact PO.meet () trivial (Ent.refl _)
    · rw [if_neg hin]
      refine go ?_
      refine PO.gsplit rfl rfl rfl rfl (fun h1 => ?_) (fun h1 => ?_)
      · refine go ?_
        refine PO.csplit rfl (fun h2 => ?_) (fun h2 => absurd (of_decide_eq_false h2) (by have := of_decide_eq_false h1; omega))
        refine go ?_
        exact PO.meet () trivial (Ent.refl _)
      · refine go ?_
        exact PO.meet () trivial (Ent.refl _)
  refine PO.then_normal ?_
  refine PO.seq ?_
  refine PO.midU [(5, iv (newE gold)), (0, .slice p0 gold.length c0), (1, .slice p1 steps.length c1)] emp ?_ ?_
  · refine go ?_
    refine PO.while2 (fun (j : Nat) (e : Int) => j ≤ gold.length ∧ ((e = 0 ∧ (2 ≤ gold.length ∧ gold.length ≤ 5) ∧ ∀ x ∈ gold.take j, 0 ≤ x ∧ x ≤ 1000) ∨ (e = 1 ∧ newE gold = 1)))
      (fun j e => [(6, iv j), (5, iv e), (0, .slice p0 gold.length c0), (1, .slice p1 steps.length c1)]) (fun _ _ => emp) (fun j _ => gold.length - j) 0 (if 2 ≤ gold.length ∧ gold.length ≤ 5 then 0 else 1) ⟨Nat.zero_le _, ?_⟩ (Ent.refl _) ?_
    · by_cases hin : 2 ≤ gold.length ∧ gold.length ≤ 5
      · left; exact ⟨if_pos hin, hin, by simp⟩
      · right; exact ⟨if_neg hin, by unfold newE; rw [if_pos (.inl hin)]⟩
    rintro j e ⟨hj, he⟩
    refine go ?_
    refine PO.gsplit rfl rfl rfl rfl (fun h1 => ?_) (fun h1 => ?_)
    · have hlt : j < gold.length := by have := of_decide_eq_true h1; omega
      refine go ?_
      rcases he with ⟨rfl, hin, hok⟩ | ⟨rfl, hE⟩
      · obtain ⟨b, o, rfl, hcell⟩ := hg.cell1 (j := j) (x := gold[j]) (by simp [hlt])
        have htk : ∀ x ∈ gold.take (j + 1), x = gold[j] ∨ x ∈ gold.take j := fun x hx => by
          rw [List.take_succ_eq_append_getElem hlt] at hx
          rcases List.mem_append.1 hx with h | h
          · exact .inr h
          · exact .inl (by simpa using h)
        refine go ?_
        refine PO.o rfl (OpV.loadH rfl rfl rfl rfl hcell) ?_
        refine go ?_
        refine PO.gsplit rfl rfl rfl rfl (fun h2 => ?_) (fun h2 => ?_)
        · refine go ?_
          refine PO.o rfl (OpV.loadH rfl rfl rfl rfl hcell) ?_
          refine go ?_
          refine PO.csplit rfl (fun h3 => ?_) (fun h3 => ?_)
          · refine go ?_
            exact PO.again2 (j + 1) 1 ⟨hlt, .inr ⟨rfl, newE_bad (List.getElem_mem hlt) (.inr (of_decide_eq_true h3))⟩⟩ (by omega) (Ent.refl _)
          · refine go ?_
            refine PO.again2 (j + 1) 0 ⟨hlt, .inl ⟨rfl, hin, fun x hx => ?_⟩⟩ (by omega) (Ent.refl _)
            rcases htk x hx with rfl | h
            · have := of_decide_eq_false h2; have := of_decide_eq_false h3; omega
            · exact hok x h
        · refine go ?_
          exact PO.again2 (j + 1) 1 ⟨hlt, .inr ⟨rfl, newE_bad (List.getElem_mem hlt) (.inl (of_decide_eq_true h2))⟩⟩ (by omega) (Ent.refl _)
      · refine go ?_
        rw [hE]
        exact PO.meet () trivial (Ent.refl _)
    · have hje : j = gold.length := by have := of_decide_eq_false h1; omega
      refine go ?_
      have hE : newE gold = e := by
        rcases he with ⟨rfl, hin, hok⟩ | ⟨rfl, hE⟩
        · rw [hje, List.take_length] at hok
          exact newE_good hin hok
        · exact hE
      rw [hE]
      exact PO.meet () trivial (Ent.refl _)
  refine go ?_
  refine PO.callm rfl (new_m (.slice p0 gold.length c0) gold hg) rfl fun v => ?_
  refine PO.ex_star fun pv => PO.ent (Ent.assoc _ _ _) (PO.pur fun hv => ?_)
  subst hv
  refine go ?_
  refine PO.callr rfl (error_t hl _) rfl ?_
  rcases newE_cases gold with hE | hE
  · rw [hE]
    simp only [if_true]
    refine PO.ex_star fun bp => PO.ent (Ent.assoc _ _ _) (PO.pur fun hp => ?_)
    subst hp
    have hS0 := Inv.new hE
    have hgl : gold.length ≤ 5 := hS0.n5
    refine go fun bm => ?_
    refine PO.ent (Ent.star (cels_eq (l' := layL nilS wv0 (picS gold)) (by unfold layL; rfl)) (Ent.refl _)) ?_
    refine PO.addR (osl 3 1 encI nilS ([] : List Int)) osl_nil ?_
    refine go ?_
    refine PO.o rfl (OpV.load rfl rfl rfl rfl lay_gold) ?_
    refine go ?_
    refine PO.append (k := 1) (ys := gold) rfl rfl rfl rfl rfl rfl rfl rfl encI_ok (hg.ent (Ent.emp _)) (by show (0 + _) * (2 * 8) ≤ _; omega) (by show 0 + _ < _; omega) rfl fun v' => ?_
    refine osl_one (v := v') fun hv1 => ?_
    refine go ?_
    refine PO.storeLay rfl rfl rfl rfl rfl (cells_of hv1) hv1 (by omega) put_gold ?_
    refine PO.addR (sepL (wayP wv0 (picS gold).ways) pairs) (sepL_each (fun x => osl_nil) _) ?_
    rw [List.nil_append]
    refine PO.ent (refR_close (R := picP bp (picS gold)) bm (picS gold) v' wv0 gold rfl Ent.fr) ?_
    refine go ?_
    refine PO.while2 (fun (i : Nat) (S : PS) => i ≤ 150 ∧ Inv S i) (fun i S => [(0, .slice p0 S.gold.length c0), (1, .slice p1 steps.length c1), (7, ptr bp), (10, ptr bm), (11, iv i)]) (fun _ S => picP bp S * refR bm S) (fun i _ => 150 - i) 0 (picS gold) ⟨Nat.zero_le _, hS0⟩ Ent.fr ?_
    rintro i S ⟨hi, hS⟩
    refine go ?_
    refine PO.gsplit rfl rfl rfl rfl (fun h1 => ?_) (fun h1 => ?_)
    · have hlt : i < steps.length := by have := of_decide_eq_true h1; omega
      refine go ?_
      refine PO.csplit rfl (fun h2 => ?_) (fun h2 => ?_)
      · have hi2 : i < 150 := by have := of_decide_eq_true h2; omega
        obtain ⟨xs, hxs⟩ : ∃ xs, xs = steps[i] := ⟨_, rfl⟩
        obtain ⟨sb, so, q, qc, rfl, hsc, hxi⟩ := hs.get hlt
        have hxb : steps[i].length < 9223372036854775808 := hbb _ (List.getElem_mem hlt)
        rw [← hxs] at hsc hxi hxb
        refine go fun bv => ?_
        refine PO.nil ?_
        refine PO.then_normal ?_
        refine PO.seq ?_
        refine PO.seq ?_
        refine go1 ?_
        refine PO.then_normal ?_
        refine PO.midU [(0, .slice p0 S.gold.length c0), (1, .slice (some ⟨sb, so, none⟩) steps.length c1), (7, ptr bp), (10, ptr bm), (11, iv i), (12, ptr bv)] (picP bp S * (refR bm S * (v4 bv (xs.getD 0 0) (xs.getD 1 0) (xs.getD 2 0) (xs.getD 3 0) * emp))) ?_ ?_
        · exact PO.sub subs (copy_loop hlt hsc hxi hxb (PO.meet () trivial Ent.fr))
        refine PO.then_normal ?_
        refine PO.seq ?_
        refine go1 ?_
        refine PO.then_normal ?_
        refine PO.front (refR bm S) ?_
        refine refR_open fun gv wv => ?_
        refine PO.osl_some (v := gv) (by have := hS.n2; omega) fun gb go_ gc hgv hgc => ?_
        subst hgv
        refine PO.seq ?_
        refine go1 ?_
        refine PO.callr rfl (way_r bm (xs.getD 1 0) (xs.getD 2 0) (S := S) (wv := wv) (p := some ⟨gb, go_, none⟩) (c := gc)) rfl ?_
        refine PO.ent ((refR_close (R := picP bp S * (v4 bv (xs.getD 0 0) (xs.getD 1 0) (xs.getD 2 0) (xs.getD 3 0) * emp)) bm S (.slice (some ⟨gb, go_, none⟩) S.gold.length gc) wv S.gold rfl).trans (Ent.swap _ _ _)) ?_
        refine go1 ?_
        refine PO.then_normal ?_
        refine PO.seq ?_
        refine PO.seq ?_
        refine go1 ?_
        refine PO.then_normal ?_
        refine PO.sub subs (step_arm hl hS (by omega) ?_)
        refine PO.then_normal ?_
        have hlen : (stepS S (xs.getD 0 0) (xs.getD 1 0) (xs.getD 2 0) (xs.getD 3 0)).gold.length = S.gold.length := stepS_len
        have hS' := stepS_inv (a0 := xs.getD 0 0) (a1 := xs.getD 1 0) (a2 := xs.getD 2 0) (a3 := xs.getD 3 0) hS (by omega)
        generalize stepS S (xs.getD 0 0) (xs.getD 1 0) (xs.getD 2 0) (xs.getD 3 0) = S' at hlen hS' ⊢
        rw [← hlen]
        refine PO.sub subs (obs hl hS' (by omega) ?_)
        refine go ?_
        exact PO.again2 (i + 1) S' ⟨by omega, hS'⟩ (by omega) Ent.fr
      · refine go ?_
        exact PO.returnRE rfl rfl rfl (Ent.emp _)
    · refine go ?_
      exact PO.returnRE rfl rfl rfl (Ent.emp _)
  · rw [hE]
    refine go ?_
    exact PO.returnRE rfl rfl rfl (Ent.emp _)
end Go.Proofs.Tryd
