/- What holds all along is kept by each step. No program in sight. -/
import Derived.Test.YtgphmpppekghbaaDoorPic7
namespace Go.Proofs.Tryd
open Go.Sl
set_option maxHeartbeats 400000
variable {S : PS} {i : Nat}
theorem Inv.mono (h : Inv S i) : Inv S (i + 1) where
  n2 := h.n2
  n5 := h.n5
  len f t := by have := h.len f t; omega
  gold x hx := by have := h.gold x hx; omega
  pay := h.pay
  wrote k hk := by have := h.wrote k hk; omega
  part f t := by have := h.part f t; omega
  onWay := by have := h.onWay; omega
  hasr := h.hasr
  opnr := h.opnr
  opnh := h.opnh
  part0 := h.part0
  mark := h.mark
  one := h.one
  wait := h.wait
  begun := h.begun
theorem Inv.new {gold : List Int} (h : newE gold = 0) : Inv (picS gold) 0 := by
  have h1 : ¬ (¬ (2 ≤ gold.length ∧ gold.length ≤ 5) ∨ gold.any (fun n => !(decide (0 ≤ n) && decide (n ≤ 1000))) = true) := by
    intro hh; unfold newE at h; rw [if_pos hh] at h; cases h
  have h2 : 2 ≤ gold.length ∧ gold.length ≤ 5 := by omega
  have h3 : ∀ x ∈ gold, 0 ≤ x ∧ x ≤ 1000 := by
    intro x hx
    have : ¬ gold.any (fun n => !(decide (0 ≤ n) && decide (n ≤ 1000))) = true := fun e => h1 (.inr e)
    rw [List.any_eq_true] at this
    have h4 : ¬ ((!(decide (0 ≤ x) && decide (x ≤ 1000))) = true) := fun e => this ⟨x, hx, e⟩
    simp at h4; omega
  exact {
    n2 := h2.1, n5 := h2.2, len := fun _ _ => Nat.le_refl _, gold := fun x hx => by have := h3 x hx; simp only [picS] at *; omega
    pay := fun _ _ x hx => by cases hx
    wrote := fun _ hk => by cases hk
    part := fun _ _ => by simp [picS]
    onWay := by simp [picS]
    hasr := fun _ hk => by cases hk
    opnr := fun _ _ hk => by cases hk
    opnh := fun _ _ hk => by cases hk
    part0 := fun _ _ _ => rfl
    mark := fun _ _ hk => by cases hk
    one := fun _ _ => by simp [picS]
    wait := fun _ _ _ _ _ _ hk => by cases hk
    begun := fun _ _ => rfl }
theorem mem_set {l : List Int} {j : Nat} {v x : Int} (h : x ∈ l.set j v) : x = v ∨ x ∈ l := (List.mem_or_eq_of_mem_set h).symm
theorem Inv.pay' (h : Inv S i) (f t n : Int) : Inv (payS S f t n).1 (i + 1) := by
  unfold payS
  split
  · exact h.mono
  · split
    · exact h.mono
    · rename_i he hn
      split
      · exact h.mono
      · rename_i hg
        split
        · exact h.mono
        · have hm := h.mono
          obtain ⟨f0, f1, _, _, _⟩ := wayE_0 (by simpa using he)
          have hgm : S.gold.getD f.toNat 0 ∈ S.gold := by
            have : f.toNat < S.gold.length := by omega
            simp [this]
          have hgb := h.gold _ hgm
          refine { hm with n2 := ?_, n5 := ?_, len := ?_, gold := ?_, pay := ?_, hasr := ?_, opnr := ?_, mark := ?_, one := ?_, wait := ?_ }
          · simpa using h.n2
          · simpa using h.n5
          · intro a b
            simp only [setWay]
            have := h.len a b
            split
            · rename_i e; rw [e.1, e.2] at this; simp; exact this
            · omega
          · intro x hx
            rcases mem_set hx with rfl | hx
            · omega
            · exact hm.gold x hx
          · intro a b x hx
            simp only [setWay] at hx
            split at hx
            · rcases List.mem_append.1 hx with hx | hx
              · exact h.pay f t x hx
              · simp at hx; omega
            · exact h.pay a b x hx
          · intro k hk; have := h.hasr k hk; simpa using this
          · intro a b hk; have := h.opnr a b hk; simpa using this
          · intro a b hx
            simp only [setWay] at hx
            split at hx
            · rename_i e
              rw [e.1, e.2]
              rcases List.mem_append.1 hx with hx | hx
              · exact h.mark f t hx
              · simp at hx; omega
            · exact h.mark a b hx
          · intro a b
            simp only [setWay]
            split
            · rw [List.count_append]
              have : List.count 0 [n] = 0 := by rw [List.count_eq_zero]; simp; omega
              rw [this]; exact h.one f t
            · exact h.one a b
          · intro a b h1 h2 h3; exact h.wait a b h1 h2 (by simpa using h3)
theorem Inv.pop (h : Inv S i) {f t n : Int} {rest : List Int} (hx : S.ways f t = n :: rest) : Inv (setWay S f t rest) i := by
  refine { h with len := ?_, pay := ?_, mark := ?_, one := ?_ }
  · intro a b
    simp only [setWay]
    split
    · have := h.len f t; rw [hx] at this; simp at this; omega
    · exact h.len a b
  · intro a b x hm
    simp only [setWay] at hm
    split at hm
    · exact h.pay f t x (by rw [hx]; exact List.mem_cons_of_mem _ hm)
    · exact h.pay a b x hm
  · intro a b hm
    simp only [setWay] at hm
    split at hm
    · rename_i e
      rw [e.1, e.2]
      exact h.mark f t (by rw [hx]; exact List.mem_cons_of_mem _ hm)
    · exact h.mark a b hm
  · intro a b
    simp only [setWay]
    split
    · have := h.one f t
      rw [hx, List.count_cons] at this
      omega
    · exact h.one a b
theorem Inv.write (h : Inv S i) {who : Int} (h0 : 0 ≤ who) (h1 : who < S.gold.length) (hh : S.has who = false) (hb : S.begun = true) : Inv (writeS S who S.gold.length) (i + 1) := by
  have hm := h.mono
  have hz : ∀ t, 0 ∉ S.ways who t := fun t hk => by have := (h.mark who t hk).1; rw [hh] at this; cases this
  have hgm : S.gold.getD who.toNat 0 ∈ S.gold := by
    have : who.toNat < S.gold.length := by omega
    simp [this]
  refine { hm with len := ?_, pay := ?_, wrote := ?_, hasr := ?_, opnr := ?_, opnh := ?_, part0 := ?_, mark := ?_, one := ?_, wait := ?_, begun := ?_ }
  · intro f t
    simp only [writeS]
    have := h.len f t
    split <;> simp <;> omega
  · intro f t x hx
    simp only [writeS] at hx
    split at hx
    · rcases List.mem_append.1 hx with hx | hx
      · exact h.pay f t x hx
      · simp at hx; omega
    · exact h.pay f t x hx
  · intro k hk
    simp only [writeS] at hk ⊢
    split
    · have := h.gold _ hgm; omega
    · rename_i e
      rw [if_neg e] at hk
      exact hm.wrote k hk
  · intro k hk
    simp only [writeS] at hk ⊢
    split at hk
    · omega
    · exact h.hasr k hk
  · intro f t hk
    simp only [writeS] at hk ⊢
    split at hk
    · omega
    · exact h.opnr f t hk
  · intro f t hk
    simp only [writeS] at hk ⊢
    split
    · rfl
    · rename_i e
      rw [if_neg (fun g => e g.1)] at hk
      exact h.opnh f t hk
  · intro t hk f
    simp only [writeS] at hk ⊢
    split at hk
    · cases hk
    · exact h.part0 t hk f
  · intro f t hk
    simp only [writeS] at hk ⊢
    by_cases hf : f = who ∧ t ≠ who ∧ 0 ≤ t ∧ t < S.gold.length
    · rw [if_pos hf.1]
      refine ⟨rfl, fun ht => ?_⟩
      rw [if_neg hf.2.1] at ht
      split
      · rfl
      · rw [hf.1]
        exact h.wait who t (fun e => hf.2.1 e.symm) h0 h1 hh ht
    · rw [if_neg hf] at hk
      obtain ⟨m1, m2⟩ := h.mark f t hk
      have hfw : f ≠ who := fun e => by rw [e, hh] at m1; cases m1
      have hr := h.hasr f m1
      rw [if_neg hfw]
      refine ⟨m1, fun ht => ?_⟩
      by_cases htw : t = who
      · rw [if_pos ⟨htw, hfw, hr.1, hr.2⟩]
      · rw [if_neg htw] at ht
        rw [if_neg (fun g => htw g.1)]
        exact m2 ht
  · intro f t
    simp only [writeS]
    split
    · rename_i e
      rw [List.count_append, e.1]
      have : List.count 0 (S.ways who t) = 0 := List.count_eq_zero.2 (hz t)
      rw [this]; simp
    · exact h.one f t
  · intro f t h2 h3 h4 h5 h6
    simp only [writeS] at h5 h6 ⊢
    have hfw : f ≠ who := fun e => by rw [if_pos e] at h5; cases h5
    rw [if_neg hfw] at h5
    by_cases htw : t = who
    · rw [if_pos ⟨htw, hfw, h3, h4⟩]
    · rw [if_neg htw] at h6
      rw [if_neg (fun g => htw g.1)]
      exact h.wait f t h2 h3 h4 h5 h6
  · intro hk
    simp only [writeS] at hk
    rw [hb] at hk; cases hk
theorem Inv.begin' (h : Inv S i) (who : Int) : Inv (beginS S who).1 (i + 1) := by
  unfold beginS
  split
  · exact h.mono
  · split
    · exact h.mono
    · rename_i hr hb
      have hb' : S.begun = false := by simpa using hb
      have hin : 0 ≤ who ∧ who < S.gold.length := by omega
      have h2 : Inv { S with begun := true } i := { h with begun := fun e => by cases e }
      exact Inv.write h2 hin.1 hin.2 (h.begun hb' who) rfl
theorem Inv.come' (h : Inv S i) (hi : i ≤ 200) (f t : Int) : Inv (comeS S f t).1 (i + 1) := by
  unfold comeS
  split
  · exact h.mono
  · rename_i he
    obtain ⟨f0, f1, t0, t1, hne⟩ := wayE_0 (show wayE S.gold.length f t = 0 by simpa using he)
    split
    · exact h.mono
    · rename_i n rest hx
      have hp := h.pop hx
      split
      · rename_i hn
        subst hn
        obtain ⟨hf, hto⟩ := h.mark f t (by rw [hx]; simp)
        have hbg : S.begun = true := by
          cases hb : S.begun
          · have := h.begun hb f; rw [hf] at this; cases this
          · rfl
        have hz : 0 ∉ rest := fun hk => by
          have := h.one f t
          rw [hx, List.count_cons] at this
          have h2 : 0 < List.count 0 rest := List.count_pos_iff.2 hk
          simp at this; omega
        obtain ⟨S2, hS2⟩ : ∃ S2, S2 = (if (setWay S f t rest).has t then setWay S f t rest else writeS (setWay S f t rest) t (setWay S f t rest).gold.length) := ⟨_, rfl⟩
        have hm : markS (setWay S f t rest) f t = { S2 with opn := fun x y => if x = f ∧ y = t then false else S2.opn x y, onWay := S2.onWay + S2.part f t } := by rw [hS2]; rfl
        have i2 : Inv S2 (i + 1) := by
          rw [hS2]
          cases hT : (setWay S f t rest).has t
          · exact Inv.write hp t0 t1 hT hbg
          · exact hp.mono
        have w2 : S2.ways f t = rest := by
          rw [hS2]
          split
          · simp [setWay]
          · simp only [writeS, setWay]
            rw [if_neg (fun g => hne g.1)]; simp
        have f2 : S2.has f = true := by
          rw [hS2]
          split
          · exact hf
          · simp only [writeS, setWay]
            split
            · rfl
            · exact hf
        have o2 : S2.onWay = S.onWay := by rw [hS2]; split <;> rfl
        have p2 : S2.part f t = S.part f t := by rw [hS2]; split <;> rfl
        show Inv (markS (setWay S f t rest) f t) (i + 1)
        rw [hm]
        refine { i2 with onWay := ?_, opnr := ?_, opnh := ?_, mark := ?_, wait := ?_ }
        · have h1 := h.onWay
          have h2 := h.part f t
          show 0 ≤ S2.onWay + S2.part f t ∧ S2.onWay + S2.part f t ≤ 1000000 * ((i + 1 : Nat) : Int)
          rw [o2, p2]; omega
        · intro a b hk
          simp only at hk
          split at hk
          · cases hk
          · exact i2.opnr a b hk
        · intro a b hk
          simp only at hk
          split at hk
          · cases hk
          · exact i2.opnh a b hk
        · intro a b hk
          obtain ⟨m1, m2⟩ := i2.mark a b hk
          refine ⟨m1, fun hb => ?_⟩
          simp only
          rw [if_neg (fun g => ?_)]
          · exact m2 hb
          · have hk2 : 0 ∈ S2.ways a b := hk
            rw [g.1, g.2, w2] at hk2
            exact hz hk2
        · intro a b h1 h2 h3 h4 h5
          simp only
          rw [if_neg (fun g => ?_)]
          · exact i2.wait a b h1 h2 h3 h4 h5
          · have h6 : S2.has a = false := h4
            rw [g.1, f2] at h6; cases h6
      · rename_i hn
        have hpay := h.pay f t n (by rw [hx]; simp)
        have hm := hp.mono
        have hgm : S.gold.getD t.toNat 0 ∈ S.gold := by
          have : t.toNat < S.gold.length := by omega
          simp [this]
        have hgb := h.gold _ hgm
        refine { hm with n2 := ?_, n5 := ?_, gold := ?_, part := ?_, hasr := ?_, opnr := ?_, part0 := ?_, wait := ?_ }
        · simpa using h.n2
        · simpa using h.n5
        · intro x hx'
          rcases mem_set hx' with rfl | hx'
          · omega
          · have := h.gold x hx'; omega
        · intro a b
          simp only
          have h1 := h.part f t
          have h2 := h.part a b
          split <;> omega
        · intro k hk; have := h.hasr k hk; simpa using this
        · intro a b hk; have := h.opnr a b hk; simpa using this
        · intro b hk a
          simp only
          split
          · rename_i e
            have := h.opnh f t e.2.2
            rw [← e.2.1] at this
            have hk2 : S.has b = false := hk
            rw [this] at hk2; cases hk2
          · exact h.part0 b hk a
        · intro a b h1 h2 h3; exact h.wait a b h1 h2 (by simpa using h3)
end Go.Proofs.Tryd
