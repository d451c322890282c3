/- Functions of package slices on slices of integers; lists compared. -/
import Derived.Test.YtgphmpppekghbaaDoorTab
namespace Go.Proofs.Tryd
open Go.Sl
set_option maxHeartbeats 400000
attribute [local irreducible] Go.wpList Go.Code.wp Go.wpQuiet PO PQ
variable {w0 : World} {H : HProp}
abbrev iv (n : Int) : Value := .int .i64 n

/-- Where the first is of which something is so; -1: nowhere. -/
def findI {α : Type} (p : α → Bool) (xs : List α) : Int := match xs.findIdx? p with | some i => i | none => -1
theorem findI_here {α : Type} {p : α → Bool} {xs : List α} {j : Nat} {x : α} (h : ∀ i < j, ∀ y, xs[i]? = some y → p y = false) (hj : xs[j]? = some x) (hp : p x = true) : findI p xs = j := by
  have : xs.findIdx? p = some j := by
    rw [List.findIdx?_eq_some_iff_getElem]
    have hlt : j < xs.length := by
      rcases Nat.lt_or_ge j xs.length with h | h
      · exact h
      · simp [List.getElem?_eq_none h] at hj
    have e : xs[j] = x := by simpa [hlt] using hj
    refine ⟨hlt, by rw [e]; exact hp, fun i hi => ?_⟩
    have := h i hi xs[i] (by simp [Nat.lt_trans hi hlt])
    simpa using this
  simp [findI, this]
theorem findI_none {α : Type} {p : α → Bool} {xs : List α} (h : ∀ i < xs.length, ∀ y, xs[i]? = some y → p y = false) : findI p xs = -1 := by
  have : xs.findIdx? p = none := by
    rw [List.findIdx?_eq_none_iff]
    intro x hm
    obtain ⟨i, hi, he⟩ := List.mem_iff_getElem.1 hm
    exact h i hi x (by simp [hi, he])
  simp [findI, this]
theorem findI_nonneg {α : Type} (p : α → Bool) (xs : List α) : decide (0 ≤ findI p xs) = xs.any p := by
  unfold findI
  cases h : xs.findIdx? p with
  | none =>
    rw [List.findIdx?_eq_none_iff] at h
    have : xs.any p = false := by rw [List.any_eq_false]; intro x hx; simp [h x hx]
    simp [this]
  | some i =>
    rw [List.findIdx?_eq_some_iff_getElem] at h
    obtain ⟨h1, h2, _⟩ := h
    have : xs.any p = true := List.any_eq_true.2 ⟨xs[i], List.getElem_mem _, h2⟩
    rw [this]; simp

theorem index_r (s : Value) (xs : List Int) (x : Int) (hs : Ints w0 H s xs) (hl : xs.length < 4611686018427387904) : RSpec prog w0 112 [s, iv x] H (iv (findI (fun y => decide (x = y)) xs)) := by
  obtain ⟨p, c, rfl⟩ := hs.shape
  refine RSpec.intro (n := 19) func112 rfl rfl rfl (by kernel_rfl) ?_
  refine go ?_
  refine PO.while (fun j : Nat => j ≤ xs.length ∧ ∀ i < j, ∀ y, xs[i]? = some y → decide (x = y) = false) (fun j => [(0, .slice p xs.length c), (1, iv x), (7, iv xs.length), (8, iv j)]) (fun _ => H) (fun j => xs.length - j) 0 ⟨Nat.zero_le _, by simp⟩ (Ent.refl _) ?_
  rintro j ⟨hj, hno⟩
  refine go ?_
  refine PO.csplit rfl (fun h => ?_) (fun h => ?_)
  · have hlt : j < xs.length := by simpa using h
    have hx : xs[j]? = some xs[j] := by simp [hlt]
    obtain ⟨b, o, rfl, hcell⟩ := hs.cell1 (j := j) (x := xs[j]) hx
    refine go ?_
    refine PO.o rfl (OpV.loadH rfl rfl rfl rfl hcell) ?_
    refine go ?_
    refine PO.csplit rfl (fun h => ?_) (fun h => ?_)
    · refine go ?_
      exact PO.returnR rfl rfl (by rw [findI_here hno hx h]; rfl)
    · refine go ?_
      refine PO.again (j + 1) ⟨by omega, fun i hi => ?_⟩ (by omega) (Ent.refl _)
      rcases Nat.lt_succ_iff_lt_or_eq.1 hi with h1 | rfl
      · exact hno i h1
      · intro y hy; rw [hx] at hy; obtain rfl := Option.some.inj hy; exact h
  · have hge : ¬ j < xs.length := by simpa using h
    refine go ?_
    exact PO.returnR rfl rfl (by rw [findI_none (fun i hi => hno i (by omega))]; rfl)
theorem contains_r (s : Value) (xs : List Int) (x : Int) (hs : Ints w0 H s xs) (hl : xs.length < 4611686018427387904) : RSpec prog w0 75 [s, iv x] H (.bool (xs.any fun y => decide (x = y))) := by
  refine RSpec.intro (n := 9) func75 rfl rfl rfl (by kernel_rfl) ?_
  refine go ?_
  refine PO.callr rfl (index_r s xs x hs hl) rfl ?_
  refine go ?_
  exact PO.returnR rfl rfl (by rw [← findI_nonneg]; rfl)
theorem indexFunc_r (s : Value) (xs : List Int) {g : Nat} {caps : List Value} {p : Int → Bool} (hs : Ints w0 H s xs) (hl : xs.length < 4611686018427387904) (hf : ∀ x ∈ xs, RSpec prog w0 g (iv x :: caps) H (.bool (p x))) :
    RSpec prog w0 110 [s, .func (.func g) #[] caps.toArray] H (iv (findI p xs)) := by
  obtain ⟨q, c, rfl⟩ := hs.shape
  refine RSpec.intro (n := 19) func110 rfl rfl rfl (by kernel_rfl) ?_
  refine go ?_
  refine PO.while (fun j : Nat => j ≤ xs.length ∧ ∀ i < j, ∀ y, xs[i]? = some y → p y = false) (fun j => [(0, .slice q xs.length c), (1, .func (.func g) #[] caps.toArray), (7, iv xs.length), (8, iv j)]) (fun _ => H) (fun j => xs.length - j) 0 ⟨Nat.zero_le _, by simp⟩ (Ent.refl _) ?_
  rintro j ⟨hj, hno⟩
  refine go ?_
  refine PO.csplit rfl (fun h => ?_) (fun h => ?_)
  · have hlt : j < xs.length := by simpa using h
    have hx : xs[j]? = some xs[j] := by simp [hlt]
    obtain ⟨b, o, rfl, hcell⟩ := hs.cell1 (j := j) (x := xs[j]) hx
    refine go ?_
    refine PO.o rfl (OpV.loadH rfl rfl rfl rfl hcell) ?_
    refine go ?_
    refine PO.callr rfl (hf xs[j] (List.getElem_mem _)) rfl ?_
    refine go ?_
    refine PO.csplit rfl (fun h => ?_) (fun h => ?_)
    · refine go ?_
      exact PO.returnR rfl rfl (by rw [findI_here hno hx h]; rfl)
    · refine go ?_
      refine PO.again (j + 1) ⟨by omega, fun i hi => ?_⟩ (by omega) (Ent.refl _)
      rcases Nat.lt_succ_iff_lt_or_eq.1 hi with h1 | rfl
      · exact hno i h1
      · intro y hy; rw [hx] at hy; obtain rfl := Option.some.inj hy; exact h
  · have hge : ¬ j < xs.length := by simpa using h
    refine go ?_
    exact PO.returnR rfl rfl (by rw [findI_none (fun i hi => hno i (by omega))]; rfl)
theorem containsFunc_r (s : Value) (xs : List Int) {g : Nat} {caps : List Value} {p : Int → Bool} (hs : Ints w0 H s xs) (hl : xs.length < 4611686018427387904) (hf : ∀ x ∈ xs, RSpec prog w0 g (iv x :: caps) H (.bool (p x))) :
    RSpec prog w0 63 [s, .func (.func g) #[] caps.toArray] H (.bool (xs.any p)) := by
  refine RSpec.intro (n := 9) func63 rfl rfl rfl (by kernel_rfl) ?_
  refine go ?_
  refine PO.callr rfl (indexFunc_r s xs hs hl hf) rfl ?_
  refine go ?_
  exact PO.returnR rfl rfl (by rw [← findI_nonneg]; rfl)
/-- slices.Clone: a slice of its own with the same elements. -/
theorem clone_m (s : Value) (xs : List Int) (hs : Ints w0 H s xs) (hl : xs.length ≤ 8796093022208) : MSpec prog w0 66 [s] H (fun v => ints v 3 xs) := by
  obtain ⟨p, c, rfl⟩ := hs.shape
  refine MSpec.intro (n := 8) func66 rfl rfl rfl (by kernel_rfl) ?_
  cases p with
  | none =>
    have hx : xs = [] := by
      cases xs with
      | nil => rfl
      | cons x xs => obtain ⟨b, o, h, _⟩ := hs.cell1 (j := 0) (x := x) rfl; cases h
    subst hx
    refine go ?_
    exact PO.return_ rfl rfl ((Ent.emp_star _).trans (Ent.star osl_nil (Ent.refl _)))
  | some ad =>
    refine go ?_
    refine PO.buildSlice (cs := []) rfl rfl rfl rfl rfl rfl rfl rfl rfl rfl rfl rfl fun b => ?_
    refine go ?_
    refine PO.ent (H' := ints (.slice (some ⟨b, 0, none⟩) 0 0) 3 [] * H) (Ent.star (show Ent (cels b [] 3) _ from osl_intro (α := Int) (k := 1) (enc := encI) (xs := []) (b := b) (pre := []) (post := []) (m := 0) rfl (Nat.le_refl 0)) (Ent.refl _)) ?_
    refine PO.append (k := 1) (enc := encI) (xs := []) rfl rfl rfl rfl rfl rfl rfl rfl encI_ok (hs.ent (Ent.right _ _)) (by show (0 + xs.length) * (2 * 8) ≤ _; omega) (by show 0 + xs.length < _; omega) rfl fun v' => ?_
    refine go ?_
    exact PO.return_ rfl rfl (Ent.refl _)
/-- mootsame.Ints. -/
theorem ints_r (s t : Value) (xs ys : List Int) (hs : Ints w0 H s xs) (ht : Ints w0 H t ys) (hl : xs.length < 4611686018427387904) : RSpec prog w0 20 [s, t] H (.bool (decide (xs = ys))) := by
  obtain ⟨p, c, rfl⟩ := hs.shape
  obtain ⟨q, e, rfl⟩ := ht.shape
  refine RSpec.intro (n := 26) func20 rfl rfl rfl (by kernel_rfl) ?_
  refine go ?_
  refine PO.csplit rfl (fun h => ?_) (fun h => ?_)
  · refine go ?_
    have hne : xs.length ≠ ys.length := by have := of_decide_eq_true h; omega
    exact PO.returnR rfl rfl (by rw [decide_eq_false (fun e => hne (by rw [e]))]; rfl)
  · have hle : xs.length = ys.length := by have := of_decide_eq_false h; omega
    refine go ?_
    refine PO.while (fun j : Nat => j ≤ xs.length ∧ ∀ i < j, xs[i]? = ys[i]?) (fun j => [(0, .slice p xs.length c), (1, .slice q ys.length e), (5, iv j)]) (fun _ => H) (fun j => xs.length - j) 0 ⟨Nat.zero_le _, by simp⟩ (Ent.refl _) ?_
    rintro j ⟨hj, hno⟩
    refine go ?_
    refine PO.csplit rfl (fun h => ?_) (fun h => ?_)
    · have hlt : j < xs.length := by simpa using h
      have hlt' : j < ys.length := by omega
      have hx : xs[j]? = some xs[j] := by simp [hlt]
      have hy : ys[j]? = some ys[j] := by simp [hlt']
      obtain ⟨b, o, rfl, hc1⟩ := hs.cell1 (j := j) (x := xs[j]) hx
      obtain ⟨b', o', rfl, hc2⟩ := ht.cell1 (j := j) (x := ys[j]) hy
      refine go ?_
      refine PO.regionQ (by kernel_rfl) (by kernel_rfl) ?_
      refine goQ ?_
      refine PQ.o rfl (OpV.loadH rfl rfl rfl rfl hc1) ?_
      refine goQ ?_
      refine PQ.o rfl (OpV.loadH rfl rfl rfl rfl hc2) ?_
      refine goQ ?_
      refine go ?_
      refine PO.csplit rfl (fun h => ?_) (fun h => ?_)
      · refine go ?_
        have hne : xs[j] ≠ ys[j] := of_decide_eq_true h
        exact PO.returnR rfl rfl (by rw [decide_eq_false (fun e => hne (by simp [e]))]; rfl)
      · refine go ?_
        have heq : xs[j] = ys[j] := by simpa using h
        refine PO.again (j + 1) ⟨by omega, fun i hi => ?_⟩ (by omega) (Ent.refl _)
        rcases Nat.lt_succ_iff_lt_or_eq.1 hi with h1 | rfl
        · exact hno i h1
        · rw [hx, hy, heq]
    · have hge : ¬ j < xs.length := by simpa using h
      refine go ?_
      have heq : xs = ys := by
        apply List.ext_getElem?
        intro i
        rcases Nat.lt_or_ge i j with hi | hi
        · exact hno i hi
        · rw [List.getElem?_eq_none (by omega), List.getElem?_eq_none (by omega)]
      exact PO.returnR rfl rfl (by rw [decide_eq_true heq]; rfl)
end Go.Proofs.Tryd
