/- What came in: slices that can be read in the first world; slices of slices. -/
import Derived.Test.YtgphmpppekghbaaDoorSlLaw
namespace Go.Sl
open Go.RowKit
variable {P : Program} {w0 : World} {n : Nat} {env : Env} {H H' R : HProp} {v : Value} {α : Type} {k : Nat} {enc : α → List Value} {xs : List α}
theorem spot_none {w : World} {a : Addr} {v : Value} (h : w.cell? a = some v) : a.spot = none := by
  unfold World.cell? at h
  split at h
  · split at h
    · cases h
    · rename_i hs; simpa using hs
  · cases h
theorem Elems.old {a : Addr} {len cap : Nat} (hx : xs.length = len) (he : ∀ x, enc x ≠ []) (h : ∀ j x, xs[j]? = some x → ∀ i u, (enc x)[i]? = some u → w0.cell? (a.add (j * k + i)) = some u) : Elems w0 H k enc (.slice (some a) len cap) xs := by
  subst hx
  refine ⟨some a, cap, rfl, fun j x hj => ?_⟩
  have hlt : 0 < xs.length := by
    cases xs with
    | nil => simp at hj
    | cons y xs => simp
  have hx0 : xs[0]? = some xs[0] := by simp [hlt]
  obtain ⟨u0, r0, hu0⟩ := List.exists_cons_of_ne_nil (he xs[0])
  have h0 := h 0 xs[0] hx0 0 u0 (by rw [hu0]; rfl)
  have hs : a.spot = none := spot_none (by simpa [Addr.add] using h0)
  obtain ⟨b, o, sp⟩ := a
  simp only at hs
  subst hs
  refine ⟨b, o, rfl, fun w hw i u hu => ?_⟩
  have h1 := hw.oldCell (h j x hj i u hu)
  unfold Addr.add at h1
  split at h1
  · rename_i e
    have e1 : o + j * k + i = o := by omega
    rw [e1]; exact h1
  · rw [← Nat.add_assoc] at h1; exact h1
theorem Ints.old {a : Addr} {len cap : Nat} {zs : List Int} (hl : len ≤ zs.length) (h : ∀ i, i < zs.length → w0.cell? (a.add i) = some (.int .i64 (zs.getD i 0))) : Ints w0 H (.slice (some a) len cap) (zs.take len) :=
  Elems.old (by simp [hl]) (by simp) fun j x hj i u hu => by
    have hj' : j < zs.length := by
      rcases Nat.lt_or_ge j zs.length with h | h
      · exact h
      · rw [List.getElem?_take] at hj; split at hj
        · simp [List.getElem?_eq_none h] at hj
        · cases hj
    have hx : zs[j]? = some x := by
      rw [List.getElem?_take] at hj; split at hj
      · exact hj
      · cases hj
    cases i with
    | zero =>
      simp at hu; subst hu
      have := h j hj'
      rw [List.getD_eq_getElem?_getD, hx] at this
      simpa using this
    | succ i => simp at hu
abbrev encV (v : Value) : List Value := [v]
/-- A slice of slices of integers. -/
def Lists (w0 : World) (H : HProp) (v : Value) (xss : List (List Int)) : Prop :=
  ∃ svs : List Value, svs.length = xss.length ∧ Elems w0 H 1 encV v svs ∧ ∀ (i : Nat) sv xs, svs[i]? = some sv → xss[i]? = some xs → Ints w0 H sv xs
theorem Lists.ent {xss : List (List Int)} (h : Lists w0 H v xss) (e : Ent H' H) : Lists w0 H' v xss := by
  obtain ⟨svs, h1, h2, h3⟩ := h
  exact ⟨svs, h1, h2.ent e, fun i sv xs a b => (h3 i sv xs a b).ent e⟩
theorem Lists.shape {xss : List (List Int)} (h : Lists w0 H v xss) : ∃ p c, v = .slice p xss.length c := by
  obtain ⟨svs, h1, h2, _⟩ := h
  obtain ⟨p, c, e⟩ := h2.shape
  exact ⟨p, c, by rw [e, h1]⟩
theorem Lists.get {xss : List (List Int)} {p : Option Addr} {m c : Nat} (h : Lists w0 H (.slice p m c) xss) {j : Nat} (hj : j < xss.length) :
    ∃ b o q c', p = some ⟨b, o, none⟩ ∧ (∀ w, Holds w0 H w → w.cell? ⟨b, o + j, none⟩ = some (.slice q xss[j].length c')) ∧ Ints w0 H (.slice q xss[j].length c') xss[j] := by
  obtain ⟨svs, h1, h2, h3⟩ := h
  have hs : svs[j]? = some svs[j] := by simp [h1, hj]
  have hi := h3 j svs[j] xss[j] hs (by simp [hj])
  obtain ⟨q, c', e⟩ := hi.shape
  obtain ⟨b, o, hp, hc⟩ := h2.cell1 (enc := fun v : Value => v) hs
  rw [e] at hi
  exact ⟨b, o, q, c', hp, by rw [← e]; exact hc, hi⟩
theorem Lists.nil : Lists w0 H (.slice none 0 0) [] := ⟨[], rfl, Elems.nil, fun i sv xs h => by simp at h⟩
theorem Lists.old {a : Addr} {len cap : Nat} {A : Nat → Option Addr} {L C : Nat → Nat} {Z : Nat → List Int} (hl : len ≤ cap)
    (h : ∀ r, r < cap → w0.cell? (a.add r) = some (.slice (A r) (L r) (C r)) ∧ L r ≤ C r ∧ (Z r).length = C r ∧ (A r = none → C r = 0) ∧ ∀ a', A r = some a' → ∀ c, c < C r → w0.cell? (a'.add c) = some (.int .i64 ((Z r).getD c 0))) :
    Lists w0 H (.slice (some a) len cap) ((List.range len).map fun r => (Z r).take (L r)) := by
  refine ⟨(List.range len).map fun r => .slice (A r) (L r) (C r), by simp, Elems.old (by simp) (by simp) fun j x hj i u hu => ?_, fun i sv xs h1 h2 => ?_⟩
  · rw [List.getElem?_map] at hj
    obtain ⟨r', hr', e⟩ := Option.map_eq_some_iff.1 hj
    have hjl : j < len := by
      rcases Nat.lt_or_ge j len with h | h
      · exact h
      · simp [List.getElem?_eq_none, h] at hr'
    have : r' = j := by simpa [hjl, List.getElem?_range] using hr'.symm
    subst this
    cases i with
    | zero =>
      simp at hu
      rw [Nat.mul_one, Nat.add_zero, (h r' (by omega)).1, e]
      exact congrArg some hu
    | succ i => simp at hu
  · have hil : i < len := by
      rcases Nat.lt_or_ge i len with h | h
      · exact h
      · simp [List.getElem?_eq_none, h] at h1
    simp [hil] at h1 h2
    subst h1 h2
    obtain ⟨_, g1, g2, g3, g4⟩ := h i (by omega)
    cases hA : A i with
    | none =>
      have hc := g3 hA
      have hz : (Z i) = [] := List.length_eq_zero_iff.1 (by omega)
      have hL : L i = 0 := by omega
      rw [hz, hL, hc]
      exact Elems.nil
    | some a' => exact Ints.old (by omega) fun c hc => g4 a' hA c (by omega)
end Go.Sl
