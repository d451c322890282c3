/- Maps whose values own something; blocks told by a function. -/
import Derived.Test.YtgphmpppekghbaaDoorSlMap3
namespace Go.Sl
open Go.RowKit

theorem run_equal_of2 {P : Program} {t : TypeId} {u v : Value} {b : Bool} {w : World} (h : ∀ d, (Op.equalIn (d + 2) t u v).run P w = .ok b w) : (Op.equal t u v).run P w = .ok b w := h 9998
theorem checkKey_of2 {P : Program} {e : Bool} {t : TypeId} {u : Value} {w : World} (h : ∀ d, (Instr.checkKey e (d + 2) t u).run P w = .ok () w) : (Instr.checkKey e 10000 t u).run P w = .ok () w := h 9998
theorem sameBits_of2 {u v : Value} (h : ∀ d, Instr.sameBits (d + 2) u v = true) : Instr.sameBits 10000 u v = true := h 9998

/-- What each of a list gives, side by side. -/
def sepL {α : Type} (P : α → HProp) : List α → HProp
  | [] => emp
  | x :: l => P x * sepL P l
theorem sepL_append {α : Type} (P : α → HProp) : ∀ (l m : List α), Ent (sepL P (l ++ m)) (sepL P l * sepL P m)
  | [], _ => Ent.emp_star _
  | _ :: l, m => (Ent.star (Ent.refl _) (sepL_append P l m)).trans (Ent.assoc' _ _ _)
theorem sepL_append' {α : Type} (P : α → HProp) : ∀ (l m : List α), Ent (sepL P l * sepL P m) (sepL P (l ++ m))
  | [], _ => Ent.right _ _
  | _ :: l, m => (Ent.assoc _ _ _).trans (Ent.star (Ent.refl _) (sepL_append' P l m))

section
variable {κ γ : Type} [DecidableEq κ]
abbrev OM (κ γ : Type) := List (κ × Value × γ)
def omv (W : OM κ γ) : List (κ × Value) := W.map fun t => (t.1, t.2.1)
def oget (W : OM κ γ) (k : κ) : Option (Value × γ) := (W.find? fun t => decide (t.1 = k)).map (·.2)
def oset : OM κ γ → κ → Value × γ → OM κ γ
  | [], k, v => [(k, v)]
  | (q, u) :: W, k, v => if q = k then (k, v) :: W else (q, u) :: oset W k v
def odel : OM κ γ → κ → OM κ γ
  | [], _ => []
  | (q, u) :: W, k => if q = k then W else (q, u) :: odel W k
def pays (pay : Value → γ → HProp) (W : OM κ γ) : HProp := sepL (fun t : κ × Value × γ => pay t.2.1 t.2.2) W
theorem mget_omv (k : κ) : ∀ W : OM κ γ, mget (omv W) k = (oget W k).map (·.1)
  | [] => rfl
  | (q, u) :: W => by
    have ih := mget_omv k W
    unfold omv oget at *
    simp only [List.map_cons, mget_cons, List.find?_cons]
    by_cases h : q = k
    · simp [h]
    · simp [h, ih]
theorem omv_oset (k : κ) (v : Value) (x : γ) : ∀ W : OM κ γ, omv (oset W k (v, x)) = mset (omv W) k v
  | [] => rfl
  | (q, u) :: W => by
    unfold oset
    by_cases h : q = k
    · simp [h, omv, mset]
    · have ih := omv_oset k v x W
      unfold omv at *
      simp [h, mset, ih]
theorem oget_oset (k k' : κ) (v : Value × γ) : ∀ W : OM κ γ, oget (oset W k v) k' = if k = k' then some v else oget W k'
  | [] => by unfold oset oget; by_cases h : k = k' <;> simp [h]
  | (q, u) :: W => by
    have ih := oget_oset k k' v W
    unfold oset
    by_cases h : q = k
    · subst h
      simp only [if_true]
      unfold oget; by_cases h2 : q = k' <;> simp [h2]
    · simp only [if_neg h]
      unfold oget at *
      simp only [List.find?_cons]
      by_cases h2 : q = k'
      · subst h2; rw [if_neg (fun e => h e.symm)]; simp
      · simp [h2, ih]
variable {pay : Value → γ → HProp}
/-- One part taken out, if there is such a key. -/
theorem pays_take {k : κ} {v : Value} {x : γ} : ∀ {W : OM κ γ}, oget W k = some (v, x) → Ent (pays pay W) (pay v x * pays pay (odel W k))
  | [], h => by simp [oget] at h
  | (q, u) :: W, h => by
    unfold oget at h
    simp only [List.find?_cons] at h
    unfold odel
    by_cases hq : q = k
    · simp [hq] at h
      subst h
      rw [if_pos hq]
      exact Ent.refl _
    · simp [hq] at h
      rw [if_neg hq]
      have ih : Ent (pays pay W) (pay v x * pays pay (odel W k)) := pays_take (by unfold oget; simpa using h)
      exact (Ent.star (Ent.refl _) ih).trans (Ent.swap _ _ _)
theorem odel_none {k : κ} : ∀ {W : OM κ γ}, oget W k = none → odel W k = W
  | [], _ => rfl
  | (q, u) :: W, h => by
    unfold oget at h
    simp only [List.find?_cons] at h
    unfold odel
    by_cases hq : q = k
    · simp [hq] at h
    · simp [hq] at h
      rw [if_neg hq, odel_none (by unfold oget; simpa using h)]
/-- One part put in its place. -/
theorem pays_put {k : κ} {v : Value} {x : γ} : ∀ {W : OM κ γ}, Ent (pay v x * pays pay (odel W k)) (pays pay (oset W k (v, x)))
  | [] => Ent.refl _
  | (q, u) :: W => by
    unfold odel oset
    by_cases hq : q = k
    · rw [if_pos hq, if_pos hq]
      exact Ent.refl _
    · rw [if_neg hq, if_neg hq]
      exact (Ent.swap _ _ _).trans (Ent.star (Ent.refl _) (pays_put (W := W)))
theorem oset_oset (k : κ) (u v : Value × γ) : ∀ W : OM κ γ, oset (oset W k u) k v = oset W k v
  | [] => by simp [oset]
  | (q, x) :: W => by
    by_cases h : q = k
    · simp [oset, h]
    · simp [oset, h, oset_oset k u v W]
end

/-! ### Blocks told by a function -/
def upd (g : Nat → Value) (i : Nat) (v : Value) : Nat → Value := fun j => if j = i then v else g j
abbrev celf (b : Nat) (m : Nat) (g : Nat → Value) (t : TypeId) : HProp := cels b ((List.range m).map g) t
theorem celf_get {m i : Nat} {g : Nat → Value} (h : i < m) : ((List.range m).map g)[i]? = some (g i) := by simp [h]
theorem celf_set {m i : Nat} {g : Nat → Value} {v : Value} (h : i < m) : putCells ((List.range m).map g) i [v] = (List.range m).map (upd g i v) := by
  unfold putCells
  apply List.ext_getElem?
  intro j
  simp only [List.length_cons, List.length_nil, Nat.zero_add, List.append_assoc]
  rcases Nat.lt_trichotomy j i with hj | rfl | hj
  · rw [List.getElem?_append_left (by simp; omega)]
    rw [List.getElem?_take, if_pos hj, List.getElem?_map, List.getElem?_map, List.getElem?_range (by omega)]
    simp [upd, Nat.ne_of_lt hj]
  · rw [List.getElem?_append_right (by simp; omega)]
    simp [h, upd, Nat.min_eq_left (Nat.le_of_lt h)]
  · rw [List.getElem?_append_right (by simp; omega)]
    simp only [List.length_take, List.length_map, List.length_range, Nat.min_eq_left (Nat.le_of_lt h)]
    rw [List.getElem?_append_right (by simp; omega)]
    simp only [List.length_cons, List.length_nil, List.getElem?_drop, List.getElem?_map]
    rw [show i + 1 + (j - i - (0 + 1)) = j by omega]
    by_cases hm : j < m
    · simp [hm, upd, Nat.ne_of_gt hj]
    · simp [hm]
end Go.Sl
