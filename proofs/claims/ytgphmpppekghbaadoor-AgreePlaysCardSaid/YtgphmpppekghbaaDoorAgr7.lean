/- The group that the statement sets beside: one block of 662 cells; Less, In, Check, Final. -/
import Derived.Test.YtgphmpppekghbaaDoorAgr6
namespace Go.Proofs.Tryd
open Go.Sl
set_option maxHeartbeats 1000000
attribute [local irreducible] Go.wpList Go.Code.wp Go.wpQuiet PO PQ AnyH
variable {w0 : World} {H R : HProp} {S S' : AS} {i : Nat}
structure RA where
  n : Nat
  was : Nat → Bool
  g : Nat → Nat → Stp
  has : Nat → Nat → Bool
  knew : Nat → Nat → Bool
  most : Nat → Int
  hv : Nat → Value
def layR (A : RA) (c : Nat) : Value :=
  if c < 1 then iv A.n
  else if c < 32 then .bool (A.was (c - 1))
  else if c < 342 then (if (c - 32) % 2 = 0 then iv (A.g ((c - 32) / 10) ((c - 32) / 2 % 5)).1 else iv (A.g ((c - 32) / 10) ((c - 32) / 2 % 5)).2)
  else if c < 497 then .bool (A.has ((c - 342) / 5) ((c - 342) % 5))
  else if c < 652 then .bool (A.knew ((c - 497) / 5) ((c - 497) % 5))
  else if c < 657 then iv (A.most (c - 652))
  else A.hv (c - 657)
def layA (A : RA) : List Value := (List.range 662).map (layR A)
variable {A A' : RA}
theorem layA_get {c : Nat} (h : c < 662) : (layA A)[c]? = some (layR A c) := celf_get (g := layR A) h
theorem layA_n : (layA A)[0 + 0]? = some (iv A.n) := layA_get (by omega)
theorem layA_was {w : Nat} (hw : w < 31) : (layA A)[0 + 1 + w]? = some (.bool (A.was w)) := by
  rw [layA_get (by omega)]; unfold layR
  rw [if_neg (by omega), if_pos (by omega), show 0 + 1 + w - 1 = w by omega]
theorem layA_has {w x : Nat} (hw : w < 31) (hx : x < 5) : (layA A)[0 + 342 + w * 5 + x]? = some (.bool (A.has w x)) := by
  rw [layA_get (by omega)]; unfold layR
  rw [if_neg (by omega), if_neg (by omega), if_neg (by omega), if_pos (by omega), show (0 + 342 + w * 5 + x - 342) / 5 = w by omega, show (0 + 342 + w * 5 + x - 342) % 5 = x by omega]
theorem layA_knew {w x : Nat} (hw : w < 31) (hx : x < 5) : (layA A)[0 + 497 + w * 5 + x]? = some (.bool (A.knew w x)) := by
  rw [layA_get (by omega)]; unfold layR
  rw [if_neg (by omega), if_neg (by omega), if_neg (by omega), if_neg (by omega), if_pos (by omega), show (0 + 497 + w * 5 + x - 497) / 5 = w by omega, show (0 + 497 + w * 5 + x - 497) % 5 = x by omega]
theorem layA_most {x : Nat} (hx : x < 5) : (layA A)[0 + 652 + x]? = some (iv (A.most x)) := by
  rw [layA_get (by omega)]; unfold layR
  rw [if_neg (by omega), if_neg (by omega), if_neg (by omega), if_neg (by omega), if_neg (by omega), if_pos (by omega), show 0 + 652 + x - 652 = x by omega]
theorem layA_hv {x : Nat} (hx : x < 5) : (layA A)[0 + 657 + x]? = some (A.hv x) := by
  rw [layA_get (by omega)]; unfold layR
  rw [if_neg (by omega), if_neg (by omega), if_neg (by omega), if_neg (by omega), if_neg (by omega), if_neg (by omega), show 0 + 657 + x - 657 = x by omega]
theorem layA_g1 {w x : Nat} (hw : w < 31) (hx : x < 5) : (layA A)[0 + 32 + w * 10 + x * 2]? = some (iv (A.g w x).1) := by
  rw [layA_get (by omega)]; unfold layR
  rw [if_neg (by omega), if_neg (by omega), if_pos (by omega), if_pos (by omega), show (0 + 32 + w * 10 + x * 2 - 32) / 10 = w by omega, show (0 + 32 + w * 10 + x * 2 - 32) / 2 % 5 = x by omega]
theorem layA_g2 {w x : Nat} (hw : w < 31) (hx : x < 5) : (layA A)[0 + 32 + w * 10 + x * 2 + 1]? = some (iv (A.g w x).2) := by
  rw [layA_get (by omega)]; unfold layR
  rw [if_neg (by omega), if_neg (by omega), if_pos (by omega), if_neg (by omega), show (0 + 32 + w * 10 + x * 2 + 1 - 32) / 10 = w by omega, show (0 + 32 + w * 10 + x * 2 + 1 - 32) / 2 % 5 = x by omega]
theorem layA_g {w x : Nat} (hw : w < 31) (hx : x < 5) : ((layA A).drop (0 + 32 + w * 10 + x * 2)).take 2 = encS (A.g w x) := by
  have h1 := layA_g1 (A := A) hw hx
  have h2 := layA_g2 (A := A) hw hx
  apply List.ext_getElem?
  intro k
  rw [List.getElem?_take, List.getElem?_drop]
  match k with
  | 0 => rw [if_pos (by omega), Nat.add_zero, h1]; rfl
  | 1 => rw [if_pos (by omega), h2]; rfl
  | k + 2 => rw [if_neg (by omega)]; rfl
theorem layA_len : (layA A).length = 662 := by unfold layA; simp
theorem layA_put {i : Nat} {v : Value} (hi : i < 662) (h : ∀ c < 662, upd (layR A) i v c = layR A' c) : putCells (layA A) i [v] = layA A' := by
  unfold layA
  rw [celf_set hi]
  exact List.map_congr_left fun c hc => h c (List.mem_range.1 hc)
def upd2 {α : Type} (f : Nat → Nat → α) (w x : Nat) (v : α) : Nat → Nat → α := fun a b => if a = w ∧ b = x then v else f a b
def upd1 {α : Type} (f : Nat → α) (x : Nat) (v : α) : Nat → α := fun a => if a = x then v else f a
theorem layA_setWas {w : Nat} {v : Bool} (hw : w < 31) : putCells (layA A) (0 + 1 + w) [.bool v] = layA { A with was := upd1 A.was w v } := by
  refine layA_put (by omega) fun c hc => ?_
  unfold upd layR upd1
  by_cases e : c = 0 + 1 + w
  · rw [if_pos e, if_neg (by omega), if_pos (by omega)]; simp only; rw [if_pos (by omega)]
  · rw [if_neg e]
    simp only
    by_cases h1 : c < 1
    · rw [if_pos h1, if_pos h1]
    · rw [if_neg h1, if_neg h1]
      by_cases h2 : c < 32
      · rw [if_pos h2, if_pos h2, if_neg (by omega)]
      · rw [if_neg h2, if_neg h2]
theorem layA_setHas {w x : Nat} {v : Bool} (hw : w < 31) (hx : x < 5) : putCells (layA A) (0 + 342 + w * 5 + x) [.bool v] = layA { A with has := upd2 A.has w x v } := by
  refine layA_put (by omega) fun c hc => ?_
  unfold upd layR upd2
  by_cases e : c = 0 + 342 + w * 5 + x
  · rw [if_pos e, if_neg (by omega), if_neg (by omega), if_neg (by omega), if_pos (by omega)]; simp only; rw [if_pos (by omega)]
  · rw [if_neg e]
    simp only
    by_cases h : 342 ≤ c ∧ c < 497
    · have h2 : ¬ ((c - 342) / 5 = w ∧ (c - 342) % 5 = x) := by omega
      rw [if_neg h2]
    · repeat' split
      all_goals first | rfl | omega
theorem layA_setKnew {w x : Nat} {v : Bool} (hw : w < 31) (hx : x < 5) : putCells (layA A) (0 + 497 + w * 5 + x) [.bool v] = layA { A with knew := upd2 A.knew w x v } := by
  refine layA_put (by omega) fun c hc => ?_
  unfold upd layR upd2
  by_cases e : c = 0 + 497 + w * 5 + x
  · rw [if_pos e, if_neg (by omega), if_neg (by omega), if_neg (by omega), if_neg (by omega), if_pos (by omega)]; simp only; rw [if_pos (by omega)]
  · rw [if_neg e]
    simp only
    by_cases h : 497 ≤ c ∧ c < 652
    · have h2 : ¬ ((c - 497) / 5 = w ∧ (c - 497) % 5 = x) := by omega
      rw [if_neg h2]
    · repeat' split
      all_goals first | rfl | omega
theorem layA_setMost {x : Nat} {v : Int} (hx : x < 5) : putCells (layA A) (0 + 652 + x) [iv v] = layA { A with most := upd1 A.most x v } := by
  refine layA_put (by omega) fun c hc => ?_
  unfold upd layR upd1
  by_cases e : c = 0 + 652 + x
  · rw [if_pos e, if_neg (by omega), if_neg (by omega), if_neg (by omega), if_neg (by omega), if_neg (by omega), if_pos (by omega)]; simp only; rw [if_pos (by omega)]
  · rw [if_neg e]
    simp only
    by_cases h : 652 ≤ c ∧ c < 657
    · rw [if_neg (show ¬ c < 1 by omega), if_neg (show ¬ c < 32 by omega), if_neg (show ¬ c < 342 by omega), if_neg (show ¬ c < 497 by omega), if_neg (show ¬ c < 652 by omega), if_pos h.2, if_neg (show ¬ c < 1 by omega), if_neg (show ¬ c < 32 by omega), if_neg (show ¬ c < 342 by omega), if_neg (show ¬ c < 497 by omega), if_neg (show ¬ c < 652 by omega), if_pos h.2, if_neg (by omega)]
    · repeat' split
      all_goals first | rfl | omega
theorem layA_setHv {x : Nat} {v : Value} (hx : x < 5) : putCells (layA A) (0 + 657 + x) [v] = layA { A with hv := upd1 A.hv x v } := by
  refine layA_put (by omega) fun c hc => ?_
  unfold upd layR upd1
  by_cases e : c = 0 + 657 + x
  · rw [if_pos e, if_neg (by omega), if_neg (by omega), if_neg (by omega), if_neg (by omega), if_neg (by omega), if_neg (by omega)]; simp only; rw [if_pos (by omega)]
  · rw [if_neg e]
    simp only
    by_cases h : 657 ≤ c
    · rw [if_neg (show ¬ c < 1 by omega), if_neg (show ¬ c < 32 by omega), if_neg (show ¬ c < 342 by omega), if_neg (show ¬ c < 497 by omega), if_neg (show ¬ c < 652 by omega), if_neg (show ¬ c < 657 by omega), if_neg (show ¬ c < 1 by omega), if_neg (show ¬ c < 32 by omega), if_neg (show ¬ c < 342 by omega), if_neg (show ¬ c < 497 by omega), if_neg (show ¬ c < 652 by omega), if_neg (show ¬ c < 657 by omega), if_neg (by omega)]
    · repeat' split
      all_goals first | rfl | omega
theorem putCells_two (l : List Value) (i : Nat) (u v : Value) (h : i + 2 ≤ l.length) : putCells l i [u, v] = putCells (putCells l i [u]) (i + 1) [v] := by
  unfold putCells
  have h1 : (l.take i ++ [u] ++ l.drop (i + [u].length)).take (i + 1) = l.take i ++ [u] := by
    rw [List.take_append_of_le_length (by simp; omega), List.take_of_length_le (by simp; omega)]
  have h2 : (l.take i ++ [u] ++ l.drop (i + [u].length)).drop (i + 1 + [v].length) = l.drop (i + 2) := by
    rw [List.drop_append, List.drop_eq_nil_of_le (by simp; omega)]
    simp only [List.length_append, List.length_take, List.length_singleton, List.nil_append, List.drop_drop]
    congr 1; omega
  rw [h1, h2]; simp
theorem layA_setG {w x : Nat} {s : Stp} (hw : w < 31) (hx : x < 5) : putCells (layA A) (0 + 32 + w * 10 + x * 2) [iv s.1, iv s.2] = layA { A with g := upd2 A.g w x s } := by
  rw [putCells_two _ _ _ _ (by rw [layA_len]; omega)]
  have h1 : putCells (layA A) (0 + 32 + w * 10 + x * 2) [iv s.1] = layA { A with g := upd2 A.g w x (s.1, (A.g w x).2) } := by
    refine layA_put (by omega) fun c hc => ?_
    unfold upd layR upd2
    by_cases e : c = 0 + 32 + w * 10 + x * 2
    · rw [if_pos e, if_neg (by omega), if_neg (by omega), if_pos (by omega), if_pos (by omega)]; simp only; rw [if_pos (by omega)]
    · rw [if_neg e]
      simp only
      by_cases h : 32 ≤ c ∧ c < 342
      · by_cases h2 : (c - 32) / 10 = w ∧ (c - 32) / 2 % 5 = x
        · have h3 : ¬ (c - 32) % 2 = 0 := by omega
          rw [if_pos h2, if_neg h3, if_neg h3, h2.1, h2.2]
        · rw [if_neg h2]
      · repeat' split
        all_goals first | rfl | omega
  rw [h1]
  refine layA_put (by omega) fun c hc => ?_
  unfold upd layR upd2
  by_cases e : c = 0 + 32 + w * 10 + x * 2 + 1
  · rw [if_pos e, if_neg (by omega), if_neg (by omega), if_pos (by omega), if_neg (by omega)]; simp only; rw [if_pos (by omega)]
  · rw [if_neg e]
    simp only
    by_cases h : 32 ≤ c ∧ c < 342
    · by_cases h2 : (c - 32) / 10 = w ∧ (c - 32) / 2 % 5 = x
      · have h3 : (c - 32) % 2 = 0 := by omega
        rw [if_pos h2, if_pos h2, if_pos h3, if_pos h3]
      · rw [if_neg h2, if_neg h2]
    · repeat' split
      all_goals first | rfl | omega
end Go.Proofs.Tryd
