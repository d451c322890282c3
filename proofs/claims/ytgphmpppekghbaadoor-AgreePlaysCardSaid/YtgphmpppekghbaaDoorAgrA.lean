/- The group that the statement sets beside: Settle. -/
import Derived.Test.YtgphmpppekghbaaDoorAgr9
namespace Go.Proofs.Tryd
open Go.Sl
set_option maxHeartbeats 2000000
attribute [local irreducible] Go.wpList Go.Code.wp Go.wpQuiet PO PQ AnyH layA
variable {w0 : World} {H R : HProp} {S S' : AS} {i : Nat} {A A' : RA}
theorem RefOk.know (h : RefOk S A) {wn n : Nat} : RefOk (knowA S n wn) { A with knew := upd2 A.knew wn n true, most := upd1 A.most n (max (S.most n) (final S wn).1) } where
  n := h.n
  was := h.was
  has := h.has
  knew w hw x hx := by
    simp only [knowA, upd2]
    by_cases e : w = wn ∧ x = n
    · rw [if_pos e, if_pos (by omega)]
    · rw [if_neg e, if_neg (by omega), h.knew w hw x hx]
  most x hx := by
    simp only [knowA, upd1]
    by_cases e : x = n
    · rw [if_pos e, if_pos (by omega)]
    · rw [if_neg e, if_neg (by omega), h.most x hx]
  g := h.g
theorem RefOk.heard (h : RefOk S A) {x : Int} {out : List Int} {hv : Nat → Value} : RefOk (heardA S x out) { A with hv := hv } := ⟨h.n, h.was, h.has, h.knew, h.most, h.g⟩
theorem RefOk.heard' {x : Int} {out out' : List Int} (h : RefOk (heardA S x out) A) {hv : Nat → Value} : RefOk (heardA S x out') { A with hv := hv } := ⟨h.n, h.was, h.has, h.knew, h.most, h.g⟩
abbrev hears (S : AS) (A : RA) : HProp := sepL (fun x : Nat => ints (A.hv x) 3 (S.heard x)) (List.range 5)
theorem hears_put {x : Nat} (hx : x < 5) {out : List Int} {b : Int} {v : Value} :
    Ent (ints v 3 ((heardA S x out).heard x ++ [b]) * sepL (fun y : Nat => ints (A.hv y) 3 ((heardA S x out).heard y)) ((List.range 5).erase x)) (hears (heardA S x (out ++ [b])) { A with hv := upd1 A.hv x v }) := by
  have h := sepL_putN (P := fun y : Nat => ints (A.hv y) 3 ((heardA S x out).heard y)) (P' := fun y : Nat => ints (upd1 A.hv x v y) 3 ((heardA S x (out ++ [b])).heard y)) (List.mem_range.2 hx) (fun y hy => by
    have hne : y ≠ x := fun e => by
      rw [e] at hy
      exact absurd hy (by rw [List.nodup_range.mem_erase_iff]; simp)
    have hne2 : ¬ (y : Int) = x := by omega
    simp only [upd1, heardA]; rw [if_neg hne, if_neg hne2, if_neg hne2])
  have e1 : ints (upd1 A.hv x v x) 3 ((heardA S x (out ++ [b])).heard x) = ints v 3 ((heardA S x out).heard x ++ [b]) := by simp [upd1, heardA]
  rw [e1] at h
  exact h
/-- The least of those below 'wd'. -/
def Bst (S : AS) (x : Int) (wd : Nat) (bst : Int) (m : Stp) : Prop :=
  (bst = 0 ∧ ∀ y : Int, y < wd → waitS S x y = false) ∨ (bst ≠ 0 ∧ waitS S x bst = true ∧ m = tS S x bst ∧ ∀ y : Int, y < wd → waitS S x y = true → lessS (tS S x y) (tS S x bst) = false)
theorem Bst.skip {x bst : Int} {wd : Nat} {m : Stp} (h : Bst S x wd bst m) (hn : waitS S x wd = false) : Bst S x (wd + 1) bst m := by
  rcases h with ⟨h0, h1⟩ | ⟨h0, h1, h2, h3⟩
  · refine .inl ⟨h0, fun y hy => ?_⟩
    by_cases e : y = wd
    · rw [e]; exact hn
    · exact h1 y (by omega)
  · refine .inr ⟨h0, h1, h2, fun y hy hw => ?_⟩
    by_cases e : y = wd
    · rw [e, hn] at hw; cases hw
    · exact h3 y (by omega) hw
theorem Bst.take {x bst : Int} {wd : Nat} {m : Stp} (h : Bst S x wd bst m) (hw : waitS S x wd = true) (h0 : wd ≠ 0) (hl : bst = 0 ∨ lessS (tS S x wd) m = true) : Bst S x (wd + 1) wd (tS S x wd) := by
  refine .inr ⟨by omega, hw, rfl, fun y hy hyw => ?_⟩
  by_cases e : y = wd
  · rw [e]; exact lessS_refl _
  · rcases h with ⟨_, h1⟩ | ⟨k0, _, k2, k3⟩
    · rw [h1 y (by omega)] at hyw; cases hyw
    · rcases hl with g | g
      · exact absurd g k0
      · rw [k2] at g
        exact lessS_trans (k3 y (by omega) hyw) (lessS_lt g)
theorem Bst.keep {x bst : Int} {wd : Nat} {m : Stp} (h : Bst S x wd bst m) (h0 : bst ≠ 0) (hl : lessS (tS S x wd) m = false) : Bst S x (wd + 1) bst m := by
  rcases h with ⟨g, _⟩ | ⟨_, h1, h2, h3⟩
  · exact absurd g h0
  · refine .inr ⟨h0, h1, h2, fun y hy hw => ?_⟩
    by_cases e : y = wd
    · rw [e, ← h2]; exact hl
    · exact h3 y (by omega) hw
theorem Bst.done {x bst : Int} {m : Stp} (hS : AInv S i) (h : Bst S x 31 bst m) : best S x = bst := by
  have hr : ∀ y, waitS S x y = true → y < (31 : Nat) := fun y hy => by have := hS.word (waitS_iff.1 hy).1; omega
  rcases h with ⟨rfl, h1⟩ | ⟨h0, h1, _, h3⟩
  · refine best_none fun y => ?_
    cases hy : waitS S x y
    · rfl
    · rw [h1 y (hr y hy)] at hy; cases hy
  · exact hS.best_of h0 h1 fun y hy => h3 y (hr y hy) hy
end Go.Proofs.Tryd
