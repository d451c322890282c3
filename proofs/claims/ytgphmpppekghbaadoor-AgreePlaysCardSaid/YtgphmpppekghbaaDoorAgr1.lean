/- Package agree: what a group is in memory; the small functions. -/
import Derived.Test.YtgphmpppekghbaaDoorAgr0
import Derived.Test.YtgphmpppekghbaaDoorCom

namespace Go.Proofs.Tryd
open Go.Sl
set_option maxHeartbeats 400000
attribute [local irreducible] Go.wpList Go.Code.wp Go.wpQuiet PO PQ AnyH
variable {w0 : World} {H R : HProp} {S : AS}
abbrev encS : Stp → List Value := fun s => [iv s.1, iv s.2]
theorem encS_ok : Enc 2 encS := ⟨fun _ => rfl, fun x v h => by simp at h; rcases h with rfl | rfl <;> rfl⟩
abbrev encP : Nat → List Value := fun b => [.pointer (some ⟨b, 0, none⟩)]
theorem encP_ok : Enc 1 encP := ⟨fun _ => rfl, fun x v h => by simp at h; subst h; rfl⟩
abbrev stV (s : Stp) : Value := .agg #[iv s.1, iv s.2]
noncomputable def wtV (S : AS) (x w : Int) : Value := .agg #[iv (tS S x w).1, iv (tS S x w).2, .bool (S.knew w x)]
noncomputable def mwt (S : AS) (x : Int) : Int → Option Value := fun w => if waitS S x w then some (wtV S x w) else none
def mkn (S : AS) (x : Int) : Int → Option Value := fun w => if S.knew w x then some (.bool true) else none
/-- A member at 'b': what it knows, what it heard, its maps. -/
def memQ (most : Int) (heard : List Int) (wt kn : Int → Option Value) (b : Nat) : HProp :=
  ex fun hv : Value => ex fun bw : Nat => ex fun bk : Nat => ex fun w : List (Int × Value) => ex fun k : List (Int × Value) =>
    pur ((∀ x, mget w x = wt x) ∧ ∀ x, mget k x = kn x) * (cels b [iv most, .map (some bw), .map (some bk), hv] 148 * (ints hv 3 heard * (omap encK bw w * omap encK bk k)))
noncomputable def memP (S : AS) (x : Int) (b : Nat) : HProp := memQ (S.most x) (S.heard x) (mwt S x) (mkn S x) b
theorem memP_open {n : Nat} {env : Env} {φ : Act → World → Prop} {x : Int} {b : Nat} (h : ∀ hv bw bk w k, (∀ y, mget w y = mwt S x y) → (∀ y, mget k y = mkn S x y) →
    PO w0 n env (cels b [iv (S.most x), .map (some bw), .map (some bk), hv] 148 * (ints hv 3 (S.heard x) * (omap encK bw w * omap encK bk k)) * R) φ) : PO w0 n env (memP S x b * R) φ := by
  refine PO.ex_star fun hv => PO.ex_star fun bw => PO.ex_star fun bk => PO.ex_star fun w => PO.ex_star fun k => ?_
  exact PO.ent (Ent.assoc _ _ _) (PO.pur fun hp => h hv bw bk w k hp.1 hp.2)
theorem memP_close {R' : HProp} (S : AS) (x : Int) (b : Nat) (hv : Value) (bw bk : Nat) (w k : List (Int × Value)) (h1 : ∀ y, mget w y = mwt S x y) (h2 : ∀ y, mget k y = mkn S x y) {m : Int} {l : List Int} (hm : S.most x = m) (hh : S.heard x = l)
    [f : Sl.Frame H (cels b [iv m, .map (some bw), .map (some bk), hv] 148 * (ints hv 3 l * (omap encK bw w * omap encK bk k))) R'] (hR : Ent R' R := by first | exact Ent.refl _ | exact Ent.right _ _ | exact Ent.fr) : Ent H (memP S x b * R) := by
  subst hm hh
  exact f.ent.trans (Ent.star (fun _ hh => ⟨hv, bw, bk, w, k, Ent.star_pur _ ⟨h1, h2⟩ _ hh⟩) hR)
structure AgrOk (S : AS) (G : OM Int (List Stp)) (Wh : OM Int (List Int)) : Prop where
  was : ∀ w, (oget G w).isSome = S.was w
  ord : ∀ w, oxs G w = (oxs Wh w).map fun x => (S.gN w x, x)
  nod : ∀ w, (oxs Wh w).Nodup
  mem : ∀ w x, x ∈ oxs Wh w ↔ S.has w x = true
abbrev paySt : Value → List Stp → HProp := fun v xs => osl 64 2 encS v xs
noncomputable def mems (S : AS) (mb : Nat → Nat) : HProp := sepL (fun x : Nat => memP S x (mb x)) (List.range S.n)
noncomputable def agrP (b : Nat) (S : AS) : HProp :=
  ex fun mv : Value => ex fun bg : Nat => ex fun bh : Nat => ex fun mb : Nat → Nat => ex fun G : OM Int (List Stp) => ex fun Wh : OM Int (List Int) =>
    pur (AgrOk S G Wh) * (cels b [mv, .map (some bg), .map (some bh)] 143 * (osl 144 1 encP mv ((List.range S.n).map mb) * (omap encK bg (omv G) * (pays paySt G * (omap encK bh (omv Wh) * (pays payI Wh * mems S mb))))))
theorem agrP_open {n : Nat} {env : Env} {φ : Act → World → Prop} {b : Nat} (h : ∀ mv bg bh mb G Wh, AgrOk S G Wh →
    PO w0 n env (cels b [mv, .map (some bg), .map (some bh)] 143 * (osl 144 1 encP mv ((List.range S.n).map mb) * (omap encK bg (omv G) * (pays paySt G * (omap encK bh (omv Wh) * (pays payI Wh * mems S mb))))) * R) φ) : PO w0 n env (agrP b S * R) φ := by
  refine PO.ex_star fun mv => PO.ex_star fun bg => PO.ex_star fun bh => PO.ex_star fun mb => PO.ex_star fun G => PO.ex_star fun Wh => ?_
  exact PO.ent (Ent.assoc _ _ _) (PO.pur fun hp => h mv bg bh mb G Wh hp)
theorem agrP_close {R' : HProp} (b : Nat) (S : AS) (mv : Value) (bg bh m : Nat) (mb : Nat → Nat) (G : OM Int (List Stp)) (Wh : OM Int (List Int)) (h : AgrOk S G Wh) (hm : S.n = m) {M : HProp} (hM : mems S mb = M)
    [f : Sl.Frame H (cels b [mv, .map (some bg), .map (some bh)] 143 * (osl 144 1 encP mv ((List.range m).map mb) * (omap encK bg (omv G) * (pays paySt G * (omap encK bh (omv Wh) * (pays payI Wh * M)))))) R'] (hR : Ent R' R := by first | exact Ent.refl _ | exact Ent.right _ _ | exact Ent.fr) : Ent H (agrP b S * R) := by
  subst hm hM
  exact f.ent.trans (Ent.star (fun _ hh => ⟨mv, bg, bh, mb, G, Wh, Ent.star_pur _ h _ hh⟩) hR)

/-! ### The small functions -/
theorem word_r (n : Int) : RSpec prog w0 72 [iv n] H (.bool (decide (1 ≤ n) && decide (n ≤ 30))) := by
  refine RSpec.intro (n := 9) func72 rfl rfl rfl (by kernel_rfl) ?_
  refine go ?_
  refine PO.gsplit rfl rfl rfl rfl (fun h => ?_) (fun h => ?_)
  · refine go ?_
    exact PO.returnR rfl rfl (by simp [packed, h])
  · refine go ?_
    exact PO.returnR rfl rfl (by simp [packed, h])
theorem isNaN_r (n : Int) : RSpec prog w0 132 [iv n] H (.bool false) := by
  refine RSpec.intro (n := 6) func132 rfl rfl rfl (by kernel_rfl) ?_
  refine go ?_
  exact PO.returnR rfl rfl (by simp [packed])
def cmpI (a b : Int) : Int := if a < b then -1 else if b < a then 1 else 0
theorem compare_r (a b : Int) : RSpec prog w0 105 [iv a, iv b] H (iv (cmpI a b)) := by
  refine RSpec.intro (n := 20) func105 rfl rfl rfl (by kernel_rfl) ?_
  refine go ?_
  refine PO.callr rfl (isNaN_r a) rfl ?_
  refine go ?_
  refine PO.callr rfl (isNaN_r b) rfl ?_
  refine go ?_
  refine PO.csplit rfl (fun h => ?_) (fun h => ?_)
  · refine go ?_
    exact PO.returnR rfl rfl (by unfold cmpI; rw [if_pos (of_decide_eq_true h)]; rfl)
  · refine go ?_
    refine PO.csplit rfl (fun h2 => ?_) (fun h2 => ?_)
    · refine go ?_
      exact PO.returnR rfl rfl (by unfold cmpI; rw [if_neg (of_decide_eq_false h), if_pos (of_decide_eq_true h2)]; rfl)
    · refine go ?_
      exact PO.returnR rfl rfl (by unfold cmpI; rw [if_neg (of_decide_eq_false h), if_neg (of_decide_eq_false h2)]; rfl)
def orI (xs : List Int) : Int := (xs.find? fun x => decide (x ≠ 0)).getD 0
theorem or_r (s : Value) (xs : List Int) (hs : Ints w0 H s xs) (hl : xs.length < 4611686018427387904) : RSpec prog w0 104 [s] H (iv (orI xs)) := by
  obtain ⟨p, c, rfl⟩ := hs.shape
  refine RSpec.intro (n := 18) func104 rfl rfl rfl (by kernel_rfl) ?_
  refine go ?_
  refine PO.while (fun j : Nat => j ≤ xs.length ∧ ∀ y ∈ xs.take j, y = 0) (fun j => [(3, iv 0), (6, .slice p xs.length c), (7, iv xs.length), (8, iv j)]) (fun _ => H) (fun j => xs.length - j) 0 ⟨Nat.zero_le _, by simp⟩ (Ent.refl _) ?_
  rintro j ⟨hj, hno⟩
  refine go ?_
  refine PO.csplit rfl (fun h => ?_) (fun h => ?_)
  · have hlt : j < xs.length := by simpa using h
    obtain ⟨b, o, rfl, hcell⟩ := hs.cell1 (j := j) (x := xs[j]) (by simp [hlt])
    refine go ?_
    refine PO.o rfl (OpV.loadH rfl rfl rfl rfl hcell) ?_
    refine go ?_
    refine PO.csplit rfl (fun h => ?_) (fun h => ?_)
    · refine go ?_
      have hne : xs[j] ≠ 0 := of_decide_eq_true h
      have : orI xs = xs[j] := by
        unfold orI
        rw [List.find?_eq_some_iff_getElem.2 ⟨by simpa using hne, j, hlt, rfl, fun i hi => ?_⟩]
        · rfl
        · have := hno xs[i] (List.mem_take_iff_getElem.2 ⟨i, by omega, rfl⟩)
          simp [this]
      exact PO.returnR rfl rfl (by rw [this]; rfl)
    · refine go ?_
      refine PO.again (j + 1) ⟨by omega, fun y hy => ?_⟩ (by omega) (Ent.refl _)
      rw [List.take_succ_eq_append_getElem hlt] at hy
      rcases List.mem_append.1 hy with hy | hy
      · exact hno y hy
      · have h1 : ¬ xs[j] ≠ 0 := of_decide_eq_false h
        simp at hy; subst hy; omega
  · have hge : j = xs.length := by have := of_decide_eq_false h; omega
    refine go ?_
    have : orI xs = 0 := by
      unfold orI
      rw [hge, List.take_length] at hno
      rw [List.find?_eq_none.2 fun y hy => by simp [hno y hy]]; rfl
    exact PO.returnR rfl rfl (by rw [this]; rfl)
theorem or_less (a b : Stp) : decide (orI [cmpI a.1 b.1, cmpI a.2 b.2] < 0) = lessS a b := by
  unfold orI cmpI lessS
  simp only [List.find?_cons, List.find?_nil]
  by_cases h1 : a.1 < b.1
  · simp [h1]
  · by_cases h2 : b.1 < a.1
    · have : ¬ a.1 = b.1 := by omega
      simp [h1, h2, this]
    · have : a.1 = b.1 := by omega
      by_cases h3 : a.2 < b.2
      · simp [this, h3]
      · by_cases h4 : b.2 < a.2
        · simp [this, h3, h4]
        · simp [this, h3, h4]
theorem less_r (a b : Stp) : RSpec prog w0 79 [stV a, stV b] H (.bool (lessS a b)) := by
  refine RSpec.intro (n := 18) func79 rfl rfl rfl (by kernel_rfl) ?_
  refine go fun b2 => ?_
  refine go fun b3 => ?_
  refine go ?_
  refine PO.regionF emp (by kernel_rfl) ?_
  refine tk 0 ?_
  refine tk 1 ?_
  refine tk 2 ?_
  refine tk 3 ?_
  refine tk 5 ?_
  refine tk 6 ?_
  refine tk 7 ?_
  refine tk 8 ?_
  refine PO.any [4] (by kernel_rfl) (by simp) (OneOf.cons rfl ?_ OneOf.nil)
  refine PO.callr rfl (compare_r a.1 b.1) rfl ?_
  refine PO.kept (Ent.right _ _) ?_
  refine PO.any [9] (by kernel_rfl) (by simp) (OneOf.cons rfl ?_ OneOf.nil)
  refine PO.callr rfl (compare_r a.2 b.2) rfl ?_
  refine PO.kept (Ent.right _ _) ?_
  refine PO.any [10] (by kernel_rfl) (by simp) (OneOf.cons rfl ?_ OneOf.nil)
  refine PO.buildSlice (cs := [iv (cmpI a.1 b.1), iv (cmpI a.2 b.2)]) rfl rfl rfl rfl rfl rfl rfl rfl rfl rfl rfl rfl fun bs => ?_
  refine PO.kept Ent.fr ?_
  refine PO.any [11] (by kernel_rfl) (by simp) (OneOf.cons rfl ?_ OneOf.nil)
  refine PO.callr rfl (or_r (.slice (some ⟨bs, 0, none⟩) 2 2) [cmpI a.1 b.1, cmpI a.2 b.2] (Elems.ofBlk (b := bs) encI_ok rfl rfl) (by simp)) rfl ?_
  refine PO.kept Ent.fr ?_
  refine tk 12 ?_
  refine tk 13 ?_
  refine PO.anyDone (by kernel_rfl) ?_
  refine go ?_
  exact PO.returnRE rfl rfl (by rw [← or_less]; rfl) Ent.fr
end Go.Proofs.Tryd
