/- Package picture: Begin, Gold, OnWay, New. -/
import Derived.Test.YtgphmpppekghbaaDoorPic5
namespace Go.Proofs.Tryd
open Go.Sl
set_option maxHeartbeats 400000
attribute [local irreducible] Go.wpList Go.Code.wp Go.wpQuiet PO PQ AnyH
variable {w0 : World} {H R : HProp}
def beginS (S : PS) (who : Int) : PS × Int :=
  if ¬ (0 ≤ who ∧ who < S.gold.length) then (S, 1) else if S.begun then (S, 6) else (writeS { S with begun := true } who S.gold.length, 0)
theorem PicOk.begin {S : PS} {W : OM (Int × Int) (List Int)} {wr : List (Int × Value)} {op : List ((Int × Int) × Value)} (h : PicOk S W wr op) (b : Bool) : PicOk { S with begun := b } W wr op := ⟨h.way, h.wrote, h.opn⟩
theorem begin_h (b : Nat) (S : PS) (who : Int) (i : Nat) (hi : i ≤ 200) (hS : Inv S i) :
    HSpec prog w0 17 [ptr b, iv who] (picP b S) (fun v => pur (v = errV (beginS S who).2) * picP b (beginS S who).1) := by
  refine HSpec.intro (n := 23) func17 rfl rfl rfl (by kernel_rfl) fun R => ?_
  refine picP_open fun gv bw bwr bo W wr op hok => ?_
  refine PO.osl_some (v := gv) (by have := hS.n2; omega) fun gb go_ gc hgv hgc => ?_
  subst hgv
  refine go ?_
  refine PO.callr rfl (has_r b who (p := some ⟨gb, go_, none⟩) (m := S.gold.length) (c := gc) rfl) rfl ?_
  refine go ?_
  refine PO.csplit rfl (fun h => ?_) (fun h => ?_)
  · refine go ?_
    have hb : beginS S who = (S, 1) := by unfold beginS; rw [if_pos]; simp at h; omega
    refine PO.return_ rfl rfl (Ent.purL ?_ ?_)
    · rw [hb]; rfl
    · rw [hb]; exact picP_close b S (.slice (some ⟨gb, go_, none⟩) S.gold.length gc) bw bwr bo W wr op S.gold S.begun S.onWay hok rfl rfl rfl
  · have hin : 0 ≤ who ∧ who < S.gold.length := by simp at h; omega
    cases hB : S.begun
    · have hb : beginS S who = (writeS { S with begun := true } who S.gold.length, 0) := by unfold beginS; rw [if_neg (fun g => g hin), if_neg (by simp [hB])]
      refine go ?_
      refine PO.ent (picP_close b { S with begun := true } (.slice (some ⟨gb, go_, none⟩) S.gold.length gc) bw bwr bo W wr op S.gold true S.onWay (hok.begin true) rfl rfl rfl) ?_
      refine PO.callh rfl (write_h b { S with begun := true } who hin.1 hin.2 (hS.part0 who (hS.begun hB who)) (fun f t => by have := hS.len f t; simp only; omega) (by have := hS.n5; simp only; omega)) rfl fun v => ?_
      refine go ?_
      refine PO.return_end rfl rfl (Ent.purL ?_ ?_)
      · rw [hb]; rfl
      · rw [hb]; exact Ent.refl _
    · have hb : beginS S who = (S, 6) := by unfold beginS; rw [if_neg (fun g => g hin), if_pos hB]
      refine go ?_
      refine PO.return_ rfl rfl (Ent.purL ?_ ?_)
      · rw [hb]; rfl
      · rw [hb]; exact picP_close b S (.slice (some ⟨gb, go_, none⟩) S.gold.length gc) bw bwr bo W wr op S.gold true S.onWay hok rfl hB rfl
def goldS (S : PS) (who : Int) : Int × Int := if 0 ≤ who ∧ who < S.gold.length then (S.gold.getD who.toNat 0, 0) else (0, 1)
theorem gold_h (b : Nat) (S : PS) (who : Int) (i : Nat) (hS : Inv S i) :
    HSpec prog w0 18 [ptr b, iv who] (picP b S) (fun v => pur (v = .tuple #[iv (goldS S who).1, errV (goldS S who).2]) * picP b S) := by
  refine HSpec.intro (n := 18) func18 rfl rfl rfl (by kernel_rfl) fun R => ?_
  refine picP_open fun gv bw bwr bo W wr op hok => ?_
  refine PO.osl_some (v := gv) (by have := hS.n2; omega) fun gb go_ gc hgv hgc => ?_
  subst hgv
  refine go ?_
  refine PO.callr rfl (has_r b who (p := some ⟨gb, go_, none⟩) (m := S.gold.length) (c := gc) rfl) rfl ?_
  refine go ?_
  refine PO.csplit rfl (fun h => ?_) (fun h => ?_)
  · refine go ?_
    refine PO.return_ rfl rfl (Ent.purL ?_ ?_)
    · unfold goldS; rw [if_neg (by simp at h; omega)]; rfl
    · exact picP_close b S (.slice (some ⟨gb, go_, none⟩) S.gold.length gc) bw bwr bo W wr op S.gold S.begun S.onWay hok rfl rfl rfl
  · have hin : 0 ≤ who ∧ who < S.gold.length := by simp at h; omega
    obtain ⟨n, rfl⟩ := Int.eq_ofNat_of_zero_le hin.1
    have hn : n < S.gold.length := by omega
    refine PO.rd (v := .slice (some ⟨gb, go_, none⟩) S.gold.length gc) encI_ok fun hel => ?_
    obtain ⟨_, _, hq, hcell⟩ := hel.cell1 (j := n) (x := S.gold[n]) (by simp [hn])
    simp only [Option.some.injEq, Addr.mk.injEq, and_true] at hq
    obtain ⟨rfl, rfl⟩ := hq
    refine go ?_
    refine PO.o rfl (OpV.loadF hcell rfl rfl rfl rfl) ?_
    refine go ?_
    refine PO.return_ rfl rfl (Ent.purL ?_ ?_)
    · unfold goldS; rw [if_pos hin]; simp only [packed, Int.toNat_natCast]; simp [hn]; rfl
    · exact picP_close b S (.slice (some ⟨gb, go_, none⟩) S.gold.length gc) bw bwr bo W wr op S.gold S.begun S.onWay hok rfl rfl rfl
theorem PO.wayRd {n : Nat} {env : Env} {φ : Act → World → Prop} {W : OM (Int × Int) (List Int)} (q : Int × Int) {xs : List Int} (hx : oxs W q = xs) [f : Sl.Frame H (pays payI W) R]
    (h : ∀ u, (mget (omv W) q).getD nilS = u → Ints w0 (pays payI W) u xs → PO w0 n env H φ) : PO w0 n env H φ := by
  refine PO.holds fun w hw => ?_
  subst hx
  have hw2 := (hw.ent f.ent).ent (Ent.left _ _)
  refine h _ rfl ?_
  have e := pays_way (T := 3) (k := 1) (enc := encI) (W := W) q
  have e1 := (hw2.ent e).ent (Ent.left _ _)
  have key : PO w0 0 [] (ints ((mget (omv W) q).getD nilS) 3 (oxs W q)) (fun _ _ => Ints w0 (ints ((mget (omv W) q).getD nilS) 3 (oxs W q)) ((mget (omv W) q).getD nilS) (oxs W q)) := by
    refine PO.rd (v := (mget (omv W) q).getD nilS) encI_ok fun hel => ?_
    unfold PO
    exact fun _ _ _ _ => hel
  unfold PO at key
  exact (key ⟨#[], []⟩ w ⟨rfl, rfl, fun t v ht => by cases ht⟩ e1).ent (e.trans (Ent.left _ _))
theorem onWay_h (b : Nat) (S : PS) (f t : Int) (i : Nat) (hi : i ≤ 200) (hS : Inv S i) :
    HSpec prog w0 19 [ptr b, iv f, iv t] (picP b S) (fun v => (ex fun u : Value => pur (v = .tuple #[u, errV (wayE S.gold.length f t)]) * ints u 3 (if wayE S.gold.length f t = 0 then S.ways f t else [])) * picP b S) := by
  refine HSpec.intro (n := 26) func19 rfl rfl rfl (by kernel_rfl) fun R => ?_
  refine picP_open fun gv bw bwr bo W wr op hok => ?_
  refine PO.osl_some (v := gv) (by have := hS.n2; omega) fun gb go_ gc hgv hgc => ?_
  subst hgv
  refine go fun bx => ?_
  refine go ?_
  refine PO.callr rfl (check_r b f t (p := some ⟨gb, go_, none⟩) (m := S.gold.length) (c := gc) rfl) rfl ?_
  by_cases he : wayE S.gold.length f t = 0
  · rw [he, if_pos rfl]
    have hway := hok.way f t
    refine PO.wayRd (f, t) hway fun u hu hel => ?_
    refine go ?_
    refine PO.regionF emp (by kernel_rfl) ?_
    refine tk 0 ?_
    refine tk 1 ?_
    refine tk 2 ?_
    refine tk 3 ?_
    refine tk 4 ?_
    refine tk 5 (hv := OpV.lookup1 (k := (f, t)) (enc := enc2) rfl rfl rfl rfl rfl rfl way_key hu) ?_
    refine PO.any [6] (by kernel_rfl) (by simp) (OneOf.cons rfl ?_ OneOf.nil)
    refine PO.callm rfl (clone_m u (S.ways f t) (hel.ent Ent.fr) (by have := hS.len f t; omega)) rfl fun v => ?_
    refine PO.kept Ent.fr ?_
    refine tk 7 ?_
    refine tk 8 ?_
    refine PO.anyDone (by kernel_rfl) ?_
    refine go ?_
    refine PO.return_ rfl rfl ?_
    refine (Ent.star (Ent.refl (ints v 3 (S.ways f t))) (picP_close (R := R) b S (.slice (some ⟨gb, go_, none⟩) S.gold.length gc) bw bwr bo W wr op S.gold S.begun S.onWay hok rfl rfl rfl)).trans ((Ent.assoc' _ _ _).trans (Ent.star (Ent.star (fun h hh => ⟨v, (Ent.frp rfl (Ent.refl _)) h hh⟩) (Ent.refl _)) (Ent.refl _)))
  · rw [errV_ne he, if_neg he]
    refine go ?_
    refine PO.return_ rfl rfl ?_
    refine (picP_close b S (.slice (some ⟨gb, go_, none⟩) S.gold.length gc) bw bwr bo W wr op S.gold S.begun S.onWay hok rfl rfl rfl).trans (Ent.star ((Ent.emp_star _).trans (Ent.star (fun h _ => ?_) (Ent.refl _))) (Ent.refl _))
    exact ⟨.slice none 0 0, (Ent.frp (H := emp) rfl osl_nil) h trivial⟩

/-! ### New -/
def picS (gold : List Int) : PS := { gold := gold, ways := fun _ _ => [], begun := false, has := fun _ => false, wrote := fun _ => 0, opn := fun _ _ => false, part := fun _ _ => 0, onWay := 0 }
def newE (gold : List Int) : Int := if ¬ (2 ≤ gold.length ∧ gold.length ≤ 5) ∨ gold.any (fun n => !(decide (0 ≤ n) && decide (n ≤ 1000))) = true then 1 else 0
theorem Ent.exI {α : Sort _} {A : HProp} {B : α → HProp} (x : α) (h : Ent A (B x)) : Ent A (ex B) := fun k e => ⟨x, h k e⟩
theorem PO.addPays {n : Nat} {env : Env} {φ : Act → World → Prop} (h : PO w0 n env (pays payI ([] : OM (Int × Int) (List Int)) * H) φ) : PO w0 n env H φ := PO.ent (Ent.emp_star _) h
theorem new_m (s : Value) (gold : List Int) (hs : Ints w0 H s gold) :
    MSpec prog w0 10 [s] H (fun v => ex fun p : Value => pur (v = .tuple #[p, errV (newE gold)]) * (if newE gold = 0 then ex fun b : Nat => pur (p = ptr b) * picP b (picS gold) else emp)) := by
  obtain ⟨q, c, rfl⟩ := hs.shape
  refine MSpec.intro (n := 20) func10 rfl rfl rfl (by kernel_rfl) ?_
  refine go ?_
  refine PO.callr rfl (group_r gold.length) rfl ?_
  refine go ?_
  refine PO.gsplit rfl rfl rfl rfl (fun h1 => ?_) (fun h1 => ?_)
  · have hl5 : gold.length ≤ 5 := by simp at h1; omega
    refine go ?_
    refine PO.callr rfl (containsFunc_r (.slice q gold.length c) gold (caps := []) hs (by omega) (fun x _ => new1_r x)) rfl ?_
    refine go ?_
    refine PO.csplit rfl (fun h2 => ?_) (fun h2 => ?_)
    · have he : newE gold = 1 := by unfold newE; rw [if_pos (.inr h2)]
      refine go ?_
      refine PO.return_ rfl rfl ?_
      rw [he]
      exact (Ent.emp_star _).trans (Ent.star (fun h hh => ⟨_, (Ent.frp rfl (Ent.refl _)) h hh⟩) (Ent.refl _))
    · have he : newE gold = 0 := by unfold newE; rw [if_neg]; simp only [h2]; simp at h1 ⊢; omega
      refine go ?_
      refine PO.callm rfl (clone_m (.slice q gold.length c) gold hs (by omega)) rfl fun v => ?_
      refine PO.osl_shape (v := v) fun q2 c2 hv _ _ => ?_
      subst hv
      refine go ?_
      refine PO.makeMap rfl rfl rfl enc2 fun bw => ?_
      refine PO.makeMap rfl rfl rfl encK fun bwr => ?_
      refine PO.makeMap rfl rfl rfl enc2 fun bo => ?_
      refine go fun b => ?_
      refine go ?_
      refine PO.addPays ?_
      refine PO.fold (A := omap enc2 bw []) (B := omap enc2 bw (omv ([] : OM (Int × Int) (List Int)))) (Ent.refl _) ?_
      refine PO.return_ rfl rfl ?_
      simp only [he, if_true]
      refine (picP_close (R := H) b (picS gold) (.slice q2 gold.length c2) bw bwr bo [] [] [] gold false 0 ⟨fun _ _ => rfl, fun _ => rfl, fun _ _ => rfl⟩ rfl rfl rfl).trans (Ent.star (Ent.exI (ptr b) (Ent.frp rfl (Ent.exI b (Ent.frp rfl (Ent.refl _))))) (Ent.refl _))
  · have he : newE gold = 1 := by unfold newE; rw [if_pos]; left; simp at h1; omega
    refine go ?_
    refine PO.return_ rfl rfl ?_
    rw [he]
    exact (Ent.emp_star _).trans (Ent.star (fun h hh => ⟨_, (Ent.frp rfl (Ent.refl _)) h hh⟩) (Ent.refl _))
end Go.Proofs.Tryd
