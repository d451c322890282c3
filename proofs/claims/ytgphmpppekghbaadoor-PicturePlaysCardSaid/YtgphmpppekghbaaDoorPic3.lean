/- Package picture: mark, Come, Pay, Begin, Gold, OnWay. -/
import Derived.Test.YtgphmpppekghbaaDoorPic2
namespace Go.Proofs.Tryd
open Go.Sl
set_option maxHeartbeats 400000
attribute [local irreducible] Go.wpList Go.Code.wp Go.wpQuiet PO PQ AnyH
variable {w0 : World} {H R : HProp}
theorem PicOk.unopen {S : PS} {W : OM (Int × Int) (List Int)} {wr : List (Int × Value)} {op : List ((Int × Int) × Value)} (h : PicOk S W wr op) (hn : (op.map (·.1)).Nodup) (f t ow : Int) :
    PicOk { S with opn := fun x y => if x = f ∧ y = t then false else S.opn x y, onWay := ow } W wr (mdel op (f, t)) where
  way := h.way
  wrote := h.wrote
  opn x y := by
    rw [mget_mdel hn]
    by_cases e : x = f ∧ y = t
    · rw [if_pos (by rw [e.1, e.2])]; simp only; rw [if_pos e]; rfl
    · rw [if_neg (fun g => e (by simpa [eq_comm] using g)), h.opn]; simp only; rw [if_neg e]
theorem mark_h (b : Nat) (S : PS) (f t : Int) (ht : 0 ≤ t ∧ t < S.gold.length) (hf : 0 ≤ f ∧ f < S.gold.length) (hne : f ≠ t) (hp : S.has t = false → ∀ x, S.part x t = 0) (ho : S.has t = true → S.opn f t = true)
    (hl : ∀ f t, (S.ways f t).length ≤ 1000) (hn : S.gold.length ≤ 1000) (hb : -9223372036854775808 ≤ S.onWay + S.part f t ∧ S.onWay + S.part f t ≤ 9223372036854775807) :
    HSpec prog w0 69 [ptr b, enc2 (f, t)] (picP b S) (fun _ => picP b (markS S f t)) := by
  refine HSpec.intro (n := 40) func69 rfl rfl rfl (by kernel_rfl) fun R => ?_
  refine picP_open fun gv bw bwr bo W wr op hok => ?_
  have hw := hok.wrote t
  refine go fun bx => ?_
  refine go ?_
  refine PO.regionQ (by kernel_rfl) (by kernel_rfl) ?_
  refine goQ ?_
  refine PQ.o rfl (OpV.lookup2 (k := t) (enc := encK) (c := S.has t) rfl rfl rfl rfl rfl rfl int_key rfl (by rw [hw]; cases S.has t <;> rfl)) ?_
  refine goQ ?_
  refine go ?_
  refine PO.mid (fun _ : Unit => True) (fun _ => [(0, ptr b), (3, ptr bx)]) (fun _ => picP b (if S.has t then S else writeS S t S.gold.length) * (cels bx [iv f, iv t] 135 * R)) ?_ (fun _ _ => ?_)
  · cases hS : S.has t
    · refine go ?_
      refine PO.ent (picP_close b S gv bw bwr bo W wr op S.gold S.begun S.onWay hok rfl rfl rfl) ?_
      refine PO.callh rfl (write_h b S t ht.1 ht.2 (hp hS) hl hn) rfl fun v => ?_
      refine go ?_
      exact PO.meet () trivial (Ent.refl _)
    · refine go ?_
      exact PO.meet () trivial (picP_close b S gv bw bwr bo W wr op S.gold S.begun S.onWay hok rfl rfl rfl)
  · have hS1 : (if S.has t then S else writeS S t S.gold.length).part f t = S.part f t := by split <;> rfl
    have hS2 : (if S.has t then S else writeS S t S.gold.length).onWay = S.onWay := by split <;> rfl
    have hS3 : (if S.has t then S else writeS S t S.gold.length).opn f t = true := by
      split
      · rename_i h; exact ho h
      · simp only [writeS]; rw [if_pos (by simp only [true_and]; omega)]
    show PO w0 40 _ _ (Code.wp prog _ _)
    unfold markS
    generalize (if S.has t then S else writeS S t S.gold.length) = S1 at hS1 hS2 hS3 ⊢
    refine picP_open fun gv bw bwr bo W wr op hok => ?_
    have hop := hok.opn f t
    rw [hS3] at hop
    have hov : (mget op (f, t)).getD (.int .i64 0) = iv (S1.part f t) := by rw [hop]; rfl
    rw [← hS1, ← hS2] at hb
    have he : ∀ x : Value, Ent (cels b [gv, .map (some bw), .bool S1.begun, .map (some bwr), .map (some bo), x] 132) (celo b [some gv, some (.map (some bw)), some (.bool S1.begun), some (.map (some bwr)), some (.map (some bo)), none] 132) := fun x => celo_of ⟨rfl, rfl, rfl, rfl, rfl, trivial⟩
    refine go ?_
    refine PO.regionO (cels b [gv, .map (some bw), .bool S1.begun, .map (some bwr), .map (some bo), iv S1.onWay] 132) (he _) (by kernel_rfl) ?_
    refine tkO 0 ?_ (Ent.star (he _) (Ent.refl _))
    refine tkO 1 ?_ (Ent.star (he _) (Ent.refl _))
    refine tkO 2 ?_ (Ent.star (he _) (Ent.refl _))
    refine tkO 4 ?_ (Ent.star (he _) (Ent.refl _))
    refine tkO 5 ?_ (Ent.star (he _) (Ent.refl _))
    refine tkO 6 ?_ (Ent.star (he _) (Ent.refl _))
    refine tkO 7 ?_ (Ent.star (he _) (Ent.refl _))
    refine tkO 8 ?_ (Ent.star (he _) (Ent.refl _))
    refine tkO 9 (hv := OpV.lookup1 (k := (f, t)) (enc := enc2) rfl rfl rfl rfl rfl rfl way_key hov) ?_ (Ent.star (he _) (Ent.refl _))
    refine PO.any [3] (by kernel_rfl) (by simp) (OneOf.cons rfl ?_ OneOf.nil)
    refine PO.o rfl (OpV.load rfl rfl rfl rfl rfl) ?_
    refine PO.kept (Ent.star (he _) (Ent.refl _)) ?_
    refine tkO 10 ?_ (Ent.star (he _) (Ent.refl _))
    refine tkO 11 ?_ (Ent.star (he _) (Ent.refl _))
    refine tkO 12 ?_ (Ent.star (he _) (Ent.refl _))
    refine PO.any [13] (by kernel_rfl) (by simp) (OneOf.cons rfl ?_ OneOf.nil)
    refine PO.store rfl rfl rfl rfl rfl rfl rfl rfl rfl ?_
    refine PO.kept (Ent.star (he _) (Ent.refl _)) ?_
    refine PO.anyDone (by kernel_rfl) ?_
    refine go ?_
    refine PO.nodup bo fun hnd => ?_
    refine PO.regionF (omap enc2 bo op) (by kernel_rfl) ?_
    refine tk 0 ?_
    refine tk 1 ?_
    refine tk 2 ?_
    refine tk 3 ?_
    refine tk 4 ?_
    refine PO.any [5] (by kernel_rfl) (by simp) (OneOf.cons rfl ?_ OneOf.nil)
    refine PO.delete (k := (f, t)) (enc := enc2) rfl rfl rfl rfl rfl way_key rfl ?_
    refine PO.kept Ent.fr ?_
    refine PO.anyDone (by kernel_rfl) ?_
    refine go ?_
    refine PO.return_end rfl rfl (picP_close b _ gv bw bwr bo W wr (mdel op (f, t)) S1.gold S1.begun (S1.onWay + S1.part f t) (hok.unopen hnd f t _) rfl rfl rfl)

/-! ### What holds all along -/
structure Inv (S : PS) (i : Nat) : Prop where
  n2 : 2 ≤ S.gold.length
  n5 : S.gold.length ≤ 5
  len : ∀ f t, (S.ways f t).length ≤ i
  gold : ∀ x ∈ S.gold, 0 ≤ x ∧ x ≤ 1000 * (i + 1)
  pay : ∀ f t, ∀ x ∈ S.ways f t, 0 ≤ x ∧ x ≤ 1000
  wrote : ∀ k, S.has k = true → 0 ≤ S.wrote k ∧ S.wrote k ≤ 1000 * (i + 1)
  part : ∀ f t, 0 ≤ S.part f t ∧ S.part f t ≤ 1000 * i
  onWay : 0 ≤ S.onWay ∧ S.onWay ≤ 1000000 * i
  hasr : ∀ k, S.has k = true → 0 ≤ k ∧ k < S.gold.length
  opnr : ∀ f t, S.opn f t = true → 0 ≤ f ∧ f < S.gold.length ∧ 0 ≤ t ∧ t < S.gold.length ∧ f ≠ t
  opnh : ∀ f t, S.opn f t = true → S.has t = true
  part0 : ∀ t, S.has t = false → ∀ f, S.part f t = 0
  mark : ∀ f t, 0 ∈ S.ways f t → S.has f = true ∧ (S.has t = true → S.opn f t = true)
  one : ∀ f t, (S.ways f t).count 0 ≤ 1
  wait : ∀ f t : Int, f ≠ t → 0 ≤ f → f < S.gold.length → S.has f = false → S.has t = true → S.opn f t = true
  begun : S.begun = false → ∀ k, S.has k = false
theorem wayE_0 {m f t : Int} (h : wayE m f t = 0) : 0 ≤ f ∧ f < m ∧ 0 ≤ t ∧ t < m ∧ f ≠ t := by
  unfold wayE at h
  split at h
  · cases h
  · split at h
    · cases h
    · rename_i h1 h2; simp at h1; omega

/-! ### Come -/
def comeS (S : PS) (f t : Int) : PS × Int × Int :=
  if wayE S.gold.length f t ≠ 0 then (S, 0, wayE S.gold.length f t)
  else match S.ways f t with
    | [] => (S, 0, 5)
    | n :: rest => if n = 0 then (markS (setWay S f t rest) f t, 0, 0)
      else ({ setWay S f t rest with gold := S.gold.set t.toNat (S.gold.getD t.toNat 0 + n), part := fun x y => if x = f ∧ y = t ∧ S.opn f t = true then S.part f t + n else S.part x y }, n, 0)
theorem PO.wayOut {n : Nat} {env : Env} {φ : Act → World → Prop} {W : OM (Int × Int) (List Int)} (q : Int × Int) {xs : List Int} (hx : oxs W q = xs) [f : Sl.Frame H (pays payI W) R]
    (h : ∀ u, (mget (omv W) q).getD nilS = u → PO w0 n env (ints u 3 xs * pays payI (odel W q) * R) φ) : PO w0 n env H φ := by
  subst hx
  exact PO.ent (f.ent.trans (Ent.star (pays_way (T := 3) (k := 1) (enc := encI) q) (Ent.refl _))) (h _ rfl)
theorem PicOk.parts {S : PS} {W : OM (Int × Int) (List Int)} {wr : List (Int × Value)} {op : List ((Int × Int) × Value)} (h : PicOk S W wr op) {f t x : Int} (ho : S.opn f t = true) (g : List Int) :
    PicOk { S with gold := g, part := fun a b => if a = f ∧ b = t ∧ S.opn f t = true then x else S.part a b } W wr (mset op (f, t) (iv x)) where
  way := h.way
  wrote := h.wrote
  opn a b := by
    rw [mget_mset]
    by_cases e : a = f ∧ b = t
    · rw [if_pos (by rw [e.1, e.2]), e.1, e.2]; simp [ho]
    · rw [if_neg (fun g => e (by simpa [eq_comm] using g)), h.opn]
      have e2 : ¬ (a = f ∧ b = t ∧ S.opn f t = true) := fun g => e ⟨g.1, g.2.1⟩
      simp only [if_neg e2]
theorem PicOk.parts0 {S : PS} {W : OM (Int × Int) (List Int)} {wr : List (Int × Value)} {op : List ((Int × Int) × Value)} (h : PicOk S W wr op) {f t x : Int} (ho : S.opn f t = false) (g : List Int) :
    PicOk { S with gold := g, part := fun a b => if a = f ∧ b = t ∧ S.opn f t = true then x else S.part a b } W wr op where
  way := h.way
  wrote := h.wrote
  opn a b := by
    rw [h.opn]
    have e2 : ¬ (a = f ∧ b = t ∧ S.opn f t = true) := fun g => by rw [ho] at g; cases g.2.2
    simp only [if_neg e2]
end Go.Proofs.Tryd
