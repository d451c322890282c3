/- Package picture: Pay, Begin, Gold, OnWay. -/
import Derived.Test.YtgphmpppekghbaaDoorPic4
namespace Go.Proofs.Tryd
open Go.Sl
set_option maxHeartbeats 400000
attribute [local irreducible] Go.wpList Go.Code.wp Go.wpQuiet PO PQ AnyH
variable {w0 : World} {H R : HProp}
def payS (S : PS) (f t n : Int) : PS × Int :=
  if wayE S.gold.length f t ≠ 0 then (S, wayE S.gold.length f t)
  else if n < 1 ∨ 1000 < n then (S, 1)
  else if S.gold.getD f.toNat 0 < n then (S, 5)
  else if 40 ≤ (S.ways f t).length then (S, 4)
  else ({ setWay S f t (S.ways f t ++ [n]) with gold := S.gold.set f.toNat (S.gold.getD f.toNat 0 - n) }, 0)
theorem PicOk.golds {S : PS} {W : OM (Int × Int) (List Int)} {wr : List (Int × Value)} {op : List ((Int × Int) × Value)} (h : PicOk S W wr op) (g : List Int) : PicOk { S with gold := g } W wr op := ⟨h.way, h.wrote, h.opn⟩
theorem pay_h (b : Nat) (S : PS) (f t n : Int) (i : Nat) (hi : i ≤ 200) (hS : Inv S i) :
    HSpec prog w0 13 [ptr b, iv f, iv t, iv n] (picP b S) (fun v => pur (v = errV (payS S f t n).2) * picP b (payS S f t n).1) := by
  refine HSpec.intro (n := 70) func13 rfl rfl rfl (by kernel_rfl) fun R => ?_
  refine picP_open fun gv bw bwr bo W wr op hok => ?_
  refine PO.osl_some (v := gv) (by have := hS.n2; omega) fun gb go_ gc hgv hgc => ?_
  subst hgv
  refine go fun bx => ?_
  refine go ?_
  refine PO.callr rfl (check_r b f t (p := some ⟨gb, go_, none⟩) (m := S.gold.length) (c := gc) rfl) rfl ?_
  by_cases he : wayE S.gold.length f t = 0
  · rw [he]
    obtain ⟨f0, f1, t0, t1, hne⟩ := wayE_0 he
    obtain ⟨fn, rfl⟩ := Int.eq_ofNat_of_zero_le f0
    have hfn : fn < S.gold.length := by omega
    have hgd : S.gold.getD (Int.toNat fn) 0 = S.gold[fn] := by simp [hfn]
    have hpay : payS S fn t n = if n < 1 ∨ 1000 < n then (S, 1) else if S.gold[fn] < n then (S, 5) else if 40 ≤ (S.ways fn t).length then (S, 4)
        else ({ setWay S fn t (S.ways fn t ++ [n]) with gold := S.gold.set fn (S.gold[fn] - n) }, 0) := by
      unfold payS; rw [if_neg (fun g => g he), hgd]; rfl
    have hg1 := hS.gold S.gold[fn] (List.getElem_mem _)
    have hway := hok.way fn t
    refine PO.rd (v := .slice (some ⟨gb, go_, none⟩) S.gold.length gc) encI_ok fun hel => ?_
    obtain ⟨_, _, hq, hcell⟩ := hel.cell1 (j := fn) (x := S.gold[fn]) (by simp [hfn])
    simp only [Option.some.injEq, Addr.mk.injEq, and_true] at hq
    obtain ⟨rfl, rfl⟩ := hq
    refine PO.wayPeek ((fn : Int), t) hway fun q c hv hc => ?_
    refine go ?_
    refine PO.gsplit rfl rfl rfl rfl (fun h1 => ?_) (fun h1 => ?_)
    · refine go ?_
      refine PO.csplit rfl (fun h2 => ?_) (fun h2 => ?_)
      · refine go ?_
        refine PO.return_ rfl rfl (Ent.purL ?_ ?_)
        · rw [hpay, if_pos (.inr (of_decide_eq_true h2))]; rfl
        · rw [hpay, if_pos (.inr (of_decide_eq_true h2))]; exact picP_close b S (.slice (some ⟨gb, go_, none⟩) S.gold.length gc) bw bwr bo W wr op S.gold S.begun S.onWay hok rfl rfl rfl
      · have hnn : ¬ (n < 1 ∨ 1000 < n) := by simp at h1 h2; omega
        refine go ?_
        refine PO.o rfl (OpV.loadF hcell rfl rfl rfl rfl) ?_
        refine go ?_
        refine PO.csplit rfl (fun h3 => ?_) (fun h3 => ?_)
        · refine go ?_
          refine PO.return_ rfl rfl (Ent.purL ?_ ?_)
          · rw [hpay, if_neg hnn, if_pos (of_decide_eq_true h3)]; rfl
          · rw [hpay, if_neg hnn, if_pos (of_decide_eq_true h3)]; exact picP_close b S (.slice (some ⟨gb, go_, none⟩) S.gold.length gc) bw bwr bo W wr op S.gold S.begun S.onWay hok rfl rfl rfl
        · have hle : ¬ S.gold[fn] < n := of_decide_eq_false h3
          refine go ?_
          refine PO.regionQ (by kernel_rfl) (by kernel_rfl) ?_
          refine goQ ?_
          refine PQ.o rfl (OpV.lookup1 (k := ((fn : Int), t)) (enc := enc2) rfl rfl rfl rfl rfl rfl way_key hv) ?_
          refine goQ ?_
          refine go ?_
          refine PO.csplit rfl (fun h4 => ?_) (fun h4 => ?_)
          · have h40 : 40 ≤ (S.ways fn t).length := by have := of_decide_eq_true h4; omega
            refine go ?_
            refine PO.return_ rfl rfl (Ent.purL ?_ ?_)
            · rw [hpay, if_neg hnn, if_neg hle, if_pos h40]; rfl
            · rw [hpay, if_neg hnn, if_neg hle, if_pos h40]; exact picP_close b S (.slice (some ⟨gb, go_, none⟩) S.gold.length gc) bw bwr bo W wr op S.gold S.begun S.onWay hok rfl rfl rfl
          · have h40 : ¬ 40 ≤ (S.ways fn t).length := by have := of_decide_eq_false h4; omega
            rw [if_neg hnn, if_neg hle, if_neg h40] at hpay
            refine go ?_
            refine PO.o rfl (OpV.loadF hcell rfl rfl rfl rfl) ?_
            refine go ?_
            refine PO.storeOsl (len := S.gold.length) (c := gc) (j := fn) (enc1 := encK) (z := S.gold[fn] - n) rfl rfl rfl rfl rfl rfl rfl rfl inferInstance rfl hfn ?_
            refine go ?_
            refine PO.regionF (omap enc2 bw (omv W) * pays payI W) (by kernel_rfl) ?_
            refine PO.wayOut ((fn : Int), t) hway fun u hu => ?_
            refine tk 0 ?_
            refine tk 1 ?_
            refine tk 2 ?_
            refine tk 3 ?_
            refine tk 4 ?_
            refine tk 5 ?_
            refine PO.any [6] (by kernel_rfl) (by simp) (OneOf.cons rfl ?_ OneOf.nil)
            refine PO.buildSlice (cs := [iv n]) rfl rfl rfl rfl rfl rfl rfl rfl rfl rfl rfl rfl fun bs => ?_
            refine PO.kept Ent.fr ?_
            refine PO.any [7] (by kernel_rfl) (by simp) (OneOf.cons rfl ?_ OneOf.nil)
            refine PO.mapEntry (k := ((fn : Int), t)) (u := u) rfl rfl rfl rfl rfl rfl way_key hu rfl fun s => ?_
            refine PO.kept Ent.fr ?_
            refine tk 8 ?_
            refine tk 10 ?_
            refine PO.any [9] (by kernel_rfl) (by simp) (OneOf.cons rfl ?_ OneOf.nil)
            refine PO.append (k := 1) rfl rfl rfl rfl rfl rfl rfl rfl encI_ok (Elems.ofBlk (b := bs) (ys := [n]) encI_ok rfl rfl) (by show (_ + 1) * (2 * 8) ≤ _; omega) (by show _ + 1 < _; omega) rfl fun v' => ?_
            refine PO.kept Ent.fr ?_
            refine PO.any [11] (by kernel_rfl) (by simp) (OneOf.cons rfl ?_ OneOf.nil)
            refine PO.entrySet (l' := omv (oset W ((fn : Int), t) (v', S.ways fn t ++ [n]))) rfl rfl rfl rfl (mset_keyAt _ _ _) ((mset_at _ _ _ _).trans (omv_oset _ _ _ _).symm) ?_
            refine PO.fold (pays_back (T := 3) (k := 1) (enc := encI) W ((fn : Int), t) v' (S.ways fn t ++ [n])) ?_
            refine PO.kept Ent.fr ?_
            refine PO.anyDone (by kernel_rfl) ?_
            refine go ?_
            refine PO.return_end rfl rfl (Ent.purL ?_ ?_)
            · rw [hpay]; rfl
            · rw [hpay]
              exact picP_close b _ (.slice (some ⟨gb, go_, none⟩) S.gold.length gc) bw bwr bo _ wr op (S.gold.set fn (S.gold[fn] - n)) S.begun S.onWay ((hok.put fn t v' (S.ways fn t ++ [n])).golds _) rfl rfl rfl
    · refine go ?_
      refine PO.return_ rfl rfl (Ent.purL ?_ ?_)
      · rw [hpay, if_pos (.inl (by simp at h1; omega))]; rfl
      · rw [hpay, if_pos (.inl (by simp at h1; omega))]; exact picP_close b S (.slice (some ⟨gb, go_, none⟩) S.gold.length gc) bw bwr bo W wr op S.gold S.begun S.onWay hok rfl rfl rfl
  · rw [errV_ne he]
    refine go ?_
    refine PO.return_ rfl rfl (Ent.purL ?_ ?_)
    · unfold payS; rw [if_pos he]; simp only [packed]; rw [errV_ne he]
    · unfold payS; rw [if_pos he]; exact picP_close b S (.slice (some ⟨gb, go_, none⟩) S.gold.length gc) bw bwr bo W wr op S.gold S.begun S.onWay hok rfl rfl rfl
end Go.Proofs.Tryd
