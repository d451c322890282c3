/- What the statement sets beside the picture: Come. -/
import Derived.Test.YtgphmpppekghbaaDoorRef2
namespace Go.Proofs.Tryd
open Go.Sl
set_option maxHeartbeats 400000
attribute [local irreducible] Go.wpList Go.Code.wp Go.wpQuiet PO PQ AnyH layL
variable {w0 : World} {H R : HProp} {gv : Value} {wv : Nat → Nat → Value} {S : PS}
theorem ways_back {f t : Nat} (hf : f < 5) (ht : t < 5) : Ent (ints (wv f t) 3 (S.ways f t) * sepL (wayP wv S.ways) (pairs.erase (f, t))) (sepL (wayP wv S.ways) pairs) := sepL_put (P := wayP wv S.ways) (P' := wayP wv S.ways) (mem_pairs hf ht) fun _ _ => rfl
theorem lay_congr {S' : PS} (h1 : S.begun = S'.begun) (h2 : S.has = S'.has) (h3 : S.wrote = S'.wrote) (h4 : S.opn = S'.opn) (h5 : S.onWay = S'.onWay) (h6 : S.part = S'.part) : layL gv wv S = layL gv wv S' := by
  unfold layL
  have : lay gv wv S = lay gv wv S' := by funext c; unfold lay; rw [h1, h2, h3, h4, h5, h6]
  simp only [layM, this]
def comeP (S : PS) (f t n : Int) (rest : List Int) : PS := { setWay S f t rest with gold := S.gold.set t.toNat (S.gold.getD t.toNat 0 + n), part := fun x y => if x = f ∧ y = t ∧ S.opn f t = true then S.part f t + n else S.part x y }
theorem rcome_h (b : Nat) (S : PS) (f t : Int) (i : Nat) (hi : i ≤ 200) (hS : Inv S i) :
    HSpec prog w0 14 [ptr b, iv f, iv t] (refR b S) (fun v => pur (v = .tuple #[iv (comeS S f t).2.1, iv (comeS S f t).2.2]) * refR b (comeS S f t).1) := by
  refine HSpec.intro (n := 129) func14 rfl rfl rfl (by kernel_rfl) fun R => ?_
  refine refR_open fun gv wv => ?_
  refine PO.osl_some (v := gv) (by have := hS.n2; omega) fun gb go_ gc hgv hgc => ?_
  subst hgv
  refine go ?_
  refine PO.callr rfl (way_r b f t (S := S) (wv := wv) (p := some ⟨gb, go_, none⟩) (c := gc)) rfl ?_
  by_cases he : wayE S.gold.length f t = 0
  · rw [he]
    obtain ⟨f0, f1, t0, t1, hne⟩ := wayE_0 he
    obtain ⟨fn, rfl⟩ := Int.eq_ofNat_of_zero_le f0
    obtain ⟨tn, rfl⟩ := Int.eq_ofNat_of_zero_le t0
    have hn5 := hS.n5
    have hf5 : fn < 5 := by omega
    have ht5 : tn < 5 := by omega
    have htn : tn < S.gold.length := by omega
    refine PO.fold (ways_take (wv := wv) (S := S) hf5 ht5) ?_
    refine PO.osl_shape (v := wv fn tn) fun q c hv hc hq => ?_
    have hlw : (layL (.slice (some ⟨gb, go_, none⟩) S.gold.length gc) wv S)[0 + 1 + fn * 5 + tn]? = some (.slice q (S.ways fn tn).length c) := by rw [lay_way hf5 ht5, hv]
    refine go ?_
    refine PO.o rfl (OpV.load rfl rfl rfl rfl hlw) ?_
    refine go ?_
    refine PO.csplit rfl (fun h => ?_) (fun h => ?_)
    · have h0 : S.ways fn tn = [] := by have : ((S.ways fn tn).length : Int) = 0 := of_decide_eq_true h
                                        exact List.length_eq_zero_iff.1 (by omega)
      have hcome : comeS S fn tn = (S, 0, 5) := by unfold comeS; rw [if_neg (fun g => g he), h0]
      refine PO.fold (ways_back (wv := wv) (S := S) hf5 ht5) ?_
      refine go ?_
      refine PO.return_ rfl rfl (Ent.purL ?_ ?_)
      · rw [hcome]; rfl
      · rw [hcome]; exact refR_close b S (.slice (some ⟨gb, go_, none⟩) S.gold.length gc) wv S.gold rfl
    · have hne0 : S.ways fn tn ≠ [] := fun g => by rw [g] at h; exact absurd h (by simp)
      obtain ⟨x, rest, hx⟩ := List.exists_cons_of_ne_nil hne0
      obtain ⟨ub, uo, rfl⟩ := hq hne0
      have hx1 := hS.pay fn tn x (by rw [hx]; simp)
      have hcome : comeS S fn tn = if x = 0 then (markS (setWay S fn tn rest) fn tn, 0, 0) else (comeP S fn tn x rest, x, 0) := by
        unfold comeS; rw [if_neg (fun g => g he), hx]; rfl
      have hgold : (comeP S fn tn x rest).gold = S.gold.set tn (S.gold[tn] + x) := by simp [comeP, htn]
      rw [hv, hx]
      rw [hx] at hlw hc
      have hlen : (x :: rest).length = rest.length + 1 := rfl
      refine PO.rd (v := .slice (some ⟨ub, uo, none⟩) (x :: rest).length c) encI_ok fun hel => ?_
      obtain ⟨_, _, hq, hcell⟩ := hel.cell1 (j := 0) (x := x) rfl
      simp only [Option.some.injEq, Addr.mk.injEq, and_true] at hq
      obtain ⟨rfl, rfl⟩ := hq
      refine go ?_
      refine PO.o rfl (OpV.load rfl rfl rfl rfl hlw) ?_
      refine go ?_
      refine PO.o rfl (OpV.loadF hcell rfl rfl rfl rfl) ?_
      refine go ?_
      obtain ⟨v2, hv2⟩ : ∃ v2 : Value, v2 = .slice (if c = 1 then some ⟨ub, uo, none⟩ else (some (⟨ub, uo, none⟩ : Addr)).map (·.add (1 * 1))) ((x :: rest).length - 1) (c - 1) := ⟨_, rfl⟩
      have hcut : Ent (ints (.slice (some ⟨ub, uo, none⟩) (x :: rest).length c) 3 (x :: rest)) (ints v2 3 rest) := by rw [hv2]; exact osl_drop encI_ok (l := 1) (by simp)
      have hv1 : v2.oneCell' = true := by rw [hv2]; rfl
      refine PO.regionH emp (by kernel_rfl) ?_
      refine tk 0 ?_
      refine tk 1 ?_
      refine tk 2 ?_
      refine tk 3 ?_
      refine tk 4 ?_
      refine tk 5 ?_
      refine tk 6 ?_
      refine tk 7 ?_
      refine tk 8 ?_
      refine tk 9 ?_
      refine tk 12 ?_
      refine tk 13 ?_
      refine tk 14 ?_
      refine PO.any [10] (by kernel_rfl) (by simp) (OneOf.cons rfl ?_ OneOf.nil)
      refine PO.o rfl (OpV.load rfl rfl rfl rfl hlw) ?_
      refine PO.kept (Ent.emp _) ?_
      refine tk 11 (hv := OpV.is (OpV.slice_slice (l := 1) (h := (x :: rest).length) (kd := .i64) (kd' := .i64) rfl rfl rfl rfl rfl (.inr ⟨_, rfl, rfl⟩) (.inl ⟨rfl, rfl⟩) (by simp) hc) hv2.symm) ?_
      refine tk 15 ?_
      refine PO.any [16] (by kernel_rfl) (by simp) (OneOf.cons rfl ?_ OneOf.nil)
      refine PO.storeLay rfl rfl rfl rfl rfl (cells_of hv1) hv1 (by show 0 + 1 + fn * 5 + tn < 88; omega) (put_way v2 rest hf5 ht5) ?_
      refine PO.kept (Ent.emp _) ?_
      refine PO.anyDone (by kernel_rfl) ?_
      refine PO.fold hcut ?_
      refine PO.fold (ways_put (wv := wv) (S := S) hf5 ht5 v2 rest) ?_
      generalize hwv : setWv wv fn tn v2 = wv1
      refine go ?_
      refine PO.csplit rfl (fun h => ?_) (fun h => ?_)
      · have hx0 : ¬ x = 0 := by have : 0 < x := of_decide_eq_true h
                                 omega
        rw [if_neg hx0] at hcome
        have hg1 := hS.gold S.gold[tn] (List.getElem_mem _)
        refine PO.rd (v := (.slice (some ⟨gb, go_, none⟩) S.gold.length gc)) encI_ok fun hel => ?_
        obtain ⟨_, _, hq, hcell⟩ := hel.cell1 (j := tn) (x := S.gold[tn]) (by simp [htn])
        simp only [Option.some.injEq, Addr.mk.injEq, and_true] at hq
        obtain ⟨rfl, rfl⟩ := hq
        refine go ?_
        refine PO.regionF (ints (.slice (some ⟨gb, go_, none⟩) S.gold.length gc) 3 S.gold) (by kernel_rfl) ?_
        refine tk 0 ?_
        refine tk 1 ?_
        refine tk 2 ?_
        refine tk 4 ?_
        refine tk 5 ?_
        refine tk 6 ?_
        refine tk 7 ?_
        refine tk 9 ?_
        refine tk 12 ?_
        refine tk 3 (hv := OpV.load rfl rfl rfl rfl lay_gold) ?_
        refine tk 8 (hv := OpV.load rfl rfl rfl rfl lay_gold) ?_
        refine tk 10 ?_
        refine PO.any [11] (by kernel_rfl) (by simp) (OneOf.cons rfl ?_ OneOf.nil)
        refine PO.o rfl (OpV.loadF hcell rfl rfl rfl rfl) ?_
        refine PO.kept Ent.fr ?_
        refine tk 13 ?_
        refine tk 14 ?_
        refine PO.any [15] (by kernel_rfl) (by simp) (OneOf.cons rfl ?_ OneOf.nil)
        refine PO.storeOsl (len := S.gold.length) (c := gc) (j := tn) (enc1 := encK) (z := S.gold[tn] + x) rfl rfl rfl rfl rfl rfl rfl rfl inferInstance rfl htn ?_
        refine PO.kept Ent.fr ?_
        refine PO.anyDone (by kernel_rfl) ?_
        refine go ?_
        refine PO.o rfl (OpV.load rfl rfl rfl rfl (lay_opn hf5 ht5)) ?_
        refine go ?_
        have hopn : (setWay S fn tn rest).opn fn tn = S.opn fn tn := rfl
        rw [hopn]
        cases hO : S.opn fn tn
        · refine go ?_
          refine PO.return_ rfl rfl (Ent.purL ?_ ?_)
          · rw [hcome]; rfl
          · have hL : layL (.slice (some ⟨gb, go_, none⟩) S.gold.length gc) wv1 (setWay S fn tn rest) = layL (.slice (some ⟨gb, go_, none⟩) S.gold.length gc) wv1 (comeP S fn tn x rest) := lay_congr rfl rfl rfl rfl rfl (by funext a b; simp only [comeP, setWay, hO]; simp)
            have hW : (setWay S fn tn rest).ways = (comeP S fn tn x rest).ways := rfl
            rw [hcome, hL, hW]
            exact refR_close b (comeP S fn tn x rest) (.slice (some ⟨gb, go_, none⟩) S.gold.length gc) wv1 _ hgold
        · have hp1 := hS.part fn tn
          refine go ?_
          refine PO.regionH emp (by kernel_rfl) ?_
          refine tk 0 ?_
          refine tk 1 ?_
          refine tk 2 ?_
          refine tk 3 ?_
          refine tk 4 ?_
          refine tk 5 ?_
          refine tk 6 ?_
          refine tk 7 ?_
          refine tk 8 ?_
          refine tk 9 ?_
          refine tk 11 ?_
          refine tk 13 ?_
          refine tk 14 ?_
          refine tk 15 ?_
          refine PO.any [10] (by kernel_rfl) (by simp) (OneOf.cons rfl ?_ OneOf.nil)
          refine PO.o rfl (OpV.load rfl rfl rfl rfl (lay_part hf5 ht5)) ?_
          refine PO.kept (Ent.emp _) ?_
          refine tk 12 (hv := OpV.add64 (p := S.part fn tn) (q := x) rfl rfl rfl (by omega)) ?_
          refine tk 16 ?_
          refine PO.any [17] (by kernel_rfl) (by simp) (OneOf.cons rfl ?_ OneOf.nil)
          refine PO.storeLay rfl rfl rfl rfl rfl rfl rfl (by show 0 + 63 + fn * 5 + tn < 88; omega) (put_part hf5 ht5) ?_
          refine PO.kept (Ent.emp _) ?_
          refine PO.anyDone (by kernel_rfl) ?_
          refine go ?_
          refine PO.return_ rfl rfl (Ent.purL ?_ ?_)
          · rw [hcome]; rfl
          · have hL : layL (.slice (some ⟨gb, go_, none⟩) S.gold.length gc) wv1 (setPart (setWay S fn tn rest) fn tn (S.part fn tn + x)) = layL (.slice (some ⟨gb, go_, none⟩) S.gold.length gc) wv1 (comeP S fn tn x rest) := lay_congr rfl rfl rfl rfl rfl (by funext a b; simp only [comeP, setWay, hO]; simp)
            have hW : (setWay S fn tn rest).ways = (comeP S fn tn x rest).ways := rfl
            rw [hcome, hL, hW]
            exact refR_close b (comeP S fn tn x rest) (.slice (some ⟨gb, go_, none⟩) S.gold.length gc) wv1 _ hgold
      · have hx0 : x = 0 := by have : ¬ 0 < x := of_decide_eq_false h
                               omega
        rw [if_pos hx0] at hcome
        refine go ?_
        refine PO.o rfl (OpV.load rfl rfl rfl rfl (lay_has ht5)) ?_
        refine go ?_
        refine PO.mid (fun _ : Unit => True) (fun _ => [(0, ptr b), (1, iv fn), (2, iv tn)]) (fun _ => refR b (if (setWay S fn tn rest).has tn then setWay S fn tn rest else writeS (setWay S fn tn rest) tn (setWay S fn tn rest).gold.length) * R) ?_ (fun _ _ => ?_)
        · have hHas : (setWay S fn tn rest).has tn = S.has tn := rfl
          rw [hHas]
          cases hH : S.has tn
          · refine go ?_
            refine PO.ent (refR_close (R := R) b (setWay S fn tn rest) (.slice (some ⟨gb, go_, none⟩) S.gold.length gc) wv1 S.gold rfl) ?_
            refine PO.callh rfl (rwrite_h b (setWay S fn tn rest) tn t0 t1 hn5 (hl hS hi rest hx)) rfl fun v => ?_
            refine go ?_
            exact PO.meet () trivial (Ent.refl _)
          · refine go ?_
            exact PO.meet () trivial (refR_close b (setWay S fn tn rest) (.slice (some ⟨gb, go_, none⟩) S.gold.length gc) wv1 S.gold rfl)
        · have hm : ∀ S2, S2 = (if (setWay S fn tn rest).has tn then setWay S fn tn rest else writeS (setWay S fn tn rest) tn (setWay S fn tn rest).gold.length) → markS (setWay S fn tn rest) fn tn = setOnWay (setOpn S2 fn tn false) (S2.onWay + S2.part fn tn) := fun _ e => by rw [e]; rfl
          have hS1 : (if (setWay S fn tn rest).has tn then setWay S fn tn rest else writeS (setWay S fn tn rest) tn (setWay S fn tn rest).gold.length).part fn tn = S.part fn tn := by split <;> rfl
          have hS2 : (if (setWay S fn tn rest).has tn then setWay S fn tn rest else writeS (setWay S fn tn rest) tn (setWay S fn tn rest).gold.length).onWay = S.onWay := by split <;> rfl
          generalize (if (setWay S fn tn rest).has tn then setWay S fn tn rest else writeS (setWay S fn tn rest) tn (setWay S fn tn rest).gold.length) = S2 at hm hS1 hS2 ⊢
          replace hm := hm S2 rfl
          have hb1 := hS.onWay
          have hb2 := hS.part fn tn
          rw [← hS1] at hb2
          rw [← hS2] at hb1
          refine refR_open fun gv2 wv2 => ?_
          refine go ?_
          refine PO.storeLay rfl rfl rfl rfl rfl rfl rfl (by show 0 + 37 + fn * 5 + tn < 88; omega) (put_opn hf5 ht5) ?_
          refine go ?_
          refine PO.regionH emp (by kernel_rfl) ?_
          refine tk 0 ?_
          refine tk 1 ?_
          refine tk 2 ?_
          refine tk 3 ?_
          refine tk 5 ?_
          refine tk 6 ?_
          refine tk 7 ?_
          refine tk 8 ?_
          refine tk 9 ?_
          refine tk 10 ?_
          refine tk 11 ?_
          refine PO.any [4, 12] (by kernel_rfl) (by simp) (OneOf.cons rfl ?_ (OneOf.cons rfl ?_ OneOf.nil))
          · refine PO.o rfl (OpV.load rfl rfl rfl rfl lay_onWay) ?_
            refine PO.kept (Ent.emp _) ?_
            refine PO.any [12] (by kernel_rfl) (by simp) (OneOf.cons rfl ?_ OneOf.nil)
            refine PO.o rfl (OpV.load rfl rfl rfl rfl (lay_part hf5 ht5)) ?_
            refine PO.kept (Ent.emp _) ?_
            refine tk 13 (hv := OpV.add64 (p := S2.onWay) (q := S2.part fn tn) rfl rfl rfl (by omega)) ?_
            refine tk 14 ?_
            refine tk 15 ?_
            refine PO.any [16] (by kernel_rfl) (by simp) (OneOf.cons rfl ?_ OneOf.nil)
            refine PO.storeLay rfl rfl rfl rfl rfl rfl rfl (by omega) put_onWay ?_
            refine PO.kept (Ent.emp _) ?_
            refine PO.anyDone (by kernel_rfl) ?_
            refine go ?_
            refine PO.return_ rfl rfl (Ent.purL ?_ ?_)
            · rw [hcome]; rfl
            · rw [hcome, hm]; exact refR_close b _ gv2 wv2 S2.gold rfl
          · refine PO.o rfl (OpV.load rfl rfl rfl rfl (lay_part hf5 ht5)) ?_
            refine PO.kept (Ent.emp _) ?_
            refine PO.any [4] (by kernel_rfl) (by simp) (OneOf.cons rfl ?_ OneOf.nil)
            refine PO.o rfl (OpV.load rfl rfl rfl rfl lay_onWay) ?_
            refine PO.kept (Ent.emp _) ?_
            refine tk 13 (hv := OpV.add64 (p := S2.onWay) (q := S2.part fn tn) rfl rfl rfl (by omega)) ?_
            refine tk 14 ?_
            refine tk 15 ?_
            refine PO.any [16] (by kernel_rfl) (by simp) (OneOf.cons rfl ?_ OneOf.nil)
            refine PO.storeLay rfl rfl rfl rfl rfl rfl rfl (by omega) put_onWay ?_
            refine PO.kept (Ent.emp _) ?_
            refine PO.anyDone (by kernel_rfl) ?_
            refine go ?_
            refine PO.return_ rfl rfl (Ent.purL ?_ ?_)
            · rw [hcome]; rfl
            · rw [hcome, hm]; exact refR_close b _ gv2 wv2 S2.gold rfl
  · have hcome : comeS S f t = (S, 0, wayE S.gold.length f t) := by unfold comeS; rw [if_pos he]
    refine go ?_
    refine PO.csplit rfl (fun _ => ?_) (fun h => absurd h (by simp [he]))
    refine go ?_
    refine PO.return_ rfl rfl (Ent.purL ?_ ?_)
    · rw [hcome]; rfl
    · rw [hcome]; exact refR_close b S (.slice (some ⟨gb, go_, none⟩) S.gold.length gc) wv S.gold rfl
end Go.Proofs.Tryd
