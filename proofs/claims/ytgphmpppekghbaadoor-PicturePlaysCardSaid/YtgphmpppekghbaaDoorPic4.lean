/- Package picture: Come. -/
import Derived.Test.YtgphmpppekghbaaDoorPic3
namespace Go.Proofs.Tryd
open Go.Sl
set_option maxHeartbeats 400000
attribute [local irreducible] Go.wpList Go.Code.wp Go.wpQuiet PO PQ AnyH
variable {w0 : World} {H R : HProp}
theorem OpV.is {n : Nat} {env : Env} {o : Oper} {u v : Value} (h : OpV prog w0 n env H o v) (e : v = u) : OpV prog w0 n env H o u := e ▸ h
theorem OpV.lookup1At {κ : Type} [DecidableEq κ] {enc : κ → Value} {n : Nat} {env : Env} {o : Oper} {x i : Operand} {t kt el b j s : Nat} {e e' : TE} {k : κ} {l : List (κ × Value)} {v : Value} (ho : o.op = .lookup t x i false) (hx : env.get x = some (.map (some b))) (ht : Tabs.T prog t = some e) (hu : e.und = .map kt el) (he : Tabs.T prog el = some e')
    [p : PullMapAt b H enc l j s R] (hi : env.get i = some (enc k)) (law : KeyLaw prog kt enc) (hv : (mget l k).getD e'.zero = v) : OpV prog w0 n env H o v :=
  OpV.lookup1 (p := ⟨p.ent.trans (Ent.star omapAt_omap (Ent.refl _))⟩) ho hx ht hu he hi law hv
theorem PO.wayPeek {n : Nat} {env : Env} {φ : Act → World → Prop} {W : OM (Int × Int) (List Int)} (q : Int × Int) {xs : List Int} (hx : oxs W q = xs) [f : Sl.Frame H (pays payI W) R]
    (h : ∀ p c, (mget (omv W) q).getD nilS = .slice p xs.length c → xs.length ≤ c → PO w0 n env H φ) : PO w0 n env H φ := by
  refine PO.holds fun w hw => ?_
  subst hx
  have h2 := hw.ent (f.ent.trans (Ent.star (pays_way (T := 3) (k := 1) (enc := encI) q) (Ent.refl _)))
  rcases (h2.ent (Ent.assoc _ _ _)).osl with ⟨h1, h3⟩ | ⟨b, pre, post, m, h1, _, _⟩
  · exact h none 0 (by rw [h1, h3]; rfl) (by rw [h3]; exact Nat.le_refl _)
  · exact h _ _ h1 (by omega)
theorem hl {S : PS} {i : Nat} (hS : Inv S i) (hi : i ≤ 200) {f t : Int} {x : Int} (rest : List Int) (hx : S.ways f t = x :: rest) (a b : Int) : ((setWay S f t rest).ways a b).length ≤ 1000 := by
  simp only [setWay]
  split
  · have := hS.len f t
    rw [hx] at this; simp at this; omega
  · have := hS.len a b; omega
theorem come_h (b : Nat) (S : PS) (f t : Int) (i : Nat) (hi : i ≤ 200) (hS : Inv S i) :
    HSpec prog w0 15 [ptr b, iv f, iv t] (picP b S) (fun v => pur (v = .tuple #[iv (comeS S f t).2.1, errV (comeS S f t).2.2]) * picP b (comeS S f t).1) := by
  refine HSpec.intro (n := 87) func15 rfl rfl rfl (by kernel_rfl) fun R => ?_
  refine picP_open fun gv bw bwr bo W wr op hok => ?_
  refine PO.osl_some (v := gv) (by have := hS.n2; omega) fun gb go_ gc hgv hgc => ?_
  subst hgv
  refine go fun bx => ?_
  refine go ?_
  refine PO.callr rfl (check_r b f t (p := some ⟨gb, go_, none⟩) (m := S.gold.length) (c := gc) rfl) rfl ?_
  by_cases he : wayE S.gold.length f t = 0
  · rw [he]
    refine go ?_
    obtain ⟨f0, f1, t0, t1, hne⟩ := wayE_0 he
    have hway := hok.way f t
    refine PO.wayPeek (f, t) hway fun q c hv hc => ?_
    refine PO.regionQ (by kernel_rfl) (by kernel_rfl) ?_
    refine goQ ?_
    refine PQ.o rfl (OpV.lookup1 (k := (f, t)) (enc := enc2) rfl rfl rfl rfl rfl rfl way_key hv) ?_
    refine goQ ?_
    refine go ?_
    refine PO.csplit rfl (fun h => ?_) (fun h => ?_)
    · have h0 : S.ways f t = [] := by have : ((S.ways f t).length : Int) = 0 := of_decide_eq_true h
                                      exact List.length_eq_zero_iff.1 (by omega)
      refine go ?_
      refine PO.return_ rfl rfl (Ent.purL ?_ ?_)
      · unfold comeS; rw [if_neg (fun g => g he), h0]; rfl
      · unfold comeS; rw [if_neg (fun g => g he), h0]
        exact picP_close b S (.slice (some ⟨gb, go_, none⟩) S.gold.length gc) bw bwr bo W wr op S.gold S.begun S.onWay hok rfl rfl rfl
    · have hne0 : S.ways f t ≠ [] := fun g => by rw [g] at h; exact absurd h (by simp)
      obtain ⟨x, rest, hx⟩ := List.exists_cons_of_ne_nil hne0
      rw [hx] at hway hv hc
      refine go ?_
      refine PO.wayOut (f, t) hway fun u hu => ?_
      refine PO.osl_some (v := u) (by simp) fun ub uo uc hv' hc' => ?_
      subst hv'
      clear hv hc
      have hlen : (x :: rest).length = rest.length + 1 := rfl
      refine PO.rd (v := .slice (some ⟨ub, uo, none⟩) (x :: rest).length uc) encI_ok fun hel => ?_
      obtain ⟨_, _, hq, hcell⟩ := hel.cell1 (j := 0) (x := x) rfl
      simp only [Option.some.injEq, Addr.mk.injEq, and_true] at hq
      obtain ⟨rfl, rfl⟩ := hq
      refine PO.regionQ (by kernel_rfl) (by kernel_rfl) ?_
      refine goQ ?_
      refine PQ.o rfl (OpV.lookup1 (k := (f, t)) (enc := enc2) rfl rfl rfl rfl rfl rfl way_key hu) ?_
      refine goQ ?_
      refine PQ.o rfl (OpV.loadF hcell rfl rfl rfl rfl) ?_
      refine goQ ?_
      refine go ?_
      obtain ⟨v2, hv2⟩ : ∃ v2 : Value, v2 = .slice (if uc = 1 then some ⟨ub, uo, none⟩ else (some (⟨ub, uo, none⟩ : Addr)).map (·.add (1 * 1))) ((x :: rest).length - 1) (uc - 1) := ⟨_, rfl⟩
      have hcut : Ent (ints (.slice (some ⟨ub, uo, none⟩) (x :: rest).length uc) 3 (x :: rest)) (ints v2 3 rest) := by rw [hv2]; exact osl_drop encI_ok (l := 1) (by simp)
      refine PO.regionF (omap enc2 bw (omv W)) (by kernel_rfl) ?_
      refine tk 0 ?_
      refine tk 1 ?_
      refine tk 2 ?_
      refine tk 3 ?_
      refine tk 4 ?_
      refine tk 5 ?_
      refine tk 6 ?_
      refine tk 7 ?_
      refine tk 8 ?_
      refine tk 9 ?_
      refine PO.any [10] (by kernel_rfl) (by simp) (OneOf.cons rfl ?_ OneOf.nil)
      refine PO.o rfl (OpV.lookup1 (k := (f, t)) (enc := enc2) rfl rfl rfl rfl rfl rfl way_key hu) ?_
      refine PO.kept (Ent.right _ _) ?_
      refine PO.any [11] (by kernel_rfl) (by simp) (OneOf.cons rfl ?_ OneOf.nil)
      refine PO.o rfl (OpV.is (OpV.slice_slice (l := 1) (h := (x :: rest).length) (kd := .i64) (kd' := .i64) rfl rfl rfl rfl rfl (.inr ⟨_, rfl, rfl⟩) (.inl ⟨rfl, rfl⟩) (by simp) hc') hv2.symm) ?_
      refine PO.kept (Ent.right _ _) ?_
      refine PO.any [12] (by kernel_rfl) (by simp) (OneOf.cons rfl ?_ OneOf.nil)
      refine PO.mapUpdate (k := (f, t)) (enc := enc2) (.inl rfl) rfl rfl rfl rfl rfl way_key ?_
      refine PO.kept (Ent.right _ _) ?_
      refine PO.anyDone (by kernel_rfl) ?_
      refine PO.fold hcut ?_
      refine PO.fold (pays_back (T := 3) (k := 1) (enc := encI) W (f, t) v2 rest) ?_
      refine PO.fold (A := omap enc2 bw (mset (omv W) (f, t) v2)) (B := omap enc2 bw (omv (oset W (f, t) (v2, rest)))) (by rw [omv_oset]; exact Ent.refl _) ?_
      have hok := hok.put f t v2 rest
      generalize oset W (f, t) (v2, rest) = W at hok ⊢
      clear hcell hel hu hcut hv2
      have hcome : comeS S f t = if x = 0 then (markS (setWay S f t rest) f t, 0, 0) else ({ setWay S f t rest with gold := S.gold.set t.toNat (S.gold.getD t.toNat 0 + x), part := fun a b => if a = f ∧ b = t ∧ S.opn f t = true then S.part f t + x else S.part a b }, x, 0) := by
        unfold comeS; rw [if_neg (fun g => g he), hx]
      refine go ?_
      refine PO.csplit rfl (fun h => ?_) (fun h => ?_)
      · have hx0 : x = 0 := by simpa using h
        rw [if_pos hx0] at hcome
        refine go ?_
        refine PO.ent (picP_close b (setWay S f t rest) (.slice (some ⟨gb, go_, none⟩) S.gold.length gc) bw bwr bo W wr op S.gold S.begun S.onWay hok rfl rfl rfl) ?_
        refine PO.callh rfl (mark_h b (setWay S f t rest) f t ⟨t0, t1⟩ ⟨f0, f1⟩ hne (hS.part0 t) (hS.mark f t (by rw [hx, hx0]; simp)).2 (hl hS hi rest hx) (by have := hS.n5; simp only [setWay]; omega) ?_) rfl fun v => ?_
        · have h1 := hS.onWay
          have h2 := hS.part f t
          simp only [setWay]; omega
        refine go ?_
        refine PO.return_ rfl rfl (Ent.purL ?_ ?_)
        · rw [hcome]; rfl
        · rw [hcome]; exact Ent.fr
      · have hx0 : ¬ x = 0 := by simpa using h
        rw [if_neg hx0] at hcome
        obtain ⟨tn, rfl⟩ := Int.eq_ofNat_of_zero_le t0
        have htn : tn < S.gold.length := by omega
        refine PO.rd (v := .slice (some ⟨gb, go_, none⟩) S.gold.length gc) encI_ok fun hel => ?_
        obtain ⟨_, _, hq, hcell⟩ := hel.cell1 (j := tn) (x := S.gold[tn]) (by simp [htn])
        simp only [Option.some.injEq, Addr.mk.injEq, and_true] at hq
        obtain ⟨rfl, rfl⟩ := hq
        have hg1 := hS.gold S.gold[tn] (List.getElem_mem _)
        have hx1 := hS.pay f tn x (by rw [hx]; simp)
        refine go ?_
        refine PO.o rfl (OpV.loadF hcell rfl rfl rfl rfl) ?_
        refine go ?_
        refine PO.storeOsl (len := S.gold.length) (c := gc) (j := tn) (enc1 := encK) (z := S.gold[tn] + x) rfl rfl rfl rfl rfl rfl rfl rfl inferInstance rfl htn ?_
        have hopn : mget op (f, (tn : Int)) = bif S.opn f tn then some (iv (S.part f tn)) else none := hok.opn f tn
        have hgd : S.gold.getD (Int.toNat tn) 0 = S.gold[tn] := by simp [htn]
        rw [hgd] at hcome
        refine go ?_
        refine PO.regionQ (by kernel_rfl) (by kernel_rfl) ?_
        refine goQ ?_
        refine PQ.o rfl (OpV.lookup2 (k := (f, (tn : Int))) (enc := enc2) (c := S.opn f tn) rfl rfl rfl rfl rfl rfl way_key rfl (by rw [hopn]; cases S.opn f tn <;> rfl)) ?_
        refine goQ ?_
        refine go ?_
        cases hO : S.opn f tn
        · refine go ?_
          refine PO.return_ rfl rfl (Ent.purL ?_ ?_)
          · rw [hcome]; rfl
          · rw [hcome]
            exact picP_close b _ (.slice (some ⟨gb, go_, none⟩) S.gold.length gc) bw bwr bo W wr op (S.gold.set tn (S.gold[tn] + x)) S.begun S.onWay (hok.parts0 hO _) rfl rfl rfl
        · have hov : (mget op (f, (tn : Int))).getD (.int .i64 0) = iv (S.part f tn) := by rw [hopn, hO]; rfl
          have hp1 := hS.part f tn
          refine go ?_
          refine PO.regionF (omap enc2 bo op) (by kernel_rfl) ?_
          refine tk 0 ?_
          refine tk 1 ?_
          refine tk 2 ?_
          refine tk 3 ?_
          refine tk 4 ?_
          refine tk 6 ?_
          refine PO.any [5, 8] (by kernel_rfl) (by simp) (OneOf.cons rfl ?_ (OneOf.cons rfl ?_ OneOf.nil))
          · refine PO.o rfl (OpV.lookup1 (k := (f, (tn : Int))) (enc := enc2) rfl rfl rfl rfl rfl rfl way_key hov) ?_
            refine PO.kept (Ent.right _ _) ?_
            refine tk 7 ?_
            refine PO.any [8] (by kernel_rfl) (by simp) (OneOf.cons rfl ?_ OneOf.nil)
            refine PO.mapEntry (k := (f, (tn : Int))) (u := iv (S.part f tn)) rfl rfl rfl rfl rfl rfl way_key hov rfl fun s => ?_
            refine PO.kept Ent.fr ?_
            refine tk 9 ?_
            refine PO.any [10] (by kernel_rfl) (by simp) (OneOf.cons rfl ?_ OneOf.nil)
            refine PO.entrySet (l' := mset op (f, (tn : Int)) (iv (S.part f tn + x))) rfl rfl rfl rfl (mset_keyAt _ _ _) (mset_at _ _ _ _) ?_
            refine PO.kept Ent.fr ?_
            refine PO.anyDone (by kernel_rfl) ?_
            refine go ?_
            refine PO.return_ rfl rfl (Ent.purL ?_ ?_)
            · rw [hcome]; rfl
            · rw [hcome]
              exact picP_close b _ (.slice (some ⟨gb, go_, none⟩) S.gold.length gc) bw bwr bo W wr _ (S.gold.set tn (S.gold[tn] + x)) S.begun S.onWay (hok.parts hO _) rfl rfl rfl
          · refine PO.mapEntry (k := (f, (tn : Int))) (u := iv (S.part f tn)) rfl rfl rfl rfl rfl rfl way_key hov rfl fun s => ?_
            refine PO.kept Ent.fr ?_
            refine tk 9 ?_
            refine PO.any [5] (by kernel_rfl) (by simp) (OneOf.cons rfl ?_ OneOf.nil)
            refine PO.o rfl (OpV.lookup1At (k := (f, (tn : Int))) (enc := enc2) rfl rfl rfl rfl rfl rfl way_key (v := iv (S.part f tn)) (by rw [mget_mset, if_pos rfl]; rfl)) ?_
            refine PO.kept Ent.fr ?_
            refine tk 7 ?_
            refine PO.any [10] (by kernel_rfl) (by simp) (OneOf.cons rfl ?_ OneOf.nil)
            refine PO.entrySet (l' := mset op (f, (tn : Int)) (iv (S.part f tn + x))) rfl rfl rfl rfl (mset_keyAt _ _ _) (mset_at _ _ _ _) ?_
            refine PO.kept Ent.fr ?_
            refine PO.anyDone (by kernel_rfl) ?_
            refine go ?_
            refine PO.return_ rfl rfl (Ent.purL ?_ ?_)
            · rw [hcome]; rfl
            · rw [hcome]
              exact picP_close b _ (.slice (some ⟨gb, go_, none⟩) S.gold.length gc) bw bwr bo W wr _ (S.gold.set tn (S.gold[tn] + x)) S.begun S.onWay (hok.parts hO _) rfl rfl rfl
  · rw [errV_ne he]
    refine go ?_
    refine PO.return_ rfl rfl (Ent.purL ?_ ?_)
    · unfold comeS; rw [if_pos he]; simp only [packed]; rw [errV_ne he]
    · unfold comeS; rw [if_pos he]; exact picP_close b S (.slice (some ⟨gb, go_, none⟩) S.gold.length gc) bw bwr bo W wr op S.gold S.begun S.onWay hok rfl rfl rfl
end Go.Proofs.Tryd
