/- What the statement sets beside the picture: Way, Write. -/
import Derived.Test.YtgphmpppekghbaaDoorRef1
namespace Go.Proofs.Tryd
open Go.Sl
set_option maxHeartbeats 400000
attribute [local irreducible] Go.wpList Go.Code.wp Go.wpQuiet PO PQ AnyH layL
variable {w0 : World} {H R : HProp} {gv : Value} {wv : Nat → Nat → Value} {S : PS}
theorem way_r (b : Nat) (f t : Int) {p : Option Addr} {c : Nat} [q : PullBlk b H (.cells (layL (.slice p S.gold.length c) wv S).toArray 38 (0, 0)) R] :
    RSpec prog w0 12 [ptr b, iv f, iv t] H (iv (wayE S.gold.length f t)) := by
  refine RSpec.intro (n := 34) func12 rfl rfl rfl (by kernel_rfl) ?_
  have w1 : (f < 0 ∨ (S.gold.length : Int) ≤ f ∨ t < 0 ∨ (S.gold.length : Int) ≤ t) → iv 1 = iv (wayE S.gold.length f t) := fun h => by unfold wayE; rw [if_pos (by omega)]
  refine go ?_
  refine PO.gsplit rfl rfl rfl rfl (fun h1 => ?_) (fun h1 => ?_)
  · refine go ?_
    refine PO.o rfl (OpV.load rfl rfl rfl rfl lay_gold) ?_
    refine go ?_
    refine PO.gsplit rfl rfl rfl rfl (fun h2 => ?_) (fun h2 => ?_)
    · refine go ?_
      refine PO.gsplit rfl rfl rfl rfl (fun h3 => ?_) (fun h3 => ?_)
      · refine go ?_
        refine PO.o rfl (OpV.load rfl rfl rfl rfl lay_gold) ?_
        refine go ?_
        refine PO.csplit rfl (fun h4 => ?_) (fun h4 => ?_)
        · refine go ?_
          exact PO.returnR rfl rfl (w1 (by simp at h4; omega))
        · refine go ?_
          have hin : ¬ ¬ (0 ≤ f ∧ f < S.gold.length ∧ 0 ≤ t ∧ t < S.gold.length) := by simp at h1 h2 h3 h4; omega
          refine PO.csplit rfl (fun h5 => ?_) (fun h5 => ?_)
          · refine go ?_
            exact PO.returnR rfl rfl (by unfold wayE; rw [if_neg hin, if_pos (of_decide_eq_true h5)]; rfl)
          · refine go ?_
            exact PO.returnR rfl rfl (by unfold wayE; rw [if_neg hin, if_neg (of_decide_eq_false h5)]; rfl)
      · refine go ?_
        exact PO.returnR rfl rfl (w1 (by simp at h3; omega))
    · refine go ?_
      exact PO.returnR rfl rfl (w1 (by simp at h2; omega))
  · refine go ?_
    exact PO.returnR rfl rfl (w1 (by simp at h1; omega))
theorem cells_of {v : Value} (h : v.oneCell' = true) : v.cells = #[v] := by
  cases v <;> first | rfl | cases h
theorem osl_one {α : Type} {T k n : Nat} {enc : α → List Value} {env : Env} {φ : Act → World → Prop} {v : Value} {xs : List α} [p : PullOsl v H T k enc xs R] (h : v.oneCell' = true → PO w0 n env H φ) : PO w0 n env H φ :=
  PO.osl_shape (v := v) fun q c hv _ _ => h (by rw [hv]; rfl)
theorem rwrite_h (b : Nat) (S : PS) (who : Int) (h0 : 0 ≤ who) (h1 : who < S.gold.length) (hn : S.gold.length ≤ 5) (hl : ∀ f t, (S.ways f t).length ≤ 1000) :
    HSpec prog w0 16 [ptr b, iv who] (refR b S) (fun _ => refR b (writeS S who S.gold.length)) := by
  obtain ⟨k, rfl⟩ := Int.eq_ofNat_of_zero_le h0
  have hk : k < S.gold.length := by omega
  have hk5 : k < 5 := by omega
  refine HSpec.intro (n := 58) func16 rfl rfl rfl (by kernel_rfl) fun R => ?_
  refine refR_open fun gv wv => ?_
  refine PO.osl_some (v := gv) (by omega) fun gb go_ gc hgv hgc => ?_
  subst hgv
  refine PO.rd (v := .slice (some ⟨gb, go_, none⟩) S.gold.length gc) encI_ok fun hel => ?_
  obtain ⟨_, _, hq, hcell⟩ := hel.cell1 (j := k) (x := S.gold[k]) (by simp [hk])
  simp only [Option.some.injEq, Addr.mk.injEq, and_true] at hq
  obtain ⟨rfl, rfl⟩ := hq
  refine go ?_
  refine PO.storeLay rfl rfl rfl rfl rfl rfl rfl (by omega) (put_has hk5) ?_
  refine go ?_
  refine PO.regionH emp (by kernel_rfl) ?_
  refine tk 0 ?_
  refine tk 1 ?_
  refine tk 2 ?_
  refine tk 3 ?_
  refine tk 4 ?_
  refine tk 6 ?_
  refine tk 9 ?_
  refine tk 10 ?_
  refine PO.any [5] (by kernel_rfl) (by simp) (OneOf.cons rfl ?_ OneOf.nil)
  refine PO.o rfl (OpV.load rfl rfl rfl rfl lay_gold) ?_
  refine PO.kept (Ent.emp _) ?_
  refine tk 7 ?_
  refine PO.any [8] (by kernel_rfl) (by simp) (OneOf.cons rfl ?_ OneOf.nil)
  refine PO.o rfl (OpV.loadF hcell rfl rfl rfl rfl) ?_
  refine PO.kept (Ent.emp _) ?_
  refine tk 11 ?_
  refine PO.any [12] (by kernel_rfl) (by simp) (OneOf.cons rfl ?_ OneOf.nil)
  refine PO.storeLay rfl rfl rfl rfl rfl rfl rfl (by omega) (put_wrote hk5) ?_
  refine PO.kept (Ent.emp _) ?_
  refine PO.anyDone (by kernel_rfl) ?_
  refine go ?_
  refine PO.while2 (fun (j : Nat) (_ : Nat → Nat → Value) => j ≤ S.gold.length) (fun j _ => [(0, ptr b), (1, iv k), (4, iv j)])
    (fun j wv => cels b (layL (.slice (some ⟨gb, go_, none⟩) S.gold.length gc) wv (writeS S k j)) 38 * (ints (.slice (some ⟨gb, go_, none⟩) S.gold.length gc) 3 S.gold * sepL (wayP wv (writeS S k j).ways) pairs) * R)
    (fun j _ => S.gold.length - j) 0 wv (Nat.zero_le _) (by rw [writeS_zero S k hk]; exact Ent.fr) ?_
  clear hcell hel wv
  rintro j wv hj
  refine go ?_
  refine PO.o rfl (OpV.load rfl rfl rfl rfl lay_gold) ?_
  refine go ?_
  refine PO.csplit rfl (fun h => ?_) (fun h => ?_)
  · have hlt : j < S.gold.length := by simpa using h
    have hj5 : j < 5 := by omega
    refine go ?_
    refine PO.csplit rfl (fun h => ?_) (fun h => ?_)
    · have hne : j ≠ k := by have : ¬ (j : Int) = k := of_decide_eq_true h
                             omega
      have hwx : (writeS S k j).ways k j = S.ways k j := by simp only [writeS]; rw [if_neg (by omega)]
      have hxl := hl k j
      refine PO.fold (ways_take (wv := wv) (S := writeS S k j) hk5 hj5) ?_
      rw [hwx]
      refine go ?_
      refine PO.regionH emp (by kernel_rfl) ?_
      refine tk 0 ?_
      refine tk 1 ?_
      refine tk 2 ?_
      refine tk 3 ?_
      refine tk 4 ?_
      refine tk 5 ?_
      refine tk 6 ?_
      refine tk 7 ?_
      refine tk 8 ?_
      refine tk 9 ?_
      refine tk 13 ?_
      refine tk 14 ?_
      refine tk 15 ?_
      refine PO.any [10, 11] (by kernel_rfl) (by simp) (OneOf.cons rfl ?_ (OneOf.cons rfl ?_ OneOf.nil))
      · refine PO.o rfl (OpV.load rfl rfl rfl rfl (lay_way hk5 hj5)) ?_
        refine PO.kept (Ent.emp _) ?_
        refine PO.any [11] (by kernel_rfl) (by simp) (OneOf.cons rfl ?_ OneOf.nil)
        refine PO.buildSlice (cs := [iv 0]) rfl rfl rfl rfl rfl rfl rfl rfl rfl rfl rfl rfl fun bs => ?_
        refine PO.kept (Ent.emp _) ?_
        refine PO.any [12] (by kernel_rfl) (by simp) (OneOf.cons rfl ?_ OneOf.nil)
        refine PO.append (k := 1) rfl rfl rfl rfl rfl rfl rfl rfl encI_ok (Elems.ofBlk (b := bs) (ys := [0]) encI_ok rfl rfl) (by show (_ + 1) * (2 * 8) ≤ _; omega) (by show _ + 1 < _; omega) rfl fun v' => ?_
        refine osl_one (v := v') fun hv1 => ?_
        refine PO.kept (Ent.emp _) ?_
        refine tk 16 ?_
        refine PO.any [17] (by kernel_rfl) (by simp) (OneOf.cons rfl ?_ OneOf.nil)
        refine PO.storeLay rfl rfl rfl rfl rfl (cells_of hv1) hv1 (by show 0 + 1 + k * 5 + j < 88; omega) (put_way v' (S.ways k j ++ [0]) hk5 hj5) ?_
        refine PO.kept (Ent.emp _) ?_
        refine PO.anyDone (by kernel_rfl) ?_
        refine PO.fold (ways_put (wv := wv) (S := writeS S k j) hk5 hj5 v' (S.ways k j ++ [0])) ?_
        refine go ?_
        refine PO.storeLay rfl rfl rfl rfl rfl rfl rfl (by show 0 + 37 + j * 5 + k < 88; omega) (put_opn hj5 hk5) ?_
        refine go ?_
        exact PO.again2 (j + 1) (setWv wv k j v') hlt (by omega) (by rw [writeS_step S k j hne]; exact Ent.fr)
      · refine PO.buildSlice (cs := [iv 0]) rfl rfl rfl rfl rfl rfl rfl rfl rfl rfl rfl rfl fun bs => ?_
        refine PO.kept (Ent.emp _) ?_
        refine PO.any [10] (by kernel_rfl) (by simp) (OneOf.cons rfl ?_ OneOf.nil)
        refine PO.o rfl (OpV.load rfl rfl rfl rfl (lay_way hk5 hj5)) ?_
        refine PO.kept (Ent.emp _) ?_
        refine PO.any [12] (by kernel_rfl) (by simp) (OneOf.cons rfl ?_ OneOf.nil)
        refine PO.append (k := 1) rfl rfl rfl rfl rfl rfl rfl rfl encI_ok (Elems.ofBlk (b := bs) (ys := [0]) encI_ok rfl rfl) (by show (_ + 1) * (2 * 8) ≤ _; omega) (by show _ + 1 < _; omega) rfl fun v' => ?_
        refine osl_one (v := v') fun hv1 => ?_
        refine PO.kept (Ent.emp _) ?_
        refine tk 16 ?_
        refine PO.any [17] (by kernel_rfl) (by simp) (OneOf.cons rfl ?_ OneOf.nil)
        refine PO.storeLay rfl rfl rfl rfl rfl (cells_of hv1) hv1 (by show 0 + 1 + k * 5 + j < 88; omega) (put_way v' (S.ways k j ++ [0]) hk5 hj5) ?_
        refine PO.kept (Ent.emp _) ?_
        refine PO.anyDone (by kernel_rfl) ?_
        refine PO.fold (ways_put (wv := wv) (S := writeS S k j) hk5 hj5 v' (S.ways k j ++ [0])) ?_
        refine go ?_
        refine PO.storeLay rfl rfl rfl rfl rfl rfl rfl (by show 0 + 37 + j * 5 + k < 88; omega) (put_opn hj5 hk5) ?_
        refine go ?_
        exact PO.again2 (j + 1) (setWv wv k j v') hlt (by omega) (by rw [writeS_step S k j hne]; exact Ent.fr)
    · have he : j = k := by have : (j : Int) = k := by simpa using h
                            omega
      subst he
      refine go ?_
      exact PO.again2 (j + 1) wv hlt (by omega) (by rw [writeS_stay]; exact Ent.fr)
  · refine go ?_
    have : j = S.gold.length := by have : ¬ j < S.gold.length := by simpa using h
                                   omega
    subst this
    exact PO.return_end rfl rfl (refR_close b _ (.slice (some ⟨gb, go_, none⟩) S.gold.length gc) wv S.gold rfl)
end Go.Proofs.Tryd
