/- Package agree: Propose. -/
import Derived.Test.YtgphmpppekghbaaDoorAgr2
namespace Go.Proofs.Tryd
open Go.Sl
set_option maxHeartbeats 400000
attribute [local irreducible] Go.wpList Go.Code.wp Go.wpQuiet PO PQ AnyH
variable {w0 : World} {H R : HProp} {S S' : AS} {i : Nat} {G : OM Int (List Stp)} {Wh : OM Int (List Int)}
theorem final_congr {y : Int} (hn : S.n = S'.n) (h : ∀ z, S.gN y z = S'.gN y z) : final S y = final S' y := by
  have : IsFin S y = IsFin S' y := by
    funext m
    unfold IsFin
    simp only [stp, hn, h]
  unfold final
  rw [this]
theorem AgrOk.len (h : AgrOk S G Wh) (hS : AInv S i) (w : Int) : (oxs Wh w).length ≤ S.n := by
  have h1 : ((oxs Wh w).map fun x => x + 1).Nodup := by
    have := h.nod w
    rw [List.nodup_iff_pairwise_ne] at this ⊢
    rw [List.pairwise_map]
    exact this.imp fun hne e => hne (by omega)
  have := nodup_le S.n h1 fun y hy => by
    obtain ⟨x, hx, rfl⟩ := List.mem_map.1 hy
    have := hS.hasr w x ((h.mem w x).1 hx)
    omega
  simpa using this
theorem AgrOk.any (h : AgrOk S G Wh) (w x : Int) : ((oxs Wh w).any fun y => decide (x = y)) = S.has w x := by
  rw [Bool.eq_iff_iff, List.any_eq_true]
  constructor
  · rintro ⟨y, hy, e⟩
    have : x = y := of_decide_eq_true e
    subst this
    exact (h.mem w x).1 hy
  · intro hx
    exact ⟨x, (h.mem w x).2 hx, by simp⟩
theorem AgrOk.prop' (h : AgrOk S G Wh) {w x : Int} (hw : S.was w = true) (hx : S.has w x = false) (v v' : Value) :
    AgrOk (propA S x w) (oset G w (v, oxs G w ++ [(S.most x + 1, x)])) (oset Wh w (v', oxs Wh w ++ [x])) where
  was y := by
    rw [oget_oset]
    by_cases e : w = y
    · rw [if_pos e]; simp only [propA]; rw [← e, hw]; rfl
    · rw [if_neg e, h.was]; rfl
  ord y := by
    rw [oxs_oset, oxs_oset]
    by_cases e : w = y
    · subst e
      rw [if_pos rfl, if_pos rfl, h.ord, List.map_append]
      congr 1
      · refine List.map_congr_left fun z hz => ?_
        simp only [propA]
        rw [if_neg (fun g => by rw [g.2, h.mem, hx] at hz; cases hz)]
      · simp [propA]
    · rw [if_neg e, if_neg e, h.ord]
      refine List.map_congr_left fun z _ => ?_
      simp only [propA]
      rw [if_neg (fun g => e g.1.symm)]
  nod y := by
    rw [oxs_oset]
    by_cases e : w = y
    · rw [if_pos e, List.nodup_append]
      refine ⟨h.nod w, by simp, ?_⟩
      intro a ha c hc
      simp at hc; subst hc
      intro e2
      rw [e2, h.mem, hx] at ha; cases ha
    · rw [if_neg e]; exact h.nod y
  mem y z := by
    rw [oxs_oset]
    simp only [propA]
    by_cases e : w = y
    · rw [if_pos e, List.mem_append, h.mem]
      by_cases e2 : z = x
      · rw [if_pos ⟨e.symm, e2⟩]; simp [e2]
      · rw [if_neg (fun g => e2 g.2), e]; simp [e2]
    · rw [if_neg e, if_neg (fun g => e g.1.symm), h.mem]
theorem prop_wait (hS : AInv S i) {w x : Int} (hx : S.has w x = false) (y : Int) : mwt (propA S x w) x y = if w = y then some (.agg #[iv (S.most x + 1), iv x, .bool false]) else mwt S x y := by
  have hk : S.knew w x = false := by
    cases h : S.knew w x
    · rfl
    · have := hS.knewr w x h
      rw [this.2.2 x this.1 this.2.1] at hx; cases hx
  by_cases e : w = y
  · subst e
    rw [if_pos rfl]
    have hh : w ∉ S.heard x := fun hm => by have := hS.heardr x w hm; rw [hk] at this; cases this
    have hw : waitS (propA S x w) x w = true := by rw [waitS_iff]; simp only [propA]; simp [hh]
    unfold mwt wtV tS
    rw [hw]
    simp [propA, hk]
  · rw [if_neg e]
    have hy : ∀ z, (propA S x w).gN y z = S.gN y z := fun z => by simp only [propA]; rw [if_neg (fun g => e g.1.symm)]
    have hf : final (propA S x w) y = final S y := final_congr rfl hy
    have hs : stp (propA S x w) y x = stp S y x := by unfold stp; rw [hy]
    have hw : waitS (propA S x w) x y = waitS S x y := by unfold waitS; simp only [propA]; rw [if_neg (fun g => e g.1.symm)]
    unfold mwt wtV tS
    rw [hw, hf, hs]; rfl
theorem prop_other (hS : AInv S i) {w x : Int} (hin : 0 ≤ x ∧ x < S.n) (hx : S.has w x = false) {z : Int} (hz : z ≠ x) : S.most z = (propA S x w).most z ∧ S.heard z = (propA S x w).heard z ∧ mwt S z = mwt (propA S x w) z ∧ mkn S z = mkn (propA S x w) z := by
  refine ⟨by simp only [propA]; rw [if_neg hz], rfl, ?_, rfl⟩
  funext y
  have hw : waitS (propA S x w) z y = waitS S z y := by unfold waitS; simp only [propA]; rw [if_neg (fun g => hz g.2)]
  have hs : stp (propA S x w) y z = stp S y z := by unfold stp; simp only [propA]; rw [if_neg (fun g => hz g.2)]
  have ht : tS (propA S x w) z y = tS S z y := by
    unfold tS
    show (if S.knew y z then _ else _) = _
    cases hk : S.knew y z
    · simp [hs]
    · have hyw : y ≠ w := fun e => by
        have h1 := hS.knewr y z hk
        have := h1.2.2 x hin.1 hin.2
        rw [e, hx] at this; cases this
      simp only [if_true]
      exact final_congr rfl fun z' => by simp only [propA]; rw [if_neg (fun g => hyw g.1)]
  unfold mwt wtV
  rw [hw, ht]; rfl
theorem propose_h (b : Nat) (S : AS) (x w : Int) (hi : i ≤ 200) (hS : AInv S i) :
    HSpec prog w0 27 [ptr b, iv x, iv w] (agrP b S) (fun v => pur (v = .tuple #[stV (proposeA S x w).2.1, errV (proposeA S x w).2.2]) * agrP b (proposeA S x w).1) := by
  refine HSpec.intro (n := 85) func27 rfl rfl rfl (by kernel_rfl) fun R => ?_
  refine go fun b6 => ?_
  refine go ?_
  refine PO.callh rfl (acheck_h b S x w) rfl fun v => ?_
  refine PO.ent (Ent.assoc _ _ _) (PO.pur fun hv => ?_)
  subst hv
  by_cases he : agrE S.n x w (S.was w) = 0
  · rw [he]
    obtain ⟨x0, x1, w1, w2, hW⟩ := agrE_0 he
    obtain ⟨n, rfl⟩ := Int.eq_ofNat_of_zero_le x0
    have hn : n < S.n := by omega
    have hm := hS.mostr n
    have hn5 := hS.n5
    refine agrP_open fun mv bg bh mb G Wh hok => ?_
    have hlen : ((List.range S.n).map mb).length = S.n := by simp
    refine PO.osl_some (v := mv) (by omega) fun qb qo c hmv hqc => ?_
    subst hmv
    refine PO.rd (v := .slice (some ⟨qb, qo, none⟩) ((List.range S.n).map mb).length c) encP_ok fun hel => ?_
    obtain ⟨_, _, hq2, hcell⟩ := hel.cell1 (enc := fun b : Nat => Value.pointer (some ⟨b, 0, none⟩)) (j := n) (x := mb n) (by simp [hn])
    simp only [Option.some.injEq, Addr.mk.injEq, and_true] at hq2
    obtain ⟨rfl, rfl⟩ := hq2
    refine go ?_
    refine PO.payRd (T := 3) (k := 1) (W := Wh) encI_ok w rfl fun u hu hul => ?_
    refine PO.o rfl (OpV.lookup1 (k := w) (enc := encK) rfl rfl rfl rfl rfl rfl int_key hu) ?_
    refine go ?_
    refine PO.callr rfl (contains_r u (oxs Wh w) n (hul.ent Ent.fr) (by have := hok.len hS w; omega)) rfl ?_
    rw [hok.any]
    refine go ?_
    cases hX : S.has w n
    · have hp : proposeA S n w = (propA S n w, (S.most n + 1, (n : Int)), 0) := by unfold proposeA; rw [if_neg (fun g => g he), if_neg (by simp [hX])]
      refine go ?_
      refine PO.o rfl (OpV.loadF hcell rfl rfl rfl rfl) ?_
      refine PO.fold (mems_take (S := S) (mb := mb) hn) ?_
      refine PO.pull (memP S n (mb n)) ?_
      refine memP_open fun hv bw bk wl kl hwl hkl => ?_
      refine go fun b10 => ?_
      refine go ?_
      refine PO.regionF (omap encK bw wl) (by kernel_rfl) ?_
      refine tk 0 ?_
      refine tk 1 ?_
      refine tk 2 ?_
      refine tk 3 ?_
      refine tk 4 ?_
      refine tk 5 ?_
      refine tk 6 ?_
      refine PO.any [7] (by kernel_rfl) (by simp) (OneOf.cons rfl ?_ OneOf.nil)
      refine PO.mapUpdate (k := w) (enc := encK) (.inl rfl) rfl rfl rfl rfl rfl int_key ?_
      refine PO.kept (Ent.right _ _) ?_
      refine PO.anyDone (by kernel_rfl) ?_
      have hw' : ∀ y, mget (mset wl w (.agg #[iv (S.most n + 1), iv n, .bool false])) y = mwt (propA S n w) n y := fun y => by
        rw [mget_mset, prop_wait hS hX y, hwl]
      have hm' : (propA S n w).most n = S.most n + 1 := by simp [propA]
      have hgl : (oxs G w).length ≤ 5 := by rw [hok.ord]; have := hok.len hS w; simp; omega
      have hhl : (oxs Wh w).length ≤ 5 := by have := hok.len hS w; omega
      refine PO.ent (memP_close (propA S n w) n (mb n) hv bw bk (mset wl w (.agg #[iv (S.most n + 1), iv n, .bool false])) kl hw' hkl (l := S.heard n) hm' rfl) ?_
      refine go ?_
      refine PO.mid (α := Value) (fun _ => True) (fun _ => [(0, ptr b), (1, iv n), (2, iv w), (6, ptr b6), (10, ptr b10)]) (fun vg => omap encK bg (omv (oset G w (vg, oxs G w ++ [(S.most n + 1, (n : Int))]))) * (pays paySt (oset G w (vg, oxs G w ++ [(S.most n + 1, (n : Int))])) * (omap encK bh (omv Wh) * (pays payI Wh * (cels b10 [iv (S.most n + 1), iv n] 64 * (memP (propA S n w) n (mb n) * (sepL (fun x : Nat => memP S x (mb x)) ((List.range S.n).erase n) * (cels b [.slice (some ⟨qb, qo, none⟩) ((List.range S.n).map mb).length c, .map (some bg), .map (some bh)] 143 * (osl 144 1 encP (.slice (some ⟨qb, qo, none⟩) ((List.range S.n).map mb).length c) ((List.range S.n).map mb) * (cels b6 [iv 0, iv 0] 64 * R)))))))))) ?_ ?_
      · refine PO.regionF (omap encK bg (omv G) * pays paySt G) (by kernel_rfl) ?_
        refine PO.payOut (T := 64) (k := 2) (enc := encS) (W := G) w rfl fun ug hug => ?_
        refine tk 0 ?_
        refine tk 1 ?_
        refine tk 2 ?_
        refine tk 3 ?_
        refine tk 4 ?_
        refine tk 5 ?_
        refine tk 6 ?_
        refine tk 7 ?_
        refine tk 8 ?_
        refine tk 9 ?_
        refine tk 11 ?_
        refine PO.any [10, 12] (by kernel_rfl) (by simp) (OneOf.cons rfl ?_ (OneOf.cons rfl ?_ OneOf.nil))
        · refine PO.o rfl (OpV.lookup1 (k := w) (enc := encK) rfl rfl rfl rfl rfl rfl int_key hug) ?_
          refine PO.kept Ent.fr ?_
          refine PO.any [12] (by kernel_rfl) (by simp) (OneOf.cons rfl ?_ OneOf.nil)
          refine PO.buildSlice (cs := [iv (S.most n + 1), iv n]) rfl rfl rfl rfl rfl rfl rfl rfl rfl rfl rfl rfl fun bs => ?_
          refine PO.kept Ent.fr ?_
          refine PO.any [13] (by kernel_rfl) (by simp) (OneOf.cons rfl ?_ OneOf.nil)
          refine PO.append (k := 2) rfl rfl rfl rfl rfl rfl rfl rfl encS_ok (Elems.ofBlk (b := bs) (ys := [(S.most n + 1, (n : Int))]) encS_ok rfl rfl) (by show (_ + 1) * (2 * 16) ≤ _; omega) (by show _ + 1 < _; omega) rfl fun vg => ?_
          refine PO.kept Ent.fr ?_
          refine PO.any [14] (by kernel_rfl) (by simp) (OneOf.cons rfl ?_ OneOf.nil)
          refine PO.mapUpdate (k := w) (enc := encK) (.inl rfl) rfl rfl rfl rfl rfl int_key ?_
          refine PO.fold (pays_back (T := 64) (k := 2) (enc := encS) G w vg (oxs G w ++ [(S.most n + 1, (n : Int))])) ?_
          rw [← omv_oset w vg (oxs G w ++ [(S.most n + 1, (n : Int))])]
          refine PO.kept Ent.fr ?_
          refine PO.anyDone (by kernel_rfl) ?_
          exact PO.meet vg trivial Ent.fr
        · refine PO.buildSlice (cs := [iv (S.most n + 1), iv n]) rfl rfl rfl rfl rfl rfl rfl rfl rfl rfl rfl rfl fun bs => ?_
          refine PO.kept Ent.fr ?_
          refine PO.any [10] (by kernel_rfl) (by simp) (OneOf.cons rfl ?_ OneOf.nil)
          refine PO.o rfl (OpV.lookup1 (k := w) (enc := encK) rfl rfl rfl rfl rfl rfl int_key hug) ?_
          refine PO.kept Ent.fr ?_
          refine PO.any [13] (by kernel_rfl) (by simp) (OneOf.cons rfl ?_ OneOf.nil)
          refine PO.append (k := 2) rfl rfl rfl rfl rfl rfl rfl rfl encS_ok (Elems.ofBlk (b := bs) (ys := [(S.most n + 1, (n : Int))]) encS_ok rfl rfl) (by show (_ + 1) * (2 * 16) ≤ _; omega) (by show _ + 1 < _; omega) rfl fun vg => ?_
          refine PO.kept Ent.fr ?_
          refine PO.any [14] (by kernel_rfl) (by simp) (OneOf.cons rfl ?_ OneOf.nil)
          refine PO.mapUpdate (k := w) (enc := encK) (.inl rfl) rfl rfl rfl rfl rfl int_key ?_
          refine PO.fold (pays_back (T := 64) (k := 2) (enc := encS) G w vg (oxs G w ++ [(S.most n + 1, (n : Int))])) ?_
          rw [← omv_oset w vg (oxs G w ++ [(S.most n + 1, (n : Int))])]
          refine PO.kept Ent.fr ?_
          refine PO.anyDone (by kernel_rfl) ?_
          exact PO.meet vg trivial Ent.fr
      intro vg _
      refine go ?_
      refine PO.mid (α := Value) (fun _ => True) (fun _ => [(0, ptr b), (1, iv n), (2, iv w), (6, ptr b6), (10, ptr b10)]) (fun vw => omap encK bg (omv (oset G w (vg, oxs G w ++ [(S.most n + 1, (n : Int))]))) * (pays paySt (oset G w (vg, oxs G w ++ [(S.most n + 1, (n : Int))])) * (omap encK bh (omv (oset Wh w (vw, oxs Wh w ++ [(n : Int)]))) * (pays payI (oset Wh w (vw, oxs Wh w ++ [(n : Int)])) * (cels b10 [iv (S.most n + 1), iv n] 64 * (memP (propA S n w) n (mb n) * (sepL (fun x : Nat => memP S x (mb x)) ((List.range S.n).erase n) * (cels b [.slice (some ⟨qb, qo, none⟩) ((List.range S.n).map mb).length c, .map (some bg), .map (some bh)] 143 * (osl 144 1 encP (.slice (some ⟨qb, qo, none⟩) ((List.range S.n).map mb).length c) ((List.range S.n).map mb) * (cels b6 [iv 0, iv 0] 64 * R)))))))))) ?_ ?_
      · refine PO.regionF (omap encK bh (omv Wh) * pays payI Wh) (by kernel_rfl) ?_
        refine PO.payOut (T := 3) (k := 1) (enc := encI) (W := Wh) w rfl fun uw huw => ?_
        refine tk 0 ?_
        refine tk 1 ?_
        refine tk 2 ?_
        refine tk 3 ?_
        refine tk 4 ?_
        refine tk 5 ?_
        refine tk 6 ?_
        refine tk 7 ?_
        refine tk 8 ?_
        refine tk 9 ?_
        refine tk 11 ?_
        refine PO.any [10, 12] (by kernel_rfl) (by simp) (OneOf.cons rfl ?_ (OneOf.cons rfl ?_ OneOf.nil))
        · refine PO.o rfl (OpV.lookup1 (k := w) (enc := encK) rfl rfl rfl rfl rfl rfl int_key huw) ?_
          refine PO.kept Ent.fr ?_
          refine PO.any [12] (by kernel_rfl) (by simp) (OneOf.cons rfl ?_ OneOf.nil)
          refine PO.buildSlice (cs := [iv n]) rfl rfl rfl rfl rfl rfl rfl rfl rfl rfl rfl rfl fun bs => ?_
          refine PO.kept Ent.fr ?_
          refine PO.any [13] (by kernel_rfl) (by simp) (OneOf.cons rfl ?_ OneOf.nil)
          refine PO.append (k := 1) rfl rfl rfl rfl rfl rfl rfl rfl encI_ok (Elems.ofBlk (b := bs) (ys := [(n : Int)]) encI_ok rfl rfl) (by show (_ + 1) * (2 * 8) ≤ _; omega) (by show _ + 1 < _; omega) rfl fun vg => ?_
          refine PO.kept Ent.fr ?_
          refine PO.any [14] (by kernel_rfl) (by simp) (OneOf.cons rfl ?_ OneOf.nil)
          refine PO.mapUpdate (k := w) (enc := encK) (.inl rfl) rfl rfl rfl rfl rfl int_key ?_
          refine PO.fold (pays_back (T := 3) (k := 1) (enc := encI) Wh w vg (oxs Wh w ++ [(n : Int)])) ?_
          rw [← omv_oset w vg (oxs Wh w ++ [(n : Int)])]
          refine PO.kept Ent.fr ?_
          refine PO.anyDone (by kernel_rfl) ?_
          exact PO.meet vg trivial Ent.fr
        · refine PO.buildSlice (cs := [iv n]) rfl rfl rfl rfl rfl rfl rfl rfl rfl rfl rfl rfl fun bs => ?_
          refine PO.kept Ent.fr ?_
          refine PO.any [10] (by kernel_rfl) (by simp) (OneOf.cons rfl ?_ OneOf.nil)
          refine PO.o rfl (OpV.lookup1 (k := w) (enc := encK) rfl rfl rfl rfl rfl rfl int_key huw) ?_
          refine PO.kept Ent.fr ?_
          refine PO.any [13] (by kernel_rfl) (by simp) (OneOf.cons rfl ?_ OneOf.nil)
          refine PO.append (k := 1) rfl rfl rfl rfl rfl rfl rfl rfl encI_ok (Elems.ofBlk (b := bs) (ys := [(n : Int)]) encI_ok rfl rfl) (by show (_ + 1) * (2 * 8) ≤ _; omega) (by show _ + 1 < _; omega) rfl fun vg => ?_
          refine PO.kept Ent.fr ?_
          refine PO.any [14] (by kernel_rfl) (by simp) (OneOf.cons rfl ?_ OneOf.nil)
          refine PO.mapUpdate (k := w) (enc := encK) (.inl rfl) rfl rfl rfl rfl rfl int_key ?_
          refine PO.fold (pays_back (T := 3) (k := 1) (enc := encI) Wh w vg (oxs Wh w ++ [(n : Int)])) ?_
          rw [← omv_oset w vg (oxs Wh w ++ [(n : Int)])]
          refine PO.kept Ent.fr ?_
          refine PO.anyDone (by kernel_rfl) ?_
          exact PO.meet vg trivial Ent.fr
      intro vw _
      refine go ?_
      refine PO.fold (mems_put (S := S) (S' := propA S n w) (mb := mb) hn rfl (fun y hy => prop_other hS ⟨x0, x1⟩ hX (by omega))) ?_
      refine PO.returnC rfl (Ret.cell rfl rfl rfl rfl (Ret.tmp rfl Ret.nil)) (Ent.purL ?_ ?_)
      · rw [hp]; rfl
      · rw [hp]
        exact agrP_close b (propA S n w) (.slice (some ⟨qb, qo, none⟩) ((List.range S.n).map mb).length c) bg bh S.n mb (oset G w (vg, oxs G w ++ [(S.most n + 1, (n : Int))])) (oset Wh w (vw, oxs Wh w ++ [(n : Int)])) (hok.prop' hW hX vg vw) rfl rfl
    · have hp : proposeA S n w = (S, (0, 0), 7) := by unfold proposeA; rw [if_neg (fun g => g he), if_pos hX]
      refine go ?_
      refine PO.returnC rfl (Ret.cell rfl rfl rfl rfl (Ret.tmp rfl Ret.nil)) (Ent.purL ?_ ?_)
      · rw [hp]; rfl
      · rw [hp]; exact agrP_close b S (.slice (some ⟨qb, qo, none⟩) ((List.range S.n).map mb).length c) bg bh S.n mb G Wh hok rfl rfl
  · rw [errV_ne he]
    refine go ?_
    refine PO.returnC rfl (Ret.cell rfl rfl rfl rfl (Ret.tmp rfl Ret.nil)) (Ent.purL ?_ ?_)
    · unfold proposeA; rw [if_pos he]; simp only [packed]; rw [errV_ne he]
    · unfold proposeA; rw [if_pos he]; exact Ent.fr
end Go.Proofs.Tryd
