/- Package agree: Settle. -/
import Derived.Test.YtgphmpppekghbaaDoorAgr4
namespace Go.Proofs.Tryd
open Go.Sl
set_option maxHeartbeats 1000000
attribute [local irreducible] Go.wpList Go.Code.wp Go.wpQuiet PO PQ AnyH
variable {w0 : World} {H R : HProp} {S S' : AS} {i : Nat} {x : Int} {G : OM Int (List Stp)} {Wh : OM Int (List Int)}
theorem AgrOk.all (h : AgrOk S G Wh) (hS : AInv S i) (w : Int) : allA S w ↔ ¬ (oxs G w).length < S.n := by
  have hl : (oxs G w).length = (oxs Wh w).length := by rw [h.ord]; simp
  have hle := h.len hS w
  rw [hl]
  constructor
  · intro ha
    have h1 : ((List.range S.n).map fun k : Nat => (k : Int)).Nodup := by
      have := List.nodup_range (n := S.n)
      rw [List.nodup_iff_pairwise_ne] at this ⊢
      rw [List.pairwise_map]
      exact this.imp fun hne e => hne (by omega)
    have := nodup_length h1 (m := oxs Wh w) fun y hy => by
      obtain ⟨k, hk, rfl⟩ := List.mem_map.1 hy
      have := List.mem_range.1 hk
      exact (h.mem w k).2 (ha k (by omega) (by omega))
    simp at this; omega
  · intro hn y y0 y1
    rw [← h.mem]
    by_cases hy : y ∈ oxs Wh w
    · exact hy
    · have h1 : ((y :: oxs Wh w).map fun x => x + 1).Nodup := by
        have h2 : (y :: oxs Wh w).Nodup := List.nodup_cons.2 ⟨hy, h.nod w⟩
        rw [List.nodup_iff_pairwise_ne] at h2 ⊢
        rw [List.pairwise_map]
        exact h2.imp fun hne e => hne (by omega)
      have := nodup_le S.n h1 fun z hz => by
        obtain ⟨k, hk, rfl⟩ := List.mem_map.1 hz
        rcases List.mem_cons.1 hk with rfl | hk
        · omega
        · have := hS.hasr w k ((h.mem w k).1 hk); omega
      simp at this; omega
theorem know_wait (hS : AInv S i) {w : Int} (hh : S.has w x = true) (hk : S.knew w x = false) (y : Int) : mwt (knowA S x w) x y = if w = y then some (.agg #[iv (final S w).1, iv (final S w).2, .bool true]) else mwt S x y := by
  have hw : ∀ y, waitS (knowA S x w) x y = waitS S x y := fun _ => rfl
  have hf : ∀ y, final (knowA S x w) y = final S y := fun y => final_congr rfl fun _ => rfl
  by_cases e : w = y
  · subst e
    rw [if_pos rfl]
    have hn : w ∉ S.heard x := fun hm => by have := hS.heardr x w hm; rw [hk] at this; cases this
    have h1 : waitS S x w = true := waitS_iff.2 ⟨hh, hn⟩
    have hkn : (knowA S x w).knew w x = true := by simp [knowA]
    unfold mwt wtV tS
    rw [hw, h1, hkn, hf]; simp
  · rw [if_neg e]
    have hkn : (knowA S x w).knew y x = S.knew y x := by simp only [knowA]; rw [if_neg (fun g => e g.1.symm)]
    unfold mwt wtV tS
    rw [hw, hkn, hf]; rfl
theorem know_kn {w y : Int} : mkn (knowA S x w) x y = if w = y then some (.bool true) else mkn S x y := by
  by_cases e : w = y
  · rw [if_pos e]
    simp [mkn, knowA, e]
  · rw [if_neg e]
    simp [mkn, knowA, show ¬ y = w from fun g => e g.symm]
theorem know_other {w z : Int} (hz : z ≠ x) : S.most z = (knowA S x w).most z ∧ S.heard z = (knowA S x w).heard z ∧ mwt S z = mwt (knowA S x w) z ∧ mkn S z = mkn (knowA S x w) z := by
  have hkn : ∀ y, (knowA S x w).knew y z = S.knew y z := fun y => by simp only [knowA]; rw [if_neg (fun g => hz g.2)]
  have hf : ∀ y, final (knowA S x w) y = final S y := fun y => final_congr rfl fun _ => rfl
  refine ⟨by simp only [knowA]; rw [if_neg hz], rfl, ?_, ?_⟩
  · funext y
    have hw : waitS (knowA S x w) z y = waitS S z y := rfl
    unfold mwt wtV tS
    rw [hw, hkn, hf]; rfl
  · funext y
    unfold mkn
    rw [hkn]
theorem hear_other {z : Int} (out : List Int) (hz : z ≠ x) : S.most z = (heardA S x out).most z ∧ S.heard z = (heardA S x out).heard z ∧ mwt S z = mwt (heardA S x out) z ∧ mkn S z = mkn (heardA S x out) z := by
  refine ⟨rfl, by simp [heardA, hz], ?_, rfl⟩
  funext y
  have hw : waitS (heardA S x out) z y = waitS S z y := by unfold waitS; simp [heardA, hz]
  have hv : wtV (heardA S x out) z y = wtV S z y := rfl
  unfold mwt
  rw [hw, hv]
theorem AgrOk.same (h : AgrOk S G Wh) (h1 : S.was = S'.was) (h2 : S.gN = S'.gN) (h3 : S.has = S'.has) : AgrOk S' G Wh :=
  ⟨fun w => by rw [h.was, h1], fun w => by rw [h.ord, h2], h.nod, fun w x => by rw [h.mem, h3]⟩
/-- The greatest of what was given. -/
theorem AgrOk.isFin (h : AgrOk S G Wh) {w : Int} (ha : allA S w) (hS : AInv S i) {m : Stp} (hm : m ∈ oxs G w) (hle : ∀ y ∈ oxs G w, lessS m y = false) : final S w = m := by
  refine IsFin.final ⟨?_, fun z z0 z1 => hle _ ?_⟩
  · rw [h.ord] at hm
    obtain ⟨z, hz, rfl⟩ := List.mem_map.1 hm
    have := hS.hasr w z ((h.mem w z).1 hz)
    exact ⟨z, this.2.1, this.2.2, rfl⟩
  · rw [h.ord]
    exact List.mem_map.2 ⟨z, (h.mem w z).2 (ha z z0 z1), rfl⟩
theorem settle_h (b : Nat) (S : AS) (x w : Int) (hi : i ≤ 200) (hS : AInv S i) :
    HSpec prog w0 29 [ptr b, iv x, iv w] (agrP b S) (fun v => (ex fun u : Value => pur (v = .tuple #[u, errV (settleA S x w).2.2]) * ints u 3 (settleA S x w).2.1) * agrP b (settleA S x w).1) := by
  refine HSpec.intro (n := 98) func29 rfl rfl rfl (by kernel_rfl) fun R => ?_
  have bad : ∀ (e : Int) (hs : settleA S x w = (S, [], e)) {X : HProp} (hX : Ent X (agrP b S * R)) (v : Value) (_ : v = .tuple #[nilS, errV e]), Ent X ((ex fun u : Value => pur (v = .tuple #[u, errV (settleA S x w).2.2]) * ints u 3 (settleA S x w).2.1) * agrP b (settleA S x w).1 * R) := by
    intro e hs X hX v hv
    rw [hs]
    refine hX.trans (((Ent.emp_star _).trans (Ent.star (fun h _ => ?_) (Ent.refl _))).trans (Ent.assoc' _ _ _))
    exact ⟨nilS, (Ent.frp (H := emp) hv osl_nil) h trivial⟩
  refine go ?_
  refine PO.callh rfl (acheck_h b S x w) rfl fun v => ?_
  refine PO.ent (Ent.assoc _ _ _) (PO.pur fun hv => ?_)
  subst hv
  by_cases he : agrE S.n x w (S.was w) = 0
  · rw [he]
    obtain ⟨x0, x1, w1, w2, hW⟩ := agrE_0 he
    obtain ⟨n, rfl⟩ := Int.eq_ofNat_of_zero_le x0
    have hn : n < S.n := by omega
    have hm := hS.mostr n
    have hn5 := hS.n5
    refine agrP_open fun mv bg bh mb G Wh hok => ?_
    have hlen : ((List.range S.n).map mb).length = S.n := by simp
    have hgl : (oxs G w).length ≤ 5 := by rw [hok.ord]; have := hok.len hS w; simp; omega
    refine PO.osl_some (v := mv) (by omega) fun qb qo c hmv hqc => ?_
    subst hmv
    refine PO.rd (v := .slice (some ⟨qb, qo, none⟩) ((List.range S.n).map mb).length c) encP_ok fun hel => ?_
    obtain ⟨_, _, hq2, hcell⟩ := hel.cell1 (enc := fun b : Nat => Value.pointer (some ⟨b, 0, none⟩)) (j := n) (x := mb n) (by simp [hn])
    simp only [Option.some.injEq, Addr.mk.injEq, and_true] at hq2
    obtain ⟨rfl, rfl⟩ := hq2
    refine PO.payRd (T := 64) (k := 2) (W := G) encS_ok w rfl fun ug hug hugl => ?_
    obtain ⟨gq, gc, rfl⟩ := hugl.shape
    refine go ?_
    refine PO.o rfl (OpV.loadF hcell rfl rfl rfl rfl) ?_
    refine go ?_
    refine PO.regionQ (by kernel_rfl) (by kernel_rfl) ?_
    refine goQ ?_
    refine PQ.o rfl (OpV.lookup1 (k := w) (enc := encK) rfl rfl rfl rfl rfl rfl int_key hug) ?_
    refine goQ ?_
    refine go ?_
    have hall := hok.all hS w
    refine PO.csplit rfl (fun h => ?_) (fun h => ?_)
    · have hna : ¬ allA S w := fun g => hall.1 g (by have := of_decide_eq_true h; omega)
      have hs : settleA S n w = (S, [], 6) := by unfold settleA; rw [if_neg (fun g => g he), if_pos hna]
      refine go ?_
      exact PO.return_ rfl rfl (bad 6 hs (agrP_close b S (.slice (some ⟨qb, qo, none⟩) ((List.range S.n).map mb).length c) bg bh S.n mb G Wh hok rfl rfl) _ rfl)
    · have ha : allA S w := hall.2 (by have := of_decide_eq_false h; omega)
      have hgn : ¬ (oxs G w).length < S.n := hall.1 ha
      refine PO.fold (mems_take (S := S) (mb := mb) hn) ?_
      refine PO.pull (memP S n (mb n)) ?_
      refine memP_open fun hv bw bk wl kl hwl hkl => ?_
      have hkv : (mget kl w).getD (.bool false) = .bool (S.knew w n) := by rw [hkl]; unfold mkn; cases S.knew w n <;> rfl
      refine go ?_
      refine PO.o rfl (OpV.lookup1 (k := w) (enc := encK) rfl rfl rfl rfl rfl rfl int_key hkv) ?_
      refine go ?_
      cases hK : S.knew w n
      · have hs : settleA S n w = ((hearS (knowA S n w) n).2, (hearS (knowA S n w) n).1, 0) := by unfold settleA; rw [if_neg (fun g => g he), if_neg (fun g => g ha), if_neg (by simp [hK])]
        have h0 : 0 < (oxs G w).length := by omega
        obtain ⟨gb, go_, rfl, hg0⟩ := hugl.cellsAt (j := 0) (x := (oxs G w)[0]) (by simp [h0])
        refine go ?_
        refine PO.o rfl (OpV.lookup1 (k := w) (enc := encK) rfl rfl rfl rfl rfl rfl int_key hug) ?_
        refine go ?_
        refine PO.o rfl (OpV.loadH_agg (vs := encS (oxs G w)[0]) rfl rfl rfl rfl rfl (fun ww hw => hg0 ww (hw.ent Ent.fr))) ?_
        refine go fun b10 => ?_
        refine go ?_
        refine PO.o rfl (OpV.lookup1 (k := w) (enc := encK) rfl rfl rfl rfl rfl rfl int_key hug) ?_
        refine go ?_
        refine PO.while2 (fun (j : Nat) (m : Stp) => j ≤ (oxs G w).length ∧ m ∈ oxs G w ∧ ∀ y ∈ (oxs G w).take j, lessS m y = false) (fun j _ => [(65, iv j), (64, iv (oxs G w).length), (63, .slice (some ⟨gb, go_, none⟩) (oxs G w).length gc), (10, ptr b10), (9, ptr (mb n)), (2, iv w), (0, ptr b)])
          (fun _ m => cels b10 [iv m.1, iv m.2] 64 * (cels (mb n) [iv (S.most n), .map (some bw), .map (some bk), hv] 148 * (ints hv 3 (S.heard n) * (omap encK bw wl * (omap encK bk kl * (sepL (fun x : Nat => memP S x (mb x)) ((List.range S.n).erase n) * (cels b [.slice (some ⟨qb, qo, none⟩) ((List.range S.n).map mb).length c, .map (some bg), .map (some bh)] 143 * (osl 144 1 encP (.slice (some ⟨qb, qo, none⟩) ((List.range S.n).map mb).length c) ((List.range S.n).map mb) * (omap encK bg (omv G) * (pays paySt G * (omap encK bh (omv Wh) * (pays payI Wh * R)))))))))))) (fun j _ => (oxs G w).length - j) 0 (oxs G w)[0] ⟨Nat.zero_le _, List.getElem_mem h0, by simp⟩ Ent.fr ?_
        rintro j m ⟨hj, hm1, hm2⟩
        refine go ?_
        refine PO.csplit rfl (fun h3 => ?_) (fun h3 => ?_)
        · have hlt : j < (oxs G w).length := by have := of_decide_eq_true h3; omega
          obtain ⟨_, _, hq3, hgj⟩ := hugl.cellsAt (j := j) (x := (oxs G w)[j]) (by simp [hlt])
          simp only [Option.some.injEq, Addr.mk.injEq, and_true] at hq3
          obtain ⟨rfl, rfl⟩ := hq3
          have htk : ∀ y ∈ (oxs G w).take (j + 1), y ∈ (oxs G w).take j ∨ y = (oxs G w)[j] := fun y hy => by
            rw [List.take_succ_eq_append_getElem hlt] at hy
            rcases List.mem_append.1 hy with h | h
            · exact .inl h
            · exact .inr (by simpa using h)
          refine go ?_
          refine PO.o rfl (OpV.loadH_agg (vs := encS (oxs G w)[j]) rfl rfl rfl rfl rfl (fun ww hw => hgj ww (hw.ent Ent.fr))) ?_
          refine go fun b12 => ?_
          refine go ?_
          refine PO.callr rfl (less_r m (oxs G w)[j]) rfl ?_
          refine go ?_
          refine PO.csplit rfl (fun h4 => ?_) (fun h4 => ?_)
          · refine go ?_
            refine PO.again2 (j + 1) (oxs G w)[j] ⟨hlt, List.getElem_mem hlt, fun y hy => ?_⟩ (by omega) Ent.fr
            rcases htk y hy with h | rfl
            · exact lessS_trans (lessS_lt h4) (hm2 y h)
            · exact lessS_refl _
          · refine go ?_
            refine PO.again2 (j + 1) m ⟨hlt, hm1, fun y hy => ?_⟩ (by omega) Ent.fr
            rcases htk y hy with h | rfl
            · exact hm2 y h
            · exact h4
        · have hje : j = (oxs G w).length := by have := of_decide_eq_false h3; omega
          rw [hje, List.take_length] at hm2
          have hfin : final S w = m := hok.isFin ha hS hm1 hm2
          have hK1 := hS.know he ha hK
          have hmx : (knowA S n w).most n = max (S.most n) m.1 := by simp [knowA, hfin]
          have hwl' : ∀ y, mget (mset wl w (.agg #[iv m.1, iv m.2, .bool true])) y = mwt (knowA S n w) n y := fun y => by
            rw [mget_mset, know_wait hS (ha n x0 x1) hK y, hwl, hfin]
          have hkl' : ∀ y, mget (mset kl w (.bool true)) y = mkn (knowA S n w) n y := fun y => by
            rw [mget_mset, know_kn, hkl]
          refine go ?_
          refine PO.mapUpdate (k := w) (enc := encK) (.inl rfl) rfl rfl rfl rfl rfl int_key ?_
          refine go ?_
          refine PO.regionF (cels (mb n) [iv (S.most n), .map (some bw), .map (some bk), hv] 148) (by kernel_rfl) ?_
          refine tk 0 ?_
          refine tk 1 ?_
          refine tk 2 ?_
          refine tk 3 ?_
          refine tk 5 ?_
          refine tk 6 ?_
          refine PO.any [4] (by kernel_rfl) (by simp) (OneOf.cons rfl ?_ OneOf.nil)
          refine PO.o rfl (OpV.load rfl rfl rfl rfl rfl) ?_
          refine PO.kept (Ent.right _ _) ?_
          refine tk 7 ?_
          refine tk 8 ?_
          refine tk 9 ?_
          refine PO.any [10] (by kernel_rfl) (by simp) (OneOf.cons rfl ?_ OneOf.nil)
          refine PO.store rfl rfl rfl rfl rfl rfl rfl rfl rfl ?_
          refine PO.kept (Ent.right _ _) ?_
          refine PO.anyDone (by kernel_rfl) ?_
          refine go ?_
          refine PO.regionF (omap encK bw wl) (by kernel_rfl) ?_
          refine tk 0 ?_
          refine tk 1 ?_
          refine tk 2 ?_
          refine tk 3 ?_
          refine tk 4 ?_
          refine tk 5 ?_
          refine tk 6 ?_
          refine PO.any [7] (by kernel_rfl) (by simp) (OneOf.cons rfl ?_ OneOf.nil)
          refine PO.mapUpdate (k := w) (enc := encK) (.inl rfl) rfl rfl rfl rfl rfl int_key ?_
          refine PO.kept (Ent.right _ _) ?_
          refine PO.anyDone (by kernel_rfl) ?_
          refine PO.ent (memP_close (knowA S n w) n (mb n) hv bw bk (mset wl w (.agg #[iv m.1, iv m.2, .bool true])) (mset kl w (.bool true)) hwl' hkl' (l := S.heard n) hmx rfl) ?_
          refine go ?_
          refine PO.callh rfl (hear_h (x := (n : Int)) (mb n) hK1) rfl fun v => ?_
          have hff := hear_fields (knowA S n w) n
          rw [hff] at hs
          rw [hff]
          refine PO.ent (Ent.assoc _ _ _) ?_
          refine PO.pull (memP (heardA (knowA S n w) n (hearS (knowA S n w) n).1) n (mb n)) ?_
          refine PO.fold (mems_put (S := S) (S' := heardA (knowA S n w) n (hearS (knowA S n w) n).1) (mb := mb) hn rfl (fun y hy => ?_)) ?_
          · have hy' : (y : Int) ≠ n := by omega
            obtain ⟨a1, a2, a3, a4⟩ := know_other (S := S) (w := w) hy'
            obtain ⟨c1, c2, c3, c4⟩ := hear_other (S := knowA S n w) (hearS (knowA S n w) n).1 hy'
            exact ⟨a1.trans c1, a2.trans c2, a3.trans c3, a4.trans c4⟩
          refine go ?_
          refine PO.return_ rfl rfl ?_
          rw [hs]
          refine (Ent.frs (A := ints v 3 (hearS (knowA S n w) n).1) (agrP_close (R := R) b (heardA (knowA S n w) n (hearS (knowA S n w) n).1) (.slice (some ⟨qb, qo, none⟩) ((List.range S.n).map mb).length c) bg bh S.n mb G Wh (hok.same rfl rfl rfl) rfl rfl)).trans ?_
          exact (Ent.assoc' _ _ _).trans (Ent.star (Ent.star (fun h hh => ⟨v, (Ent.frp rfl (Ent.refl _)) h hh⟩) (Ent.refl _)) (Ent.refl _))
      · have hs : settleA S n w = (S, [], 7) := by unfold settleA; rw [if_neg (fun g => g he), if_neg (fun g => g ha), if_pos hK]
        refine go ?_
        refine PO.ent (memP_close S n (mb n) hv bw bk wl kl hwl hkl rfl rfl) ?_
        refine PO.fold (mems_put (S' := S) (mb := mb) hn rfl (fun _ _ => ⟨rfl, rfl, rfl, rfl⟩)) ?_
        exact PO.return_ rfl rfl (bad 7 hs (agrP_close b S (.slice (some ⟨qb, qo, none⟩) ((List.range S.n).map mb).length c) bg bh S.n mb G Wh hok rfl rfl) _ rfl)
  · rw [errV_ne he]
    have hs : settleA S x w = (S, [], agrE S.n x w (S.was w)) := by unfold settleA; rw [if_pos he]
    refine go ?_
    refine PO.return_ rfl rfl (bad _ hs (Ent.refl _) _ ?_)
    simp only [packed]; rw [errV_ne he]
end Go.Proofs.Tryd
