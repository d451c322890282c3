/- The group that the statement sets beside: Settle's outer loop. -/
import Derived.Test.YtgphmpppekghbaaDoorAgrB
namespace Go.Proofs.Tryd
open Go.Sl
set_option maxHeartbeats 2000000
attribute [local irreducible] Go.wpList Go.Code.wp Go.wpQuiet PO PQ AnyH layA
variable {w0 : World} {H R : HProp} {S S' : AS} {i : Nat} {A A' : RA}
noncomputable def outerC : Code := sub rsetC [1, 1, 1, 1, 1, 1, 1, 1, 1, 0, 1]
theorem outer {Q : Exit → Act → World → Prop} {b n : Nat} {x : Int} (hx : x = n) (hS : AInv S i) (hok : RefOk S A) (hn : n < 5)
    (k : ∀ ov A', RefOk (hearS S x).2 A' → PO w0 153 [(11, ov)] (cels b (layA A') 69 * (hears (hearS S x).2 A' * (ints ov 3 (hearS S x).1 * R))) (Q .normal)) :
    PO w0 153 [(12, .bool true), (11, nilS), (0, ptr b), (1, iv n)] (cels b (layA A) 69 * (hears S A * R)) (outerC.wp prog Q) := by
  subst hx
  refine PO.addN (ints nilS 3 []) osl_nil ?_
  refine PO.block ?_
  refine PO.loop (fun p : List Int × Value × RA × Bool => AInv (heardA S n p.1) i ∧ RefOk (heardA S n p.1) p.2.2.1 ∧ hearS S n = (p.1 ++ (hearS (heardA S n p.1) n).1, (hearS (heardA S n p.1) n).2) ∧ (p.2.2.2 = false → hearS (heardA S n p.1) n = ([], heardA S n p.1)))
    (fun p => [(12, .bool p.2.2.2), (11, p.2.1), (0, ptr b), (1, iv n)])
    (fun p => cels b (layA p.2.2.1) 69 * (hears (heardA S n p.1) p.2.2.1 * (ints p.2.1 3 p.1 * R)))
    (fun p => 2 * (30 - p.1.length) + (if p.2.2.2 then 1 else 0)) ([], nilS, A, true) ⟨by rw [heardA_nil]; exact hS, by rw [heardA_nil]; exact hok, by rw [heardA_nil]; rfl, fun h => by cases h⟩ subs (by rw [heardA_nil]; exact Ent.fr) ?_
  clear hok
  rintro ⟨out, ov, A, ag⟩ ⟨hA, hok, hear, hag⟩
  simp only at hA hok hear hag
  have hlen : (S.heard n).length + out.length ≤ 30 := by
    have := hA.heard30 n
    simpa [heardA] using this
  cases ag
  · have h0 := hag rfl
    rw [h0, List.append_nil] at hear
    refine go ?_
    have k' := k ov A (by rw [hear]; exact hok)
    rw [hear] at k'
    exact PO.sub subs k'
  · refine go fun b14 => ?_
    refine go1 ?_
    refine PO.then_normal ?_
    refine PO.seq ?_
    refine PO.seq ?_
    refine go1 ?_
    refine PO.then_normal ?_
    refine PO.sub subs (inner hA hok hn ?_)
    refine PO.then_normal ?_
    by_cases h0 : best (heardA S n out) n = 0
    · rw [h0]
      refine go ?_
      exact PO.again (out, ov, A, false) ⟨hA, hok, hear, fun _ => hear_stop (.inl h0)⟩ (by simp) Ent.fr
    · have hw := best_wait h0
      have hwr := hA.word (waitS_iff.1 hw).1
      obtain ⟨bn, hbn⟩ := Int.eq_ofNat_of_zero_le (show 0 ≤ best (heardA S n out) n by omega)
      have hb31 : bn < 31 := by omega
      rw [hbn]
      refine go ?_
      refine PO.gsplit rfl rfl rfl rfl (fun _ => ?_) (fun h => absurd (of_decide_eq_false h) (by omega))
      refine go ?_
      refine PO.o rfl (OpV.load rfl rfl rfl rfl (layA_knew hb31 hn)) ?_
      rw [hok.knew bn hb31 n hn]
      cases hK : (heardA S n out).knew bn n
      · refine go ?_
        exact PO.again (out, ov, A, false) ⟨hA, hok, hear, fun _ => hear_stop (.inr (by rw [hbn]; exact hK))⟩ (by simp) Ent.fr
      · have hK' : (heardA S n out).knew (best (heardA S n out) n) n = true := by rw [hbn]; exact hK
        have hA' := hA.heard' (b := best (heardA S n out) n) hK' hw
        rw [heardA_step, hbn] at hA'
        have hl' : (S.heard n).length + (out.length + 1) ≤ 30 := by
          have := hA'.heard30 n
          simpa [heardA] using this
        have hst := hear_step hA rfl h0 hK' hw
        rw [heardA_step, hbn] at hst
        have hhl : ((heardA S n out).heard n).length ≤ 30 := hA.heard30 n
        refine go ?_
        refine PO.mid (α := Value) (fun _ => True) (fun _ => [(13, iv bn), (12, .bool false), (11, ov), (0, ptr b), (1, iv n)])
          (fun v' => cels b (layA { A with hv := upd1 A.hv n v' }) 69 * (ints v' 3 ((heardA S n out).heard n ++ [(bn : Int)]) * (sepL (fun y : Nat => ints (A.hv y) 3 ((heardA S n out).heard y)) ((List.range 5).erase n) * (ints ov 3 out * R)))) ?_ ?_
        · refine PO.fold (sepL_takeN (P := fun y : Nat => ints (A.hv y) 3 ((heardA S n out).heard y)) (List.mem_range.2 hn)) ?_
          refine PO.regionF (cels b (layA A) 69 * ints (A.hv n) 3 ((heardA S n out).heard n)) (by kernel_rfl) ?_
          refine tk 0 ?_
          refine tk 1 ?_
          refine tk 2 ?_
          refine tk 3 ?_
          refine tk 4 ?_
          refine tk 5 ?_
          refine tk 6 ?_
          refine tk 8 ?_
          refine tk 11 ?_
          refine tk 12 ?_
          refine PO.any [7, 9] (by kernel_rfl) (by simp) (OneOf.cons rfl ?_ (OneOf.cons rfl ?_ OneOf.nil))
          · refine PO.o rfl (OpV.load rfl rfl rfl rfl (layA_hv hn)) ?_
            refine PO.kept Ent.fr ?_
            refine PO.any [9] (by kernel_rfl) (by simp) (OneOf.cons rfl ?_ OneOf.nil)
            refine PO.buildSlice (cs := [iv ((bn : Int))]) rfl rfl rfl rfl rfl rfl rfl rfl rfl rfl rfl rfl fun bs => ?_
            refine PO.kept Ent.fr ?_
            refine PO.any [10] (by kernel_rfl) (by simp) (OneOf.cons rfl ?_ OneOf.nil)
            refine PO.append (k := 1) rfl rfl rfl rfl rfl rfl rfl rfl encI_ok (Elems.ofBlk (b := bs) (ys := [(bn : Int)]) encI_ok rfl rfl) (by show (_ + 1) * (2 * 8) ≤ _; omega) (by show _ + 1 < _; omega) rfl fun v' => ?_
            refine osl_oneN (v := v') fun hv1 => ?_
            refine PO.kept Ent.fr ?_
            refine tk 13 ?_
            refine PO.any [14] (by kernel_rfl) (by simp) (OneOf.cons rfl ?_ OneOf.nil)
            refine PO.storeA1 hv1 rfl rfl rfl rfl rfl (by show 0 + 657 + n + 1 ≤ 662; omega) (layA_setHv hn) ?_
            refine PO.kept Ent.fr ?_
            refine PO.anyDone (by kernel_rfl) ?_
            exact PO.meet v' trivial Ent.fr
          · refine PO.buildSlice (cs := [iv ((bn : Int))]) rfl rfl rfl rfl rfl rfl rfl rfl rfl rfl rfl rfl fun bs => ?_
            refine PO.kept Ent.fr ?_
            refine PO.any [7] (by kernel_rfl) (by simp) (OneOf.cons rfl ?_ OneOf.nil)
            refine PO.o rfl (OpV.load rfl rfl rfl rfl (layA_hv hn)) ?_
            refine PO.kept Ent.fr ?_
            refine PO.any [10] (by kernel_rfl) (by simp) (OneOf.cons rfl ?_ OneOf.nil)
            refine PO.append (k := 1) rfl rfl rfl rfl rfl rfl rfl rfl encI_ok (Elems.ofBlk (b := bs) (ys := [(bn : Int)]) encI_ok rfl rfl) (by show (_ + 1) * (2 * 8) ≤ _; omega) (by show _ + 1 < _; omega) rfl fun v' => ?_
            refine osl_oneN (v := v') fun hv1 => ?_
            refine PO.kept Ent.fr ?_
            refine tk 13 ?_
            refine PO.any [14] (by kernel_rfl) (by simp) (OneOf.cons rfl ?_ OneOf.nil)
            refine PO.storeA1 hv1 rfl rfl rfl rfl rfl (by show 0 + 657 + n + 1 ≤ 662; omega) (layA_setHv hn) ?_
            refine PO.kept Ent.fr ?_
            refine PO.anyDone (by kernel_rfl) ?_
            exact PO.meet v' trivial Ent.fr
        intro v' _
        refine PO.fold (hears_put (S := S) (A := A) (out := out) (b := (bn : Int)) (v := v') hn) ?_
        refine go ?_
        refine PO.buildSlice (cs := [iv bn]) rfl rfl rfl rfl rfl rfl rfl rfl rfl rfl rfl rfl fun bs => ?_
        refine go ?_
        refine PO.append (k := 1) rfl rfl rfl rfl rfl rfl rfl rfl encI_ok (Elems.ofBlk (b := bs) (ys := [(bn : Int)]) encI_ok rfl rfl) (by show (_ + 1) * (2 * 8) ≤ _; omega) (by show _ + 1 < _; omega) rfl fun v'' => ?_
        refine go ?_
        refine PO.again (out ++ [(bn : Int)], v'', { A with hv := upd1 A.hv n v' }, true) ⟨hA', hok.heard', ?_, fun h => by cases h⟩ (by simp; omega) Ent.fr
        rw [hear, hst]; simp
end Go.Proofs.Tryd
