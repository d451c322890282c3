/- The statement's own code, part by part: what is looked at behind each step. -/
import Derived.Test.YtgphmpppekghbaaDoorLaw2
import Derived.Test.YtgphmpppekghbaaDoorSlLaw
namespace Go.Proofs.Tryd
open Go.Sl
set_option maxHeartbeats 1000000
attribute [local irreducible] Go.wpList Go.Code.wp Go.wpQuiet PO PQ AnyH layL
variable {w0 : World} {H R : HProp} {gv : Value} {wv : Nat → Nat → Value} {S : PS}
theorem sum_fields : prog.fieldsOf 54 = #[{ name := "Had", type := 3, offset := 0, embedded := false, tag := "", pkgPath := "", byteOffset := 0 }, { name := "OnWay", type := 3, offset := 1, embedded := false, tag := "", pkgPath := "", byteOffset := 8 }] := by kernel_rfl
theorem sum_same (a b : Int) (w : World) : (Op.equal 54 (.agg #[iv a, iv b]) (.agg #[iv a, iv b])).run prog w = .ok true w := by
  refine run_equal_of2 fun d => ?_
  rw [run_equalIn_struct w (d + 1) 54 _ _ (by rw [sum_fields]; exact underlying54) stoodInHeld54, sum_fields]
  have hu : prog.underlying 3 = some (.int .i64) := underlying3
  simp [Op.eqFields, int_part _ 0 (.int .i64 a) w, int_part _ 1 (.int .i64 b) w, run_equalIn_int w d 3 .i64 .i64 a a hu, run_equalIn_int w d 3 .i64 .i64 b b hu]
theorem PO.waysRd {n : Nat} {env : Env} {φ : Act → World → Prop} {ways : Int → Int → List Int} {f t : Nat} (hf : f < 5) (ht : t < 5) [fr : Sl.Frame H (sepL (wayP wv ways) pairs) R]
    (h : Ints w0 (sepL (wayP wv ways) pairs) (wv f t) (ways f t) → PO w0 n env H φ) : PO w0 n env H φ := by
  refine PO.holds fun w hw => ?_
  refine h ?_
  have hw2 := (hw.ent fr.ent).ent (Ent.left _ _)
  have e : Ent (sepL (wayP wv ways) pairs) (ints (wv f t) 3 (ways f t) * sepL (wayP wv ways) (pairs.erase (f, t))) := sepL_take (mem_pairs hf ht)
  have e1 := (hw2.ent e).ent (Ent.left _ _)
  have key : PO w0 0 [] (ints (wv f t) 3 (ways f t)) (fun _ _ => Ints w0 (ints (wv f t) 3 (ways f t)) (wv f t) (ways f t)) := by
    refine PO.rd (v := wv f t) encI_ok fun hel => ?_
    unfold PO
    exact fun _ _ _ _ => hel
  unfold PO at key
  exact (key ⟨#[], []⟩ w ⟨rfl, rfl, fun t v ht => by cases ht⟩ e1).ent (e.trans (Ent.left _ _))
noncomputable def obsC : Code := sub lawC [1, 1, 1, 1, 1, 1, 1, 1, 1, 0, 1, 0, 0, 1, 0, 0, 1, 1, 1, 1, 1]
theorem obs {Q : Exit → Act → World → Prop} (hl : Laid w0) {g1 ii : Value} {p0 : Option Addr} {c0 bp bm bv i : Nat} {a0 a1 a2 a3 : Int} (hS : Inv S i) (hi : i ≤ 200)
    (k : PO w0 404 [(0, .slice p0 S.gold.length c0), (1, g1), (7, ptr bp), (10, ptr bm), (11, ii)] (picP bp S * (refR bm S * R)) (Q .normal)) :
    PO w0 404 [(0, .slice p0 S.gold.length c0), (1, g1), (7, ptr bp), (9, .bool true), (10, ptr bm), (11, ii), (12, ptr bv), (14, iv (wayE S.gold.length a1 a2))] (picP bp S * (refR bm S * (v4 bv a0 a1 a2 a3 * R))) (obsC.wp prog Q) := by
  refine PO.front (refR bm S) ?_
  refine refR_open fun gv wv => ?_
  refine PO.osl_some (v := gv) (by have := hS.n2; omega) fun gb go_ gc hgv hgc => ?_
  subst hgv
  refine PO.rd (v := (.slice (some ⟨gb, go_, none⟩) S.gold.length gc)) encI_ok fun hel => ?_
  have hn5 := hS.n5
  refine PO.seq ?_
  refine go1 ?_
  refine PO.then_normal ?_
  refine PO.seq ?_
  refine go1 ?_
  refine PO.then_normal ?_
  refine PO.seq ?_
  refine PO.midU [(5, iv (goldS S a1).2), (19, iv (goldS S a1).1), (0, .slice p0 S.gold.length c0), (1, g1), (7, ptr bp), (9, .bool true), (10, ptr bm), (11, ii), (12, ptr bv), (14, iv (wayE S.gold.length a1 a2))]
    (cels bm (layL (.slice (some ⟨gb, go_, none⟩) S.gold.length gc) wv S) 38 * (ints (.slice (some ⟨gb, go_, none⟩) S.gold.length gc) 3 S.gold * sepL (wayP wv S.ways) pairs) * (picP bp S * (v4 bv a0 a1 a2 a3 * R))) ?_ ?_
  · refine go ?_
    by_cases hin : 0 ≤ a1 ∧ a1 < S.gold.length
    · have hgo : goldS S a1 = (S.gold.getD a1.toNat 0, 0) := by unfold goldS; rw [if_pos hin]
      rw [hgo]
      obtain ⟨n, rfl⟩ := Int.eq_ofNat_of_zero_le hin.1
      have hn : n < S.gold.length := by omega
      obtain ⟨_, _, hq, hcell⟩ := hel.cell1 (j := n) (x := S.gold[n]) (by simp [hn])
      simp only [Option.some.injEq, Addr.mk.injEq, and_true] at hq
      obtain ⟨rfl, rfl⟩ := hq
      have e1 : iv S.gold[n] = iv (S.gold.getD (Int.toNat n) 0) := by simp [hn]
      refine PO.gsplit rfl rfl rfl rfl (fun h1 => ?_) (fun h1 => absurd (of_decide_eq_true h1) (by omega))
      refine go ?_
      refine PO.csplit rfl (fun h2 => absurd (of_decide_eq_true h2) (by omega)) (fun h2 => ?_)
      refine go ?_
      refine PO.regionQ (by kernel_rfl) (by kernel_rfl) ?_
      refine goQ ?_
      refine PQ.o rfl (OpV.load rfl rfl rfl rfl lay_gold) ?_
      refine goQ ?_
      refine PQ.o rfl (OpV.loadF hcell rfl rfl rfl rfl) ?_
      refine goQ ?_
      exact PO.meet () trivial (Ent.refl _)
    · have hgo : goldS S a1 = (0, 1) := by unfold goldS; rw [if_neg hin]
      rw [hgo]
      refine PO.gsplit rfl rfl rfl rfl (fun h1 => ?_) (fun h1 => ?_)
      · refine go ?_
        refine PO.csplit rfl (fun h2 => ?_) (fun h2 => absurd (of_decide_eq_false h2) (by have := of_decide_eq_false h1; omega))
        refine go ?_
        exact PO.meet () trivial (Ent.refl _)
      · refine go ?_
        exact PO.meet () trivial (Ent.refl _)
  refine go ?_
  refine PO.callh rfl (gold_h bp S a1 i hS) rfl fun v => ?_
  refine PO.ent (Ent.assoc _ _ _) (PO.pur fun hv => ?_)
  subst hv
  refine go ?_
  refine PO.callr rfl (error_t hl _) rfl ?_
  refine go1 ?_
  have e1 : Value.bool (decide ((goldS S a1).1 = (goldS S a1).1)) = .bool true := by simp
  refine PO.sub (env' := [(22, .bool true), (0, .slice p0 S.gold.length c0), (1, g1), (7, ptr bp), (9, .bool true), (10, ptr bm), (11, ii), (12, ptr bv), (14, iv (wayE S.gold.length a1 a2))]) subs ?_
  clear e1
  refine PO.then_normal ?_
  refine PO.seq ?_
  refine go1 ?_
  refine PO.then_normal ?_
  refine PO.seq ?_
  refine PO.mid (α := Value) (fun u => Ints w0 (sepL (wayP wv S.ways) pairs) u (if wayE S.gold.length a1 a2 = 0 then S.ways a1 a2 else [])) (fun u => [(23, u), (22, .bool true), (0, .slice p0 S.gold.length c0), (1, g1), (7, ptr bp), (9, .bool true), (10, ptr bm), (11, ii), (12, ptr bv), (14, iv (wayE S.gold.length a1 a2))])
    (fun _ => cels bm (layL (.slice (some ⟨gb, go_, none⟩) S.gold.length gc) wv S) 38 * (ints (.slice (some ⟨gb, go_, none⟩) S.gold.length gc) 3 S.gold * sepL (wayP wv S.ways) pairs) * (picP bp S * (v4 bv a0 a1 a2 a3 * R))) ?_ ?_
  · refine go ?_
    refine PO.csplit rfl (fun h => ?_) (fun h => ?_)
    · have he : wayE S.gold.length a1 a2 = 0 := of_decide_eq_true h
      obtain ⟨f0, f1, t0, t1, hne⟩ := wayE_0 he
      obtain ⟨fn, rfl⟩ := Int.eq_ofNat_of_zero_le f0
      obtain ⟨tn, rfl⟩ := Int.eq_ofNat_of_zero_le t0
      have hf5 : fn < 5 := by omega
      have ht5 : tn < 5 := by omega
      refine PO.waysRd (wv := wv) (ways := S.ways) hf5 ht5 fun hrd => ?_
      refine go ?_
      refine PO.regionQ (by kernel_rfl) (by kernel_rfl) ?_
      refine goQ ?_
      refine PQ.o rfl (OpV.load rfl rfl rfl rfl (lay_way hf5 ht5)) ?_
      refine goQ ?_
      exact PO.meet (wv fn tn) (by rw [if_pos he]; exact hrd) Ent.fr
    · have he : ¬ wayE S.gold.length a1 a2 = 0 := of_decide_eq_false h
      refine go ?_
      exact PO.meet (.slice none 0 0) (by rw [if_neg he]; exact Elems.nil) Ent.fr
  intro on hon
  refine go ?_
  refine PO.callh rfl (onWay_h bp S a1 a2 i hi hS) rfl fun v => ?_
  refine PO.ent ((Ent.assoc _ _ _).trans (Ent.refl _)) (PO.ex_star fun u => PO.ent (Ent.assoc _ _ _) (PO.pur fun hv => ?_))
  subst hv
  refine PO.rd (v := u) encI_ok fun hu => ?_
  refine go ?_
  refine PO.callr rfl (error_t hl _) rfl ?_
  refine go ?_
  refine PO.callr rfl (ints_t u on _ (hu.ent Ent.fr) (hon.ent Ent.fr) (by have := hS.len a1 a2; split <;> simp; omega)) rfl ?_
  refine go ?_
  refine PO.callr rfl (rdone_r bm hn5 (S := S) (wv := wv) (p := some ⟨gb, go_, none⟩) (c := gc)) rfl ?_
  refine go1 ?_
  refine PO.then_normal ?_
  refine PO.seq ?_
  refine go1 ?_
  refine PO.then_normal ?_
  refine PO.seq ?_
  refine go1 fun bs => ?_
  refine go1 ?_
  refine PO.then_normal ?_
  refine PO.seq ?_
  refine PO.midU [(5, iv (if doneS S then 0 else 6)), (22, .bool true), (25, .bool true), (26, .bool (doneS S)), (27, ptr bs), (0, .slice p0 S.gold.length c0), (1, g1), (7, ptr bp), (9, .bool true), (10, ptr bm), (11, ii)]
    (cels bs [iv (if doneS S then sumS S else 0), iv (if doneS S then S.onWay else 0)] 54 * (cels bm (layL (.slice (some ⟨gb, go_, none⟩) S.gold.length gc) wv S) 38 * (ints (.slice (some ⟨gb, go_, none⟩) S.gold.length gc) 3 S.gold * sepL (wayP wv S.ways) pairs) * (picP bp S * R))) ?_ ?_
  · cases hD : doneS S
    · refine go ?_
      exact PO.meet () trivial (by simp only [Bool.false_eq_true, if_false]; exact Ent.fr)
    · refine go ?_
      refine PO.o rfl (OpV.load rfl rfl rfl rfl lay_onWay) ?_
      refine go ?_
      have hall : ∀ j : Nat, j < S.gold.length → S.has j = true := fun j hj => by
        unfold doneS at hD
        rw [Bool.and_eq_true, List.all_eq_true] at hD
        exact hD.1 j (mem_irange.2 ⟨by omega, by omega⟩)
      refine PO.while (fun j : Nat => j ≤ S.gold.length) (fun j => [(28, iv j), (5, iv 0), (22, .bool true), (25, .bool true), (26, .bool true), (27, ptr bs), (0, .slice p0 S.gold.length c0), (1, g1), (7, ptr bp), (9, .bool true), (10, ptr bm), (11, ii)])
        (fun j => cels bs [iv (isum ((irange j).map S.wrote)), iv S.onWay] 54 * (cels bm (layL (.slice (some ⟨gb, go_, none⟩) S.gold.length gc) wv S) 38 * (ints (.slice (some ⟨gb, go_, none⟩) S.gold.length gc) 3 S.gold * sepL (wayP wv S.ways) pairs) * (picP bp S * R)))
        (fun j => S.gold.length - j) 0 (Nat.zero_le _) (by rw [show isum ((irange 0).map S.wrote) = 0 from rfl]; exact Ent.fr) ?_
      intro j hj
      refine go ?_
      refine PO.csplit rfl (fun h => ?_) (fun h => ?_)
      · have hlt : j < S.gold.length := by have := of_decide_eq_true h; omega
        have hj5 : j < 5 := by omega
        have hw := hS.wrote j (hall j hlt)
        have hb : 0 ≤ isum ((irange j).map S.wrote) ∧ isum ((irange j).map S.wrote) ≤ 10000000 := by
          refine ⟨isum_nonneg fun x hx => ?_, ?_⟩
          · obtain ⟨y, hy, rfl⟩ := List.mem_map.1 hx
            obtain ⟨y0, y1⟩ := mem_irange.1 hy
            obtain ⟨y', rfl⟩ := Int.eq_ofNat_of_zero_le y0
            exact (hS.wrote _ (hall y' (by omega))).1
          · have h1 := isum_le (l := (irange j).map S.wrote) (B := 1000 * (i + 1)) fun x hx => by
              obtain ⟨y, hy, rfl⟩ := List.mem_map.1 hx
              obtain ⟨y0, y1⟩ := mem_irange.1 hy
              obtain ⟨y', rfl⟩ := Int.eq_ofNat_of_zero_le y0
              exact (hS.wrote _ (hall y' (by omega))).2
            have h2 : ((irange j).map S.wrote).length = j := by simp
            rw [h2] at h1
            have h5 : (j : Int) * (1000 * (i + 1)) ≤ 5 * (1000 * (i + 1)) := Int.mul_le_mul_of_nonneg_right (by omega) (by omega)
            omega
        have hs : isum ((irange (j + 1)).map S.wrote) = isum ((irange j).map S.wrote) + S.wrote j := by
          unfold irange
          rw [List.range_succ]
          simp only [List.map_append, List.map_cons, List.map_nil, isum_append, isum]; omega
        refine go ?_
        refine PO.regionF (cels bs [iv (isum ((irange j).map S.wrote)), iv S.onWay] 54) (by kernel_rfl) ?_
        refine tk 0 ?_
        refine tk 2 ?_
        refine tk 3 ?_
        refine tk 4 ?_
        refine tk 5 ?_
        refine tk 6 ?_
        refine tk 7 (hv := OpV.load rfl rfl rfl rfl (lay_wrote hj5)) ?_
        refine PO.any [1] (by kernel_rfl) (by simp) (OneOf.cons rfl ?_ OneOf.nil)
        refine PO.o rfl (OpV.load rfl rfl rfl rfl rfl) ?_
        refine PO.kept (Ent.right _ _) ?_
        refine tk 8 ?_
        refine tk 9 ?_
        refine PO.any [10] (by kernel_rfl) (by simp) (OneOf.cons rfl ?_ OneOf.nil)
        refine PO.store rfl rfl rfl rfl rfl rfl rfl rfl rfl ?_
        refine PO.kept (Ent.right _ _) ?_
        refine PO.anyDone (by kernel_rfl) ?_
        refine go ?_
        exact PO.again (j + 1) hlt (by omega) (by rw [hs]; exact Ent.fr)
      · have hje : j = S.gold.length := by have := of_decide_eq_false h; omega
        subst hje
        refine go ?_
        exact PO.meet () trivial (by simp only [if_true, sumS]; exact Ent.fr)
  refine go ?_
  refine PO.callh rfl (sum_h bp S i hi hS) rfl fun v => ?_
  refine PO.ent (Ent.assoc _ _ _) (PO.pur fun hv => ?_)
  subst hv
  have hclose : ∀ {X R2 : HProp} [Sl.Frame X (cels bm (layL (.slice (some ⟨gb, go_, none⟩) S.gold.length gc) wv S) 38 * (ints (.slice (some ⟨gb, go_, none⟩) S.gold.length gc) 3 S.gold * sepL (wayP wv S.ways) pairs)) R2], Ent R2 (picP bp S * R) → Ent X (picP bp S * (refR bm S * R)) := fun {X R2} _ h => (refR_close (H := X) (R := picP bp S * R) bm S (.slice (some ⟨gb, go_, none⟩) S.gold.length gc) wv S.gold rfl h).trans (Ent.swap _ _ _)
  cases hD : doneS S
  · refine go fun b2 => ?_
    refine go ?_
    refine PO.callr rfl (error_t hl 6) rfl ?_
    refine go ?_
    refine PO.o rfl (OpV.eql_agg rfl rfl rfl (by kernel_rfl) (sum_same _ _)) ?_
    refine go ?_
    refine PO.callh rfl (done_h bp S i hS) rfl fun v => ?_
    refine PO.ent (Ent.assoc _ _ _) (PO.pur fun hv => ?_)
    subst hv
    rw [hD]
    refine go ?_
    exact PO.sub subs (PO.ent (hclose Ent.fr) k)
  · refine go fun b2 => ?_
    refine go ?_
    refine PO.callr rfl (error_t hl 0) rfl ?_
    refine go ?_
    refine PO.o rfl (OpV.eql_agg rfl rfl rfl (by kernel_rfl) (sum_same _ _)) ?_
    refine go ?_
    refine PO.callh rfl (done_h bp S i hS) rfl fun v => ?_
    refine PO.ent (Ent.assoc _ _ _) (PO.pur fun hv => ?_)
    subst hv
    rw [hD]
    refine go ?_
    exact PO.sub subs (PO.ent (hclose Ent.fr) k)
end Go.Proofs.Tryd
