/- The statement's own code, part by part: the arm that pays. -/
import Derived.Test.YtgphmpppekghbaaDoorRef4
import Derived.Test.YtgphmpppekghbaaDoorInv
namespace Go.Proofs.Tryd
open Go.Sl
set_option maxHeartbeats 1000000
attribute [local irreducible] Go.wpList Go.Code.wp Go.wpQuiet PO PQ AnyH layL
variable {w0 : World} {H R : HProp} {gv : Value} {wv : Nat → Nat → Value} {S : PS}
/-- What a block holds. -/
def blk? : Code → Nat → Option Code
  | .block i c, k => bif Nat.beq i k then some c else blk? c k
  | .seq a b, k => match blk? a k with | some c => some c | none => blk? b k
  | .cond _ a b, k => match blk? a k with | some c => some c | none => blk? b k
  | .loop a, k => blk? a k
  | _, _ => none
/-- A place in the code. -/
def sub : Code → List Nat → Code
  | c, [] => c
  | .seq a _, 0 :: l => sub a l
  | .seq _ b, _ :: l => sub b l
  | .cond _ a _, 0 :: l => sub a l
  | .cond _ _ b, _ :: l => sub b l
  | .loop a, _ :: l => sub a l
  | .block _ a, _ :: l => sub a l
  | c, _ => c
noncomputable def lawC : Code := (f3.body).getD .skip
noncomputable def switchC : Code := (blk? lawC 6).getD .skip
abbrev v4 (b : Nat) (a0 a1 a2 a3 : Int) : HProp := cels b [iv a0, iv a1, iv a2, iv a3] 39
theorem PO.front {n : Nat} {env : Env} {φ : Act → World → Prop} (X : HProp) [p : Pull X H R] (h : PO w0 n env (X * R) φ) : PO w0 n env H φ := PO.ent p.ent h
theorem wayE_cases (m f t : Int) : wayE m f t = 0 ∨ wayE m f t = 1 ∨ wayE m f t = 3 := by
  unfold wayE; split
  · exact .inr (.inl rfl)
  · split
    · exact .inr (.inr rfl)
    · exact .inl rfl
theorem pay_ref {Q : Exit → Act → World → Prop} {g0 g1 : Value} {bp bm bv i : Nat} {a0 a1 a2 a3 : Int} (hS : Inv S i) (hi : i ≤ 200)
    (k : PO w0 404 [(5, iv (payS S a1 a2 a3).2), (0, g0), (1, g1), (7, ptr bp), (10, ptr bm), (11, iv i), (12, ptr bv), (14, iv (wayE S.gold.length a1 a2))] (picP bp S * (refR bm (payS S a1 a2 a3).1 * (v4 bv a0 a1 a2 a3 * R))) (Q .normal)) :
    PO w0 404 [(5, iv (wayE S.gold.length a1 a2)), (0, g0), (1, g1), (7, ptr bp), (10, ptr bm), (11, iv i), (12, ptr bv), (14, iv (wayE S.gold.length a1 a2))] (picP bp S * (refR bm S * (v4 bv a0 a1 a2 a3 * R))) ((sub switchC [1, 0, 1, 0]).wp prog Q) := by
  by_cases he : wayE S.gold.length a1 a2 = 0
  · obtain ⟨f0, f1, t0, t1, hne⟩ := wayE_0 he
    obtain ⟨fn, rfl⟩ := Int.eq_ofNat_of_zero_le f0
    obtain ⟨tn, rfl⟩ := Int.eq_ofNat_of_zero_le t0
    have hn5 := hS.n5
    have hf5 : fn < 5 := by omega
    have ht5 : tn < 5 := by omega
    have hfn : fn < S.gold.length := by omega
    have hgd : S.gold.getD (Int.toNat fn) 0 = S.gold[fn] := by simp [hfn]
    have hpay : payS S fn tn a3 = if a3 < 1 ∨ 1000 < a3 then (S, 1) else if S.gold[fn] < a3 then (S, 5) else if 40 ≤ (S.ways fn tn).length then (S, 4)
        else ({ setWay S fn tn (S.ways fn tn ++ [a3]) with gold := S.gold.set fn (S.gold[fn] - a3) }, 0) := by
      unfold payS; rw [if_neg (fun g => g he), hgd]; rfl
    have hg1 := hS.gold S.gold[fn] (List.getElem_mem _)
    have hwl := hS.len fn tn
    refine PO.front (refR bm S) ?_
    refine refR_open fun gv wv => ?_
    refine PO.osl_some (v := gv) (by omega) fun gb go_ gc hgv hgc => ?_
    subst hgv
    refine PO.rd (v := (.slice (some ⟨gb, go_, none⟩) S.gold.length gc)) encI_ok fun hel => ?_
    obtain ⟨_, _, hq, hcell⟩ := hel.cell1 (j := fn) (x := S.gold[fn]) (by simp [hfn])
    simp only [Option.some.injEq, Addr.mk.injEq, and_true] at hq
    obtain ⟨rfl, rfl⟩ := hq
    have hclose : ∀ {X : HProp} [Sl.Frame X (cels bm (layL (.slice (some ⟨gb, go_, none⟩) S.gold.length gc) wv S) 38 * (ints (.slice (some ⟨gb, go_, none⟩) S.gold.length gc) 3 S.gold * sepL (wayP wv S.ways) pairs)) (picP bp S * (v4 bv a0 fn tn a3 * R))], Ent X (picP bp S * (refR bm S * (v4 bv a0 fn tn a3 * R))) := fun {X} _ => (refR_close (H := X) (R := picP bp S * (v4 bv a0 fn tn a3 * R)) bm S (.slice (some ⟨gb, go_, none⟩) S.gold.length gc) wv S.gold rfl).trans (Ent.swap _ _ _)
    have hclose2 : ∀ (v' : Value) {X R2 : HProp} [Sl.Frame X (cels bm (layL (.slice (some ⟨gb, go_, none⟩) S.gold.length gc) (setWv wv fn tn v') (setWay S fn tn (S.ways fn tn ++ [a3]))) 38 * (ints (.slice (some ⟨gb, go_, none⟩) S.gold.length gc) 3 (S.gold.set fn (S.gold[fn] - a3)) * sepL (wayP (setWv wv fn tn v') (setWay S fn tn (S.ways fn tn ++ [a3])).ways) pairs)) R2], Ent R2 (picP bp S * (v4 bv a0 fn tn a3 * R)) →
        Ent X (picP bp S * (refR bm { setWay S fn tn (S.ways fn tn ++ [a3]) with gold := S.gold.set fn (S.gold[fn] - a3) } * (v4 bv a0 fn tn a3 * R))) := fun v' {X R2} fr hR => by
      have e : layL (.slice (some ⟨gb, go_, none⟩) S.gold.length gc) (setWv wv fn tn v') (setWay S fn tn (S.ways fn tn ++ [a3])) = layL (.slice (some ⟨gb, go_, none⟩) S.gold.length gc) (setWv wv fn tn v') { setWay S fn tn (S.ways fn tn ++ [a3]) with gold := S.gold.set fn (S.gold[fn] - a3) } := lay_congr rfl rfl rfl rfl rfl rfl
      rw [e] at fr
      exact (refR_close (H := X) (R := picP bp S * (v4 bv a0 fn tn a3 * R)) bm { setWay S fn tn (S.ways fn tn ++ [a3]) with gold := S.gold.set fn (S.gold[fn] - a3) } (.slice (some ⟨gb, go_, none⟩) S.gold.length gc) (setWv wv fn tn v') _ rfl hR).trans (Ent.swap _ _ _)
    rw [he]
    refine go ?_
    refine PO.gsplit rfl rfl rfl rfl (fun h1 => ?_) (fun h1 => ?_)
    · refine go ?_
      refine PO.csplit rfl (fun h2 => ?_) (fun h2 => ?_)
      · refine go ?_
        rw [hpay, if_pos (.inr (of_decide_eq_true h2))] at k
        exact PO.sub subs (PO.ent hclose k)
      · have hnn : ¬ (a3 < 1 ∨ 1000 < a3) := by simp at h1 h2; omega
        refine go ?_
        refine PO.regionQ (by kernel_rfl) (by kernel_rfl) ?_
        refine goQ ?_
        refine PQ.o rfl (OpV.load rfl rfl rfl rfl lay_gold) ?_
        refine goQ ?_
        refine PQ.o rfl (OpV.loadF hcell rfl rfl rfl rfl) ?_
        refine goQ ?_
        refine go ?_
        refine PO.csplit rfl (fun h3 => ?_) (fun h3 => ?_)
        · refine go ?_
          rw [hpay, if_neg hnn, if_pos (of_decide_eq_true h3)] at k
          exact PO.sub subs (PO.ent hclose k)
        · have hle : ¬ S.gold[fn] < a3 := of_decide_eq_false h3
          refine PO.fold (ways_take (wv := wv) (S := S) hf5 ht5) ?_
          refine PO.osl_shape (v := wv fn tn) fun q c hv hc hq => ?_
          have hlw : (layL (.slice (some ⟨gb, go_, none⟩) S.gold.length gc) wv S)[0 + 1 + fn * 5 + tn]? = some (.slice q (S.ways fn tn).length c) := by rw [lay_way hf5 ht5, hv]
          refine go ?_
          refine PO.regionQ (by kernel_rfl) (by kernel_rfl) ?_
          refine goQ ?_
          refine PQ.o rfl (OpV.load rfl rfl rfl rfl hlw) ?_
          refine goQ ?_
          refine go ?_
          refine PO.csplit rfl (fun h4 => ?_) (fun h4 => ?_)
          · have h40 : 40 ≤ (S.ways fn tn).length := by have := of_decide_eq_true h4; omega
            refine go ?_
            rw [hpay, if_neg hnn, if_neg hle, if_pos h40] at k
            refine PO.fold (ways_back (wv := wv) (S := S) hf5 ht5) ?_
            exact PO.sub subs (PO.ent hclose k)
          · have h40 : ¬ 40 ≤ (S.ways fn tn).length := by have := of_decide_eq_false h4; omega
            rw [hpay, if_neg hnn, if_neg hle, if_neg h40] at k
            refine go ?_
            refine PO.regionF (ints (.slice (some ⟨gb, go_, none⟩) S.gold.length gc) 3 S.gold) (by kernel_rfl) ?_
            refine tk 0 ?_
            refine tk 1 ?_
            refine tk 2 ?_
            refine tk 3 (hv := OpV.load rfl rfl rfl rfl lay_gold) ?_
            refine tk 4 ?_
            refine tk 5 ?_
            refine tk 6 ?_
            refine tk 7 ?_
            refine tk 8 ?_
            refine tk 9 (hv := OpV.load rfl rfl rfl rfl lay_gold) ?_
            refine tk 10 ?_
            refine tk 11 ?_
            refine tk 12 ?_
            refine tk 14 ?_
            refine tk 15 ?_
            refine PO.any [13] (by kernel_rfl) (by simp) (OneOf.cons rfl ?_ OneOf.nil)
            refine PO.o rfl (OpV.loadF hcell rfl rfl rfl rfl) ?_
            refine PO.kept (Ent.right _ _) ?_
            refine tk 16 ?_
            refine tk 17 ?_
            refine PO.any [18] (by kernel_rfl) (by simp) (OneOf.cons rfl ?_ OneOf.nil)
            refine PO.storeOsl (len := S.gold.length) (c := gc) (j := fn) (enc1 := encK) (z := S.gold[fn] - a3) rfl rfl rfl rfl rfl rfl rfl rfl inferInstance rfl hfn ?_
            refine PO.kept (Ent.right _ _) ?_
            refine PO.anyDone (by kernel_rfl) ?_
            refine go ?_
            refine PO.regionF (cels bm (layL (.slice (some ⟨gb, go_, none⟩) S.gold.length gc) wv S) 38 * ints (wv fn tn) 3 (S.ways fn tn)) (by kernel_rfl) ?_
            refine tk 0 ?_
            refine tk 1 ?_
            refine tk 2 ?_
            refine tk 3 ?_
            refine tk 4 ?_
            refine tk 5 ?_
            refine tk 6 ?_
            refine tk 7 ?_
            refine tk 8 ?_
            refine tk 9 ?_
            refine tk 10 ?_
            refine tk 11 ?_
            refine tk 12 ?_
            refine tk 13 ?_
            refine tk 15 ?_
            refine tk 16 ?_
            refine tk 19 ?_
            refine tk 20 ?_
            refine tk 21 ?_
            refine PO.any [14, 17] (by kernel_rfl) (by simp) (OneOf.cons rfl ?_ (OneOf.cons rfl ?_ OneOf.nil))
            · refine PO.o rfl (OpV.load rfl rfl rfl rfl (lay_way hf5 ht5)) ?_
              refine PO.kept (Ent.right _ _) ?_
              refine PO.any [17] (by kernel_rfl) (by simp) (OneOf.cons rfl ?_ OneOf.nil)
              refine PO.buildSlice (cs := [iv a3]) rfl rfl rfl rfl rfl rfl rfl rfl rfl rfl rfl rfl fun bs => ?_
              refine PO.kept Ent.fr ?_
              refine PO.any [18] (by kernel_rfl) (by simp) (OneOf.cons rfl ?_ OneOf.nil)
              refine PO.append (k := 1) rfl rfl rfl rfl rfl rfl rfl rfl encI_ok (Elems.ofBlk (b := bs) (ys := [a3]) encI_ok rfl rfl) (by show (_ + 1) * (2 * 8) ≤ _; omega) (by show _ + 1 < _; omega) rfl fun v' => ?_
              refine osl_one (v := v') fun hv1 => ?_
              refine PO.kept Ent.fr ?_
              refine tk 22 ?_
              refine PO.any [23] (by kernel_rfl) (by simp) (OneOf.cons rfl ?_ OneOf.nil)
              refine PO.storeLay rfl rfl rfl rfl rfl (cells_of hv1) hv1 (by show 0 + 1 + fn * 5 + tn < 88; omega) (put_way v' (S.ways fn tn ++ [a3]) hf5 ht5) ?_
              refine PO.kept Ent.fr ?_
              refine PO.anyDone (by kernel_rfl) ?_
              refine PO.fold (ways_put (wv := wv) (S := S) hf5 ht5 v' (S.ways fn tn ++ [a3])) ?_
              exact PO.sub subs (PO.ent (hclose2 v' Ent.fr) k)
            · refine PO.buildSlice (cs := [iv a3]) rfl rfl rfl rfl rfl rfl rfl rfl rfl rfl rfl rfl fun bs => ?_
              refine PO.kept Ent.fr ?_
              refine PO.any [14] (by kernel_rfl) (by simp) (OneOf.cons rfl ?_ OneOf.nil)
              refine PO.o rfl (OpV.load rfl rfl rfl rfl (lay_way hf5 ht5)) ?_
              refine PO.kept Ent.fr ?_
              refine PO.any [18] (by kernel_rfl) (by simp) (OneOf.cons rfl ?_ OneOf.nil)
              refine PO.append (k := 1) rfl rfl rfl rfl rfl rfl rfl rfl encI_ok (Elems.ofBlk (b := bs) (ys := [a3]) encI_ok rfl rfl) (by show (_ + 1) * (2 * 8) ≤ _; omega) (by show _ + 1 < _; omega) rfl fun v' => ?_
              refine osl_one (v := v') fun hv1 => ?_
              refine PO.kept Ent.fr ?_
              refine tk 22 ?_
              refine PO.any [23] (by kernel_rfl) (by simp) (OneOf.cons rfl ?_ OneOf.nil)
              refine PO.storeLay rfl rfl rfl rfl rfl (cells_of hv1) hv1 (by show 0 + 1 + fn * 5 + tn < 88; omega) (put_way v' (S.ways fn tn ++ [a3]) hf5 ht5) ?_
              refine PO.kept Ent.fr ?_
              refine PO.anyDone (by kernel_rfl) ?_
              refine PO.fold (ways_put (wv := wv) (S := S) hf5 ht5 v' (S.ways fn tn ++ [a3])) ?_
              exact PO.sub subs (PO.ent (hclose2 v' Ent.fr) k)
    · refine go ?_
      rw [hpay, if_pos (.inl (by simp at h1; omega))] at k
      exact PO.sub subs (PO.ent hclose k)
  · have hpay : payS S a1 a2 a3 = (S, wayE S.gold.length a1 a2) := by unfold payS; rw [if_pos he]
    rw [hpay] at k
    rcases wayE_cases S.gold.length a1 a2 with h | h | h
    · exact absurd h he
    · rw [h] at k ⊢
      refine go ?_
      refine PO.regionQ (by kernel_rfl) (by kernel_rfl) ?_
      refine goQ ?_
      refine go ?_
      refine PO.regionQ (by kernel_rfl) (by kernel_rfl) ?_
      refine goQ ?_
      refine go ?_
      exact PO.sub subs k
    · rw [h] at k ⊢
      refine go ?_
      refine PO.regionQ (by kernel_rfl) (by kernel_rfl) ?_
      refine goQ ?_
      refine go ?_
      refine PO.regionQ (by kernel_rfl) (by kernel_rfl) ?_
      refine goQ ?_
      refine go ?_
      exact PO.sub subs k
end Go.Proofs.Tryd
