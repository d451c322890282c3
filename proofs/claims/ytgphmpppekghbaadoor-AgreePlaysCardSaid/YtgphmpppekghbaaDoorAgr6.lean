/- Package agree: New. -/
import Derived.Test.YtgphmpppekghbaaDoorAgr5
namespace Go.Proofs.Tryd
open Go.Sl
set_option maxHeartbeats 1000000
attribute [local irreducible] Go.wpList Go.Code.wp Go.wpQuiet PO PQ AnyH
variable {w0 : World} {H R : HProp} {S S' : AS} {i : Nat}
def grpE (n : Int) : Int := if 2 ≤ n ∧ n ≤ 5 then 0 else 1
def none0 : Int → Option Value := fun _ => none
abbrev mem0 (b : Nat) : HProp := memQ 0 [] none0 none0 b
theorem mem0_new {m : Nat} {x : Int} {b : Nat} : memP (agrS m) x b = mem0 b := by
  unfold memP mem0
  have h1 : mwt (agrS m) x = none0 := by funext y; unfold mwt waitS agrS none0; simp
  have h2 : mkn (agrS m) x = none0 := by funext y; unfold mkn agrS none0; simp
  rw [h1, h2]; rfl
theorem mem0_intro {bm bw bk : Nat} : Ent (cels bm [iv 0, .map (some bw), .map (some bk), nilS] 148 * (ints nilS 3 [] * (omap encK bw [] * omap encK bk []))) (mem0 bm) := fun _ hh =>
  ⟨nilS, bw, bk, [], [], Ent.star_pur _ ⟨fun _ => rfl, fun _ => rfl⟩ _ hh⟩
def putMb (mb : Nat → Nat) (j bm : Nat) : Nat → Nat := fun x => if x = j then bm else mb x
theorem putMb_map (mb : Nat → Nat) (j bm : Nat) : (List.range (j + 1)).map (putMb mb j bm) = (List.range j).map mb ++ [bm] := by
  rw [List.range_succ, List.map_append]
  congr 1
  · exact List.map_congr_left fun x hx => by have := List.mem_range.1 hx; unfold putMb; rw [if_neg (by omega)]
  · simp [putMb]
theorem putMb_sep (mb : Nat → Nat) (j bm : Nat) : Ent (mem0 bm * sepL (fun x : Nat => mem0 (mb x)) (List.range j)) (sepL (fun x : Nat => mem0 (putMb mb j bm x)) (List.range (j + 1))) := by
  rw [List.range_succ]
  refine ((Ent.comm _ _).trans (Ent.star ?_ ?_)).trans (sepL_append' _ _ _)
  · rw [sepL_congr (P' := fun x : Nat => mem0 (putMb mb j bm x)) fun x hx => by have := List.mem_range.1 hx; simp only [putMb]; rw [if_neg (by omega)]]
    exact Ent.refl _
  · have e : mem0 bm = mem0 (putMb mb j bm j) := by simp [putMb]
    rw [e]; exact Ent.star_emp _
theorem anew_m (n : Int) :
    MSpec prog w0 24 [iv n] H (fun v => ex fun p : Value => pur (v = .tuple #[p, errV (grpE n)]) * (if grpE n = 0 then ex fun b : Nat => pur (p = ptr b) * agrP b (agrS n.toNat) else emp)) := by
  refine MSpec.intro (n := 31) func24 rfl rfl rfl (by kernel_rfl) ?_
  refine go ?_
  refine PO.callr rfl (group_r n) rfl ?_
  refine go ?_
  refine PO.csplit rfl (fun h => ?_) (fun h => ?_)
  · have he : grpE n = 1 := by unfold grpE; rw [if_neg]; simp at h; omega
    refine go ?_
    refine PO.return_ rfl rfl ?_
    rw [he]
    exact (Ent.emp_star _).trans (Ent.star (fun h hh => ⟨_, (Ent.frp rfl (Ent.refl _)) h hh⟩) (Ent.refl _))
  · have hin : 2 ≤ n ∧ n ≤ 5 := by simp at h; omega
    have he : grpE n = 0 := by unfold grpE; rw [if_pos hin]
    obtain ⟨m, rfl⟩ := Int.eq_ofNat_of_zero_le (show 0 ≤ n by omega)
    refine go ?_
    refine PO.makeMap rfl rfl rfl encK fun bg => ?_
    refine PO.makeMap rfl rfl rfl encK fun bh => ?_
    refine go fun b => ?_
    refine go ?_
    refine PO.addN (osl 144 1 encP nilS ([] : List Nat)) osl_nil ?_
    refine PO.while3 (fun (j : Nat) (_ : Value) (_ : Nat → Nat) => j ≤ m) (fun j _ _ => [(4, ptr b), (13, iv m), (14, iv j)])
      (fun j mv mb => osl 144 1 encP mv ((List.range j).map mb) * (cels b [mv, .map (some bg), .map (some bh)] 143 * (sepL (fun x : Nat => mem0 (mb x)) (List.range j) * (omap encK bg [] * (omap encK bh [] * H)))))
      (fun j _ _ => m - j) 0 nilS (fun _ => 0) (Nat.zero_le _) (by
        refine (Ent.emp_star _).trans ?_
        rw [show (List.range 0).map (fun _ : Nat => (0 : Nat)) = ([] : List Nat) from rfl, show sepL (fun x : Nat => mem0 ((fun _ : Nat => (0 : Nat)) x)) (List.range 0) = Sl.emp from rfl]
        exact Ent.fr) ?_
    rintro j mv mb hj
    refine PO.osl_shape (v := mv) fun q c hmv _ _ => ?_
    subst hmv
    refine go ?_
    refine PO.csplit rfl (fun h1 => ?_) (fun h1 => ?_)
    · have hlt : j < m := by have := of_decide_eq_true h1; omega
      refine go ?_
      refine PO.makeMap rfl rfl rfl encK fun bw => ?_
      refine PO.makeMap rfl rfl rfl encK fun bk => ?_
      refine go fun bm => ?_
      refine PO.buildSlice (cs := [.pointer (some ⟨bm, 0, none⟩)]) rfl rfl rfl rfl rfl rfl rfl rfl rfl rfl rfl rfl fun bs => ?_
      refine go ?_
      have hlen : ((List.range j).map mb).length = j := by simp
      refine PO.append (k := 1) rfl rfl rfl rfl rfl rfl rfl rfl encP_ok (Elems.ofBlk (b := bs) (ys := [bm]) encP_ok rfl rfl) (by show (_ + 1) * (2 * 8) ≤ _; omega) (by show _ + 1 < _; omega) rfl fun v' => ?_
      refine PO.osl_shape (v := v') fun vq vc hv' _ _ => ?_
      subst hv'
      refine go ?_
      refine PO.addN (ints nilS 3 []) osl_nil ?_
      refine PO.fold (mem0_intro (bm := bm) (bw := bw) (bk := bk)) ?_
      refine PO.fold (putMb_sep mb j bm) ?_
      exact PO.again3 (j + 1) (.slice vq ((List.range j).map mb ++ [bm]).length vc) (putMb mb j bm) hlt (by omega) (by rw [putMb_map]; exact Ent.fr)
    · have hje : j = m := by have := of_decide_eq_false h1; omega
      subst hje
      refine go ?_
      refine PO.addN (pays paySt ([] : OM Int (List Stp))) (Ent.emp _) ?_
      refine PO.addN (pays payI ([] : OM Int (List Int))) (Ent.emp _) ?_
      refine PO.fold (A := omap encK bg []) (B := omap encK bg (omv ([] : OM Int (List Stp)))) (Ent.refl _) ?_
      refine PO.fold (A := omap encK bh []) (B := omap encK bh (omv ([] : OM Int (List Int)))) (Ent.refl _) ?_
      refine PO.return_ rfl rfl ?_
      simp only [he, if_true, Int.toNat_natCast]
      have hok : AgrOk (agrS j) [] [] := ⟨fun _ => rfl, fun _ => rfl, fun _ => List.nodup_nil, fun w x => by simp [agrS, oxs, oget]⟩
      have hM : mems (agrS j) mb = sepL (fun x : Nat => mem0 (mb x)) (List.range j) := by
        unfold mems
        show sepL _ (List.range j) = _
        exact sepL_congr fun x _ => mem0_new
      have hc : ∀ {X R2 : HProp} [Sl.Frame X (cels b [.slice q ((List.range j).map mb).length c, .map (some bg), .map (some bh)] 143 * (osl 144 1 encP (.slice q ((List.range j).map mb).length c) ((List.range j).map mb) * (omap encK bg (omv ([] : OM Int (List Stp))) * (pays paySt ([] : OM Int (List Stp)) * (omap encK bh (omv ([] : OM Int (List Int))) * (pays payI ([] : OM Int (List Int)) * sepL (fun x : Nat => mem0 (mb x)) (List.range j))))))) R2], Ent R2 H → Ent X (agrP b (agrS j) * H) := fun {X R2} _ hR =>
        agrP_close b (agrS j) (.slice q ((List.range j).map mb).length c) bg bh j mb [] [] hok rfl hM hR
      exact (hc Ent.fr).trans (Ent.star (Ent.exN (ptr b) (Ent.frp rfl (Ent.exN b (Ent.frp rfl (Ent.refl _))))) (Ent.refl _))
end Go.Proofs.Tryd
