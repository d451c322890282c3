/- Package agree: New, Say, check, Heard. -/
import Derived.Test.YtgphmpppekghbaaDoorAgr1
namespace Go.Proofs.Tryd
open Go.Sl
set_option maxHeartbeats 400000
attribute [local irreducible] Go.wpList Go.Code.wp Go.wpQuiet PO PQ AnyH
variable {w0 : World} {H R : HProp} {S : AS} {i : Nat}
theorem sepLn_take {P : Nat → HProp} {m x : Nat} (hx : x < m) : Ent (sepL P (List.range m)) (P x * sepL P ((List.range m).erase x)) := sepL_takeN (List.mem_range.2 hx)
theorem mems_take {mb : Nat → Nat} {x : Nat} (hx : x < S.n) : Ent (mems S mb) (memP S x (mb x) * sepL (fun x : Nat => memP S x (mb x)) ((List.range S.n).erase x)) := sepLn_take (P := fun x : Nat => memP S x (mb x)) hx
theorem mems_put {S' : AS} {mb : Nat → Nat} {x : Nat} (hx : x < S.n) (hn : S'.n = S.n) (h : ∀ y : Nat, y ≠ x → S.most y = S'.most y ∧ S.heard y = S'.heard y ∧ mwt S y = mwt S' y ∧ mkn S y = mkn S' y) :
    Ent (memP S' x (mb x) * sepL (fun x : Nat => memP S x (mb x)) ((List.range S.n).erase x)) (mems S' mb) := by
  unfold mems
  rw [hn]
  refine sepL_putN (P := fun x : Nat => memP S x (mb x)) (P' := fun x : Nat => memP S' x (mb x)) (List.mem_range.2 hx) fun y hy => ?_
  have hne : y ≠ x := fun e => by
    rw [e] at hy
    exact absurd hy (by rw [List.nodup_range.mem_erase_iff]; simp)
  obtain ⟨h1, h2, h3, h4⟩ := h y hne
  simp only [memP]; rw [h1, h2, h3, h4]
theorem oget_none {G : OM Int (List Stp)} {Wh : OM Int (List Int)} (h : AgrOk S G Wh) {w : Int} (hw : S.was w = false) : oget G w = none := by
  have := h.was w
  rw [hw] at this
  cases hg : oget G w with
  | none => rfl
  | some p => rw [hg] at this; cases this
theorem AgrOk.said {G : OM Int (List Stp)} {Wh : OM Int (List Int)} (h : AgrOk S G Wh) (hS : AInv S i) {w : Int} (hw : S.was w = false) : AgrOk { S with was := fun y => if y = w then true else S.was y } (oset G w (nilS, [])) Wh where
  was y := by
    rw [oget_oset]
    by_cases e : w = y
    · rw [if_pos e]; simp [e]
    · rw [if_neg e, h.was]; simp [show ¬ y = w from fun g => e g.symm]
  ord y := by
    rw [oxs_oset]
    by_cases e : w = y
    · rw [if_pos e]
      have : oxs Wh y = [] := by
        rw [List.eq_nil_iff_forall_not_mem]
        intro x hx
        have := (hS.hasr y x ((h.mem y x).1 hx)).1
        rw [← e, hw] at this; cases this
      rw [this]; rfl
    · rw [if_neg e, h.ord]
  nod := h.nod
  mem := h.mem
theorem say_h (b : Nat) (S : AS) (w : Int) (hS : AInv S i) :
    HSpec prog w0 25 [ptr b, iv w] (agrP b S) (fun v => pur (v = errV (sayA S w).2) * agrP b (sayA S w).1) := by
  refine HSpec.intro (n := 27) func25 rfl rfl rfl (by kernel_rfl) fun R => ?_
  refine go ?_
  refine PO.callr rfl (word_r w) rfl ?_
  refine go ?_
  refine PO.csplit rfl (fun h => ?_) (fun h => ?_)
  · have hs : sayA S w = (S, 1) := by unfold sayA; rw [if_pos]; simp at h; omega
    refine go ?_
    refine PO.return_ rfl rfl (Ent.purL ?_ ?_)
    · rw [hs]; rfl
    · rw [hs]; exact Ent.refl _
  · have hr : 1 ≤ w ∧ w ≤ 30 := by simp at h; omega
    refine agrP_open fun mv bg bh mb G Wh hok => ?_
    refine PO.osl_shape (v := mv) fun q c hmv _ _ => ?_
    subst hmv
    refine go ?_
    refine PO.o rfl (OpV.lookup2 (k := w) (enc := encK) (c := S.was w) rfl rfl rfl rfl rfl rfl int_key rfl (by rw [mget_omv, ← hok.was w]; cases oget G w <;> rfl)) ?_
    refine go ?_
    cases hW : S.was w
    · have hs : sayA S w = ({ S with was := fun y => if y = w then true else S.was y }, 0) := by unfold sayA; rw [if_neg (fun g => g hr), if_neg (by simp [hW])]
      refine go ?_
      refine PO.mapUpdate (k := w) (enc := encK) (v := nilS) (.inl rfl) rfl rfl rfl rfl rfl int_key ?_
      have hg := oget_none hok hW
      refine PO.fold (A := pays paySt G) (B := pays paySt (oset G w (nilS, []))) ((Ent.emp_star _).trans ((Ent.star (osl_nil (T := 64) (k := 2) (enc := encS)) (by rw [odel_none hg]; exact Ent.refl _)).trans (pays_back (T := 64) (k := 2) (enc := encS) G w nilS []))) ?_
      refine PO.fold (A := omap encK bg (mset (omv G) w nilS)) (B := omap encK bg (omv (oset G w (nilS, [])))) (by rw [omv_oset]; exact Ent.refl _) ?_
      refine go ?_
      refine PO.return_ rfl rfl (Ent.purL ?_ ?_)
      · rw [hs]; rfl
      · rw [hs]
        exact agrP_close b { S with was := fun y => if y = w then true else S.was y } (.slice q ((List.range S.n).map mb).length c) bg bh S.n mb (oset G w (nilS, [])) Wh (hok.said hS hW) rfl (M := mems S mb) rfl
    · have hs : sayA S w = (S, 7) := by unfold sayA; rw [if_neg (fun g => g hr), if_pos hW]
      refine go ?_
      refine PO.return_ rfl rfl (Ent.purL ?_ ?_)
      · rw [hs]; rfl
      · rw [hs]; exact agrP_close b S (.slice q ((List.range S.n).map mb).length c) bg bh S.n mb G Wh hok rfl rfl
theorem acheck_h (b : Nat) (S : AS) (x w : Int) :
    HSpec prog w0 74 [ptr b, iv x, iv w] (agrP b S) (fun v => pur (v = errV (agrE S.n x w (S.was w))) * agrP b S) := by
  refine HSpec.intro (n := 38) func74 rfl rfl rfl (by kernel_rfl) fun R => ?_
  have w1 : ¬ (0 ≤ x ∧ x < S.n ∧ 1 ≤ w ∧ w ≤ 30) → agrE S.n x w (S.was w) = 1 := fun h => by unfold agrE; rw [if_pos h]
  refine agrP_open fun mv bg bh mb G Wh hok => ?_
  refine PO.osl_shape (v := mv) fun q c hmv _ _ => ?_
  subst hmv
  have hlen : ((List.range S.n).map mb).length = S.n := by simp
  refine go ?_
  refine PO.gsplit rfl rfl rfl rfl (fun h1 => ?_) (fun h1 => ?_)
  · refine go ?_
    refine PO.gsplit rfl rfl rfl rfl (fun h2 => ?_) (fun h2 => ?_)
    · refine go ?_
      refine PO.callr rfl (word_r w) rfl ?_
      refine go ?_
      refine PO.csplit rfl (fun h3 => ?_) (fun h3 => ?_)
      · have hE := w1 (by simp at h1 h2 h3; omega)
        refine go ?_
        refine PO.return_ rfl rfl (Ent.purL ?_ ?_)
        · rw [hE]; rfl
        · exact agrP_close b S (.slice q ((List.range S.n).map mb).length c) bg bh S.n mb G Wh hok rfl rfl
      · have hin : 0 ≤ x ∧ x < S.n ∧ 1 ≤ w ∧ w ≤ 30 := by simp at h1 h2 h3; omega
        refine go ?_
        refine PO.o rfl (OpV.lookup2 (k := w) (enc := encK) (c := S.was w) rfl rfl rfl rfl rfl rfl int_key rfl (by rw [mget_omv, ← hok.was w]; cases oget G w <;> rfl)) ?_
        refine go ?_
        cases hW : S.was w
        · have hE : agrE S.n x w false = 5 := by unfold agrE; rw [if_neg (fun g => g hin)]; rfl
          refine go ?_
          refine PO.return_ rfl rfl (Ent.purL ?_ ?_)
          · rw [hE]; rfl
          · exact agrP_close b S (.slice q ((List.range S.n).map mb).length c) bg bh S.n mb G Wh hok rfl rfl
        · have hE : agrE S.n x w true = 0 := by unfold agrE; rw [if_neg (fun g => g hin)]; rfl
          refine go ?_
          refine PO.return_ rfl rfl (Ent.purL ?_ ?_)
          · rw [hE]; rfl
          · exact agrP_close b S (.slice q ((List.range S.n).map mb).length c) bg bh S.n mb G Wh hok rfl rfl
    · have hE := w1 (by simp at h2; omega)
      refine go ?_
      refine PO.return_ rfl rfl (Ent.purL ?_ ?_)
      · rw [hE]; rfl
      · exact agrP_close b S (.slice q ((List.range S.n).map mb).length c) bg bh S.n mb G Wh hok rfl rfl
  · have hE := w1 (by simp at h1; omega)
    refine go ?_
    refine PO.return_ rfl rfl (Ent.purL ?_ ?_)
    · rw [hE]; rfl
    · exact agrP_close b S (.slice q ((List.range S.n).map mb).length c) bg bh S.n mb G Wh hok rfl rfl
def heardE (S : AS) (x : Int) : Int := if 0 ≤ x ∧ x < S.n then 0 else 1
theorem aheard_h (b : Nat) (S : AS) (x : Int) (hS : AInv S i) :
    HSpec prog w0 30 [ptr b, iv x] (agrP b S) (fun v => (ex fun u : Value => pur (v = .tuple #[u, errV (heardE S x)]) * ints u 3 (if 0 ≤ x ∧ x < S.n then S.heard x else [])) * agrP b S) := by
  refine HSpec.intro (n := 29) func30 rfl rfl rfl (by kernel_rfl) fun R => ?_
  refine agrP_open fun mv bg bh mb G Wh hok => ?_
  refine PO.osl_shape (v := mv) fun q c hmv hqc hq => ?_
  subst hmv
  have hlen : ((List.range S.n).map mb).length = S.n := by simp
  have bad : ¬ (0 ≤ x ∧ x < S.n) → Ent (cels b [.slice q ((List.range S.n).map mb).length c, .map (some bg), .map (some bh)] 143 * (osl 144 1 encP (.slice q ((List.range S.n).map mb).length c) ((List.range S.n).map mb) * (omap encK bg (omv G) * (pays paySt G * (omap encK bh (omv Wh) * (pays payI Wh * mems S mb))))) * R)
      ((ex fun u : Value => pur (Value.tuple #[.slice none 0 0, .iface 126 (.int .i64 1)] = .tuple #[u, errV (heardE S x)]) * ints u 3 (if 0 ≤ x ∧ x < S.n then S.heard x else [])) * agrP b S * R) := fun hn => by
    have e1 : heardE S x = 1 := if_neg hn
    rw [if_neg hn, e1]
    refine (agrP_close b S (.slice q ((List.range S.n).map mb).length c) bg bh S.n mb G Wh hok rfl rfl).trans (((Ent.emp_star _).trans (Ent.star (fun h _ => ?_) (Ent.refl _))).trans (Ent.assoc' _ _ _))
    exact ⟨.slice none 0 0, (Ent.frp (H := emp) rfl osl_nil) h trivial⟩
  refine go ?_
  refine PO.gsplit rfl rfl rfl rfl (fun h1 => ?_) (fun h1 => ?_)
  · refine go ?_
    refine PO.csplit rfl (fun h2 => ?_) (fun h2 => ?_)
    · refine go ?_
      exact PO.return_ rfl rfl (bad (by simp at h1 h2; omega))
    · have hin : 0 ≤ x ∧ x < S.n := by simp at h1 h2; omega
      obtain ⟨n, rfl⟩ := Int.eq_ofNat_of_zero_le hin.1
      have hn : n < S.n := by omega
      have hne : (List.range S.n).map mb ≠ [] := by intro e; have := congrArg List.length e; simp at this; omega
      obtain ⟨qb, qo, rfl⟩ := hq hne
      refine PO.rd (v := .slice (some ⟨qb, qo, none⟩) ((List.range S.n).map mb).length c) encP_ok fun hel => ?_
      obtain ⟨_, _, hq2, hcell⟩ := hel.cell1 (enc := fun b : Nat => Value.pointer (some ⟨b, 0, none⟩)) (j := n) (x := mb n) (by simp [hn])
      simp only [Option.some.injEq, Addr.mk.injEq, and_true] at hq2
      obtain ⟨rfl, rfl⟩ := hq2
      refine PO.fold (mems_take (S := S) (mb := mb) hn) ?_
      refine PO.pull (memP S n (mb n)) ?_
      refine memP_open fun hv bw bk wl kl hwl hkl => ?_
      refine PO.rd (v := hv) encI_ok fun hh => ?_
      refine go ?_
      refine PO.o rfl (OpV.loadF hcell rfl rfl rfl rfl) ?_
      refine go ?_
      refine PO.callm rfl (clone_m hv (S.heard n) (hh.ent Ent.fr) (by have := hS.heard30 n; omega)) rfl fun v => ?_
      refine PO.ent (memP_close S n (mb n) hv bw bk wl kl hwl hkl rfl rfl) ?_
      refine PO.fold (mems_put (S' := S) (mb := mb) hn rfl (fun _ _ => ⟨rfl, rfl, rfl, rfl⟩)) ?_
      refine go ?_
      refine PO.return_ rfl rfl ?_
      rw [if_pos hin]
      have e1 : heardE S n = 0 := if_pos hin
      rw [e1]
      refine (Ent.frs (A := ints v 3 (S.heard n)) (agrP_close (R := R) b S (.slice (some ⟨qb, qo, none⟩) ((List.range S.n).map mb).length c) bg bh S.n mb G Wh hok rfl rfl)).trans ?_
      exact (Ent.assoc' _ _ _).trans (Ent.star (Ent.star (fun h hh => ⟨v, (Ent.frp rfl (Ent.refl _)) h hh⟩) (Ent.refl _)) (Ent.refl _))
  · refine go ?_
    exact PO.return_ rfl rfl (bad (by simp at h1; omega))
end Go.Proofs.Tryd
