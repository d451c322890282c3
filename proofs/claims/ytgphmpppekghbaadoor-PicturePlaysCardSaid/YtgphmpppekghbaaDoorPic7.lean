/- Package picture: Done, Sum. -/
import Derived.Test.YtgphmpppekghbaaDoorPic6
namespace Go.Proofs.Tryd
open Go.Sl
set_option maxHeartbeats 400000
attribute [local irreducible] Go.wpList Go.Code.wp Go.wpQuiet PO PQ AnyH
variable {w0 : World} {H R : HProp}
/-! ### Sums -/
def isum : List Int → Int | [] => 0 | x :: l => x + isum l
theorem isum_append (l m : List Int) : isum (l ++ m) = isum l + isum m := by
  induction l with
  | nil => simp [isum]
  | cons x l ih => simp only [List.cons_append, isum, ih]; omega
theorem isum_perm {l m : List Int} (h : l.Perm m) : isum l = isum m := by
  induction h with
  | nil => rfl
  | cons x _ ih => simp only [isum, ih]
  | swap x y l => simp only [isum]; omega
  | trans _ _ ih1 ih2 => exact ih1.trans ih2
theorem isum_nonneg {l : List Int} (h : ∀ x ∈ l, 0 ≤ x) : 0 ≤ isum l := by
  induction l with
  | nil => exact Int.le_refl _
  | cons x l ih =>
    have := ih fun y hy => h y (List.mem_cons_of_mem _ hy)
    have := h x List.mem_cons_self
    simp only [isum]; omega
theorem isum_le {l : List Int} {B : Int} (h : ∀ x ∈ l, x ≤ B) : isum l ≤ l.length * B := by
  induction l with
  | nil => simp [isum]
  | cons x l ih =>
    have h1 := ih fun y hy => h y (List.mem_cons_of_mem _ hy)
    have h2 := h x List.mem_cons_self
    simp only [isum, List.length_cons]
    have : ((l.length + 1 : Nat) : Int) * B = l.length * B + B := by rw [Int.natCast_add, Int.add_mul]; simp
    rw [this]; omega
abbrev irange (n : Nat) : List Int := (List.range n).map fun k : Nat => (k : Int)
theorem irange_nodup (n : Nat) : (irange n).Nodup := by
  unfold irange
  have := List.nodup_range (n := n)
  rw [List.nodup_iff_pairwise_ne] at this ⊢
  rw [List.pairwise_map]
  exact this.imp fun h e => h (by omega)
theorem mem_irange {n : Nat} {k : Int} : k ∈ irange n ↔ 0 ≤ k ∧ k < n := by
  unfold irange
  rw [List.mem_map]
  constructor
  · rintro ⟨j, hj, rfl⟩
    have := List.mem_range.1 hj
    omega
  · rintro ⟨h1, h2⟩
    exact ⟨k.toNat, List.mem_range.2 (by omega), by omega⟩
def doneS (S : PS) : Bool := (irange S.gold.length).all S.has && (irange S.gold.length).all fun f => (irange S.gold.length).all fun t => !S.opn f t
def sumS (S : PS) : Int := isum ((irange S.gold.length).map S.wrote)
theorem keys_perm {S : PS} {i : Nat} {W : OM (Int × Int) (List Int)} {wr : List (Int × Value)} {op : List ((Int × Int) × Value)} (h : PicOk S W wr op) (hn : (wr.map (·.1)).Nodup) (hS : Inv S i) :
    (wr.map (·.1)).Perm ((irange S.gold.length).filter S.has) := by
  refine (List.perm_ext_iff_of_nodup hn ((irange_nodup _).filter _)).2 fun k => ?_
  rw [List.mem_filter, mem_irange]
  have hw := h.wrote k
  constructor
  · intro hk
    cases hh : S.has k
    · rw [hh] at hw; exact absurd hk (mget_none.1 hw)
    · exact ⟨hS.hasr k hh, rfl⟩
  · rintro ⟨_, hk⟩
    rw [hk] at hw
    exact mem_keys_of_mget hw
theorem done_eq {S : PS} {i : Nat} {W : OM (Int × Int) (List Int)} {wr : List (Int × Value)} {op : List ((Int × Int) × Value)} (h : PicOk S W wr op) (hn : (wr.map (·.1)).Nodup) (hS : Inv S i) :
    doneS S = (decide ((wr.length : Int) = S.gold.length) && decide ((op.length : Int) = 0)) := by
  have h1 : (irange S.gold.length).all S.has = decide ((wr.length : Int) = S.gold.length) := by
    have hp := (keys_perm h hn hS).length_eq
    rw [List.length_map] at hp
    have hl : (irange S.gold.length).length = S.gold.length := by simp
    rw [Bool.eq_iff_iff, List.all_eq_true, decide_eq_true_iff, hp]
    rw [show (((List.filter S.has (irange S.gold.length)).length : Int) = S.gold.length) ↔ (List.filter S.has (irange S.gold.length)).length = (irange S.gold.length).length by rw [hl]; omega]
    rw [List.length_filter_eq_length_iff]
  have h2 : ((irange S.gold.length).all fun f => (irange S.gold.length).all fun t => !S.opn f t) = decide ((op.length : Int) = 0) := by
    rw [Bool.eq_iff_iff, decide_eq_true_iff]
    constructor
    · intro ha
      cases op with
      | nil => rfl
      | cons p op =>
        exfalso
        obtain ⟨⟨f, t⟩, u⟩ := p
        have hg := h.opn f t
        rw [mget_cons, if_pos rfl] at hg
        cases ho : S.opn f t
        · rw [ho] at hg; cases hg
        · obtain ⟨r1, r2, r3, r4, _⟩ := hS.opnr f t ho
          have := List.all_eq_true.1 (List.all_eq_true.1 ha f (mem_irange.2 ⟨r1, r2⟩)) t (mem_irange.2 ⟨r3, r4⟩)
          rw [ho] at this; cases this
    · intro ho
      have : op = [] := List.length_eq_zero_iff.1 (by omega)
      subst this
      rw [List.all_eq_true]
      intro f _
      rw [List.all_eq_true]
      intro t _
      have hg := h.opn f t
      rw [mget_nil] at hg
      cases hx : S.opn f t
      · rfl
      · rw [hx] at hg; cases hg
  unfold doneS
  rw [h1, h2]
theorem mget_mem {κ : Type} [DecidableEq κ] : ∀ {l : List (κ × Value)}, (l.map (·.1)).Nodup → ∀ {p : κ × Value}, p ∈ l → mget l p.1 = some p.2
  | [], _, p, h => by cases h
  | (q, u) :: l, hn, p, h => by
    simp only [List.map_cons, List.nodup_cons] at hn
    rw [mget_cons]
    rcases List.mem_cons.1 h with rfl | h
    · simp
    · rw [if_neg (fun e => hn.1 (List.mem_map.2 ⟨p, h, Eq.symm e⟩))]
      exact mget_mem hn.2 h
theorem wr_vals {S : PS} {W : OM (Int × Int) (List Int)} {wr : List (Int × Value)} {op : List ((Int × Int) × Value)} (h : PicOk S W wr op) (hn : (wr.map (·.1)).Nodup) : ∀ p ∈ wr, S.has p.1 = true ∧ p.2 = iv (S.wrote p.1) := by
  intro p hp
  have h1 := mget_mem hn hp
  rw [h.wrote] at h1
  cases hh : S.has p.1
  · rw [hh] at h1; cases h1
  · rw [hh] at h1; exact ⟨rfl, (Option.some.inj h1).symm⟩
theorem sum_eq {S : PS} {i : Nat} {W : OM (Int × Int) (List Int)} {wr : List (Int × Value)} {op : List ((Int × Int) × Value)} (h : PicOk S W wr op) (hn : (wr.map (·.1)).Nodup) (hS : Inv S i) (hD : doneS S = true) : isum (wr.map fun p => S.wrote p.1) = sumS S := by
  have hp := keys_perm h hn hS
  have hf : (irange S.gold.length).filter S.has = irange S.gold.length := List.filter_eq_self.2 (List.all_eq_true.1 (by unfold doneS at hD; exact ((Bool.and_eq_true _ _).mp hD).1))
  rw [hf] at hp
  have := isum_perm (hp.map S.wrote)
  rw [List.map_map] at this
  exact this
theorem done_h (b : Nat) (S : PS) (i : Nat) (hS : Inv S i) :
    HSpec prog w0 23 [ptr b] (picP b S) (fun v => pur (v = .bool (doneS S)) * picP b S) := by
  refine HSpec.intro (n := 22) func23 rfl rfl rfl (by kernel_rfl) fun R => ?_
  refine picP_open fun gv bw bwr bo W wr op hok => ?_
  refine PO.osl_shape (v := gv) fun q c hgv _ _ => ?_
  subst hgv
  refine PO.nodup bwr fun hn => ?_
  have hd := done_eq hok hn hS
  refine go ?_
  refine PO.regionQ (by kernel_rfl) (by kernel_rfl) ?_
  refine goQ ?_
  refine PQ.o rfl (OpV.len_omap rfl rfl rfl rfl) ?_
  refine goQ ?_
  refine PQ.gsplit rfl rfl rfl rfl (fun h1 => ?_) (fun h1 => ?_)
  · refine goQ ?_
    refine PQ.o rfl (OpV.len_omap rfl rfl rfl rfl) ?_
    refine goQ ?_
    refine go ?_
    refine PO.return_ rfl rfl (Ent.purL ?_ ?_)
    · rw [hd, h1]; rfl
    · exact picP_close b S (.slice q S.gold.length c) bw bwr bo W wr op S.gold S.begun S.onWay hok rfl rfl rfl
  · refine goQ ?_
    refine go ?_
    refine PO.return_ rfl rfl (Ent.purL ?_ ?_)
    · rw [hd, h1]; rfl
    · exact picP_close b S (.slice q S.gold.length c) bw bwr bo W wr op S.gold S.begun S.onWay hok rfl rfl rfl
theorem sum_h (b : Nat) (S : PS) (i : Nat) (hi : i ≤ 200) (hS : Inv S i) :
    HSpec prog w0 22 [ptr b] (picP b S) (fun v => pur (v = if doneS S then .tuple #[.agg #[iv (sumS S), iv S.onWay], .nilIface] else .tuple #[.agg #[iv 0, iv 0], errV 6]) * picP b S) := by
  refine HSpec.intro (n := 32) func22 rfl rfl rfl (by kernel_rfl) fun R => ?_
  refine go fun b2 => ?_
  refine go ?_
  refine PO.callh rfl (done_h b S i hS) rfl fun v => ?_
  refine PO.ent (Ent.assoc _ _ _) (PO.pur fun hv => ?_)
  subst hv
  cases hD : doneS S
  · refine go ?_
    refine PO.returnC rfl (Ret.cell rfl rfl rfl rfl (Ret.tmp rfl Ret.nil)) (Ent.purL ?_ Ent.fr)
    rfl
  · refine picP_open fun gv bw bwr bo W wr op hok => ?_
    refine PO.nodup bwr fun hn => ?_
    refine go fun b4 => ?_
    refine go ?_
    have hvals := wr_vals hok hn
    have hsum := sum_eq hok hn hS hD
    have htot : sumS S ≤ 10000000 := by
      rw [← hsum]
      have h1 := isum_le (l := wr.map fun p => S.wrote p.1) (B := 1000 * (i + 1)) (fun x hx => by
        obtain ⟨p, hp, rfl⟩ := List.mem_map.1 hx
        exact (hS.wrote _ (hvals p hp).1).2)
      have h2 := hS.n5
      have h3 : (wr.map fun p => S.wrote p.1).length ≤ 5 := by
        have hp := (keys_perm hok hn hS).length_eq
        have h4 := List.length_filter_le S.has (irange S.gold.length)
        simp at hp h4 ⊢; omega
      generalize (wr.map fun p => S.wrote p.1).length = m at h1 h3
      have h5 : (m : Int) * (1000 * (i + 1)) ≤ 5 * (1000 * (i + 1)) := Int.mul_le_mul_of_nonneg_right (by omega) (by omega)
      omega
    refine PO.range rfl rfl rfl rfl rfl fun r => ?_
    refine go ?_
    refine PO.while3 (fun (left : List (Int × Value)) (_ : Option (Int × Value)) (acc : Int) => acc + isum (left.map fun p => S.wrote p.1) = sumS S ∧ 0 ≤ acc ∧ ∀ p ∈ left, S.has p.1 = true ∧ p.2 = iv (S.wrote p.1)) (fun _ _ _ => [(2, ptr b2), (4, ptr b4), (21, ptr r)])
      (fun left last acc => iter encK bwr r wr left last * (cels b4 [iv acc, iv S.onWay] 54 * (cels b [gv, .map (some bw), .bool S.begun, .map (some bwr), .map (some bo), iv S.onWay] 132 * (ints gv 3 S.gold * (omap enc2 bw (omv W) * (pays payI W * omap enc2 bo op))) * (cels b2 [iv 0, iv 0] 54 * R))))
      (fun left _ _ => left.length) wr none 0 ⟨by rw [hsum]; omega, Int.le_refl _, hvals⟩ Ent.fr ?_
    rintro left last acc ⟨h1, h2, h3⟩
    refine go ?_
    refine PO.next rfl rfl rfl (fun hl => ?_) (fun l1 k v l2 hl => ?_)
    · refine go ?_
      subst hl
      have hacc : acc = sumS S := by simpa [isum] using h1
      subst hacc
      refine PO.returnC rfl (Ret.cell rfl rfl rfl rfl (Ret.tmp rfl Ret.nil)) (Ent.purL ?_ ?_)
      · rfl
      · exact picP_close b S gv bw bwr bo W wr op S.gold S.begun S.onWay hok rfl rfl rfl
    · subst hl
      have hk := h3 (k, v) (by simp)
      obtain ⟨hk1, hk2⟩ := hk
      simp only at hk1 hk2
      subst hk2
      have hs2 : isum ((l1 ++ (k, iv (S.wrote k)) :: l2).map fun p => S.wrote p.1) = S.wrote k + isum ((l1 ++ l2).map fun p => S.wrote p.1) := by
        simp only [List.map_append, List.map_cons, isum_append, isum]; omega
      rw [hs2] at h1
      have hw := hS.wrote k hk1
      have hpos : 0 ≤ isum ((l1 ++ l2).map fun p => S.wrote p.1) := isum_nonneg fun x hx => by
        obtain ⟨p, hp, rfl⟩ := List.mem_map.1 hx
        exact (hS.wrote _ (h3 p (by simp at hp ⊢; rcases hp with h | h <;> simp [h])).1).1
      refine go ?_
      refine PO.o rfl (OpV.entry rfl rfl) ?_
      refine go ?_
      exact PO.again3 (l1 ++ l2) (some (k, iv (S.wrote k))) (acc + S.wrote k) ⟨by omega, by omega, fun p hp => h3 p (by simp at hp ⊢; rcases hp with h | h <;> simp [h])⟩ (by simp) Ent.fr
end Go.Proofs.Tryd
