/- Package agree: first, hear. -/
import Derived.Test.YtgphmpppekghbaaDoorAgr3
namespace Go.Proofs.Tryd
open Go.Sl
set_option maxHeartbeats 400000
attribute [local irreducible] Go.wpList Go.Code.wp Go.wpQuiet PO PQ AnyH
variable {w0 : World} {H R : HProp} {S S' : AS} {i : Nat} {x : Int}
theorem mget_memN {l : List (Int × Value)} (hn : (l.map (·.1)).Nodup) {p : Int × Value} (h : p ∈ l) : mget l p.1 = some p.2 := by
  induction l with
  | nil => cases h
  | cons q l ih =>
    obtain ⟨q, u⟩ := q
    simp only [List.map_cons, List.nodup_cons] at hn
    rw [mget_cons]
    rcases List.mem_cons.1 h with rfl | h
    · simp
    · rw [if_neg (fun e => hn.1 (List.mem_map.2 ⟨p, h, Eq.symm e⟩))]
      exact ih hn.2 h
/-- 'word' is the least of those that were met. -/
def Least (S : AS) (x : Int) (wl left : List (Int × Value)) (word : Int) : Prop :=
  (word = 0 ∧ ∀ p ∈ wl, p.1 ∈ left.map (·.1)) ∨ (word ≠ 0 ∧ waitS S x word = true ∧ ∀ y, waitS S x y = true → y ∉ left.map (·.1) → lessS (tS S x y) (tS S x word) = false)
theorem lessS_trans {a b c : Stp} (h : lessS a b = false) (k : lessS b c = false) : lessS a c = false := by
  rw [lessS_not] at *; omega
theorem lessS_lt {a b : Stp} (h : lessS a b = true) : lessS b a = false := by
  rw [lessS_iff] at h; rw [lessS_not]; omega
theorem lessS_refl (a : Stp) : lessS a a = false := by rw [lessS_not]; omega
theorem first_h (mb bw : Nat) (hS : AInv S i) {wl : List (Int × Value)} (hwl : ∀ y, mget wl y = mwt S x y) {m0 kv hv : Value} :
    HSpec prog w0 113 [ptr mb] (cels mb [m0, .map (some bw), kv, hv] 148 * omap encK bw wl) (fun v => pur (v = iv (best S x)) * (cels mb [m0, .map (some bw), kv, hv] 148 * omap encK bw wl)) := by
  refine HSpec.intro (n := 32) func113 rfl rfl rfl (by kernel_rfl) fun R => ?_
  refine PO.nodup bw fun hnd => ?_
  refine go ?_
  refine PO.range rfl rfl rfl rfl rfl fun r => ?_
  refine go ?_
  refine PO.while3 (fun (left : List (Int × Value)) (_ : Option (Int × Value)) (word : Int) => (∀ p ∈ left, p ∈ wl) ∧ (left.map (·.1)).Nodup ∧ Least S x wl left word) (fun _ _ word => [(0, ptr mb), (3, iv word), (10, ptr r)])
    (fun left last _ => iter encK bw r wl left last * (cels mb [m0, .map (some bw), kv, hv] 148 * R)) (fun left _ _ => left.length) wl none 0 ⟨fun p hp => hp, hnd, .inl ⟨rfl, fun p hp => List.mem_map.2 ⟨p, hp, rfl⟩⟩⟩ Ent.fr ?_
  rintro left last word ⟨hsub, hln, hle⟩
  refine go ?_
  refine PO.next rfl rfl rfl (fun hl => ?_) (fun l1 k v l2 hl => ?_)
  · subst hl
    refine go ?_
    refine PO.return_ rfl rfl (Ent.purL ?_ Ent.fr)
    have hb : best S x = word := by
      rcases hle with ⟨rfl, h⟩ | ⟨h0, h1, h2⟩
      · refine best_none fun y => ?_
        cases hy : waitS S x y
        · rfl
        · have hm := hwl y
          unfold mwt at hm
          rw [if_pos hy] at hm
          obtain ⟨p, hp, _⟩ := List.mem_map.1 (mem_keys_of_mget hm)
          have := h p hp
          cases this
      · exact hS.best_of h0 h1 fun y hy => h2 y hy (by simp)
    rw [hb]; rfl
  · have hkv : (k, v) ∈ wl := hsub _ (by rw [hl]; simp)
    have hmk := mget_memN hnd hkv
    simp only at hmk
    rw [hwl] at hmk
    unfold mwt at hmk
    have hwk : waitS S x k = true := by
      cases h : waitS S x k
      · rw [h] at hmk; cases hmk
      · rfl
    rw [if_pos hwk] at hmk
    have hv' := Option.some.inj hmk
    subst hv'
    have hk0 : k ≠ 0 := by have := hS.word (waitS_iff.1 hwk).1; omega
    subst hl
    have hsub' : ∀ p ∈ l1 ++ l2, p ∈ wl := fun p hp => hsub p (by simp at hp ⊢; rcases hp with h | h <;> simp [h])
    have hln' : ((l1 ++ l2).map (·.1)).Nodup := by
      refine hln.sublist ?_
      simp only [List.map_append, List.map_cons]
      exact List.Sublist.append (List.Sublist.refl _) (List.sublist_cons_self _ _)
    have hout : ∀ y, y ∉ (l1 ++ l2).map (·.1) → y ≠ k → y ∉ (l1 ++ (k, wtV S x k) :: l2).map (·.1) := fun y h1 h2 => by
      simp only [List.map_append, List.map_cons, List.mem_append, List.mem_cons, not_or] at h1 ⊢
      exact ⟨h1.1, h2, h1.2⟩
    refine go ?_
    refine PO.o rfl (OpV.entry rfl rfl) ?_
    refine go fun b5 => ?_
    refine go ?_
    rcases hle with ⟨rfl, h⟩ | ⟨h0, h1, h2⟩
    · have hnew : Least S x wl (l1 ++ l2) k := .inr ⟨hk0, hwk, fun y hy hn => by
        by_cases e : y = k
        · rw [e]; exact lessS_refl _
        · have hm := hwl y
          unfold mwt at hm
          rw [if_pos hy] at hm
          obtain ⟨p, hp, e2⟩ := List.mem_map.1 (mem_keys_of_mget hm)
          have := h p hp
          rw [e2] at this
          exact absurd this (hout y hn e)⟩
      refine PO.regionQ (by kernel_rfl) (by kernel_rfl) ?_
      refine goQ ?_
      refine go ?_
      exact PO.again3 (l1 ++ l2) (some (k, wtV S x k)) k ⟨hsub', hln', hnew⟩ (by simp) Ent.fr
    · have hmw : mget wl word = some (wtV S x word) := by rw [hwl]; unfold mwt; rw [if_pos h1]
      refine PO.regionQ (by kernel_rfl) (by kernel_rfl) ?_
      refine goQ ?_
      refine PQ.gsplit rfl rfl rfl rfl (fun _ => ?_) (fun h => absurd (of_decide_eq_true h) h0)
      refine goQ ?_
      refine PQ.o rfl (OpV.lookup1It (k := word) (v := wtV S x word) (r := r) inferInstance rfl rfl rfl rfl rfl rfl int_key (by rw [hmw]; rfl)) ?_
      refine goQ ?_
      refine PQ.callr rfl (less_r (tS S x k) (tS S x word)) rfl ?_
      refine goQ ?_
      refine go ?_
      refine PO.csplit rfl (fun hL => ?_) (fun hL => ?_)
      · have hnew : Least S x wl (l1 ++ l2) k := .inr ⟨hk0, hwk, fun y hy hn => by
          by_cases e : y = k
          · rw [e]; exact lessS_refl _
          · exact lessS_trans (h2 y hy (hout y hn e)) (lessS_lt hL)⟩
        refine go ?_
        exact PO.again3 (l1 ++ l2) (some (k, wtV S x k)) k ⟨hsub', hln', hnew⟩ (by simp) Ent.fr
      · have hnew : Least S x wl (l1 ++ l2) word := .inr ⟨h0, h1, fun y hy hn => by
          by_cases e : y = k
          · rw [e]; exact hL
          · exact h2 y hy (hout y hn e)⟩
        refine go ?_
        exact PO.again3 (l1 ++ l2) (some (k, wtV S x k)) word ⟨hsub', hln', hnew⟩ (by simp) Ent.fr
def heardA (S : AS) (x : Int) (out : List Int) : AS := { S with heard := fun y => if y = x then S.heard x ++ out else S.heard y }
theorem heardA_nil : heardA S x [] = S := by
  unfold heardA
  have : (fun y => if y = x then S.heard x ++ [] else S.heard y) = S.heard := by
    funext y; by_cases e : y = x <;> simp [e]
  rw [this]
theorem heardA_step (out : List Int) (b : Int) : heardS (heardA S x out) x b = heardA S x (out ++ [b]) := by
  unfold heardS heardA
  congr 1
  funext y
  by_cases e : y = x <;> simp [e]
theorem hear_fields (S : AS) (x : Int) : (hearS S x).2 = heardA S x (hearS S x).1 := by
  have key : ∀ k S, (hearL k S x).2 = heardA S x (hearL k S x).1 := by
    intro k
    induction k with
    | zero => intro S; simp only [hearL]; exact heardA_nil.symm
    | succ k ih =>
      intro S
      unfold hearL
      split
      · exact heardA_nil.symm
      · simp only
        rw [ih]
        unfold heardA heardS
        congr 1
        funext y
        by_cases e : y = x <;> simp [e]
  exact key _ S
theorem heard_wait (b y : Int) : mwt (heardS S x b) x y = if b = y then none else mwt S x y := by
  have ht : tS (heardS S x b) x y = tS S x y := rfl
  have hv : wtV (heardS S x b) x y = wtV S x y := rfl
  have hw : waitS (heardS S x b) x y = (waitS S x y && !decide (b = y)) := by
    unfold waitS heardS
    simp only [if_true, List.contains_append, List.contains_cons, List.contains_nil, Bool.or_false]
    have : (y == b) = decide (b = y) := by
      by_cases e : y = b
      · simp [e]
      · simp [e, show ¬ b = y from fun g => e g.symm]
    rw [this]
    cases S.has y x <;> cases (S.heard x).contains y <;> cases decide (b = y) <;> rfl
  unfold mwt
  rw [hv, hw]
  by_cases e : b = y
  · simp [e]
  · simp [e]
theorem best_wait (h0 : best S x ≠ 0) : waitS S x (best S x) = true := by
  unfold best at h0 ⊢
  split at h0
  · rename_i hx
    rw [dif_pos hx]
    rcases hx.choose_spec with ⟨e, _⟩ | ⟨_, e, _⟩
    · exact absurd e h0
    · exact e
  · exact absurd rfl h0
theorem hear_h (mb : Nat) (hS : AInv S i) :
    HSpec prog w0 80 [ptr mb] (memP S x mb) (fun v => ints v 3 (hearS S x).1 * memP (hearS S x).2 x mb) := by
  refine HSpec.intro (n := 38) func80 rfl rfl rfl (by kernel_rfl) fun R => ?_
  refine memP_open fun hv bw bk wl kl hwl hkl => ?_
  refine PO.osl_shape (v := hv) fun q c hhv hqc _ => ?_
  subst hhv
  refine go ?_
  refine PO.addN (osl 3 1 encI nilS ([] : List Int)) osl_nil ?_
  refine PO.while3 (fun (out : List Int) (_ : Value) (wl : List (Int × Value)) => AInv (heardA S x out) i ∧ (∀ y, mget wl y = mwt (heardA S x out) x y) ∧ hearS S x = (out ++ (hearS (heardA S x out) x).1, (hearS (heardA S x out) x).2)) (fun _ ov _ => [(0, ptr mb), (3, ov)])
    (fun out ov wl => cels mb [iv (S.most x), .map (some bw), .map (some bk), .slice q (S.heard x).length c] 148 * (ints (.slice q (S.heard x).length c) 3 (S.heard x) * (omap encK bw wl * (omap encK bk kl * (ints ov 3 out * R)))))
    (fun out _ _ => 30 - out.length) [] nilS wl ⟨by rw [heardA_nil]; exact hS, by rw [heardA_nil]; exact hwl, by rw [heardA_nil]; rfl⟩ Ent.fr ?_
  clear hwl wl
  rintro out ov wl ⟨hA, hwl, hear⟩
  have hlen : (S.heard x).length + out.length ≤ 30 := by
    have := hA.heard30 x
    simpa [heardA] using this
  refine PO.osl_shape (v := ov) fun oq oc hov hoc _ => ?_
  subst hov
  refine go ?_
  refine PO.callh rfl (first_h mb bw hA hwl (m0 := iv (S.most x)) (kv := .map (some bk)) (hv := .slice q (S.heard x).length c)) rfl fun v => ?_
  refine PO.ent (Ent.assoc _ _ _) (PO.pur fun hv => ?_)
  subst hv
  refine go1 ?_
  refine PO.then_normal ?_
  refine PO.seq ?_
  refine PO.seq ?_
  refine PO.midU [(18, .bool (decide (best (heardA S x out) x = 0 ∨ S.knew (best (heardA S x out) x) x = false))), (4, iv (best (heardA S x out) x)), (0, ptr mb), (3, .slice oq out.length oc)]
    (cels mb [iv (S.most x), .map (some bw), .map (some bk), .slice q (S.heard x).length c] 148 * (ints (.slice q (S.heard x).length c) 3 (S.heard x) * (omap encK bw wl * (omap encK bk kl * (ints (.slice oq out.length oc) 3 out * R))))) ?_ ?_
  · refine go ?_
    refine PO.gsplit rfl rfl rfl rfl (fun h => ?_) (fun h => ?_)
    · have h0 := of_decide_eq_false h
      have hw := best_wait h0
      have hm : mget wl (best (heardA S x out) x) = some (wtV (heardA S x out) x (best (heardA S x out) x)) := by rw [hwl]; unfold mwt; rw [if_pos hw]
      refine go ?_
      refine PO.o rfl (OpV.lookup1 (k := best (heardA S x out) x) (enc := encK) (v := wtV (heardA S x out) x (best (heardA S x out) x)) rfl rfl rfl rfl rfl rfl int_key (by rw [hm]; rfl)) ?_
      refine go ?_
      have e : Value.bool (!((heardA S x out).knew (best (heardA S x out) x) x)) = Value.bool (decide (best (heardA S x out) x = 0 ∨ S.knew (best (heardA S x out) x) x = false)) := by
        show Value.bool (!(S.knew (best (heardA S x out) x) x)) = _
        cases S.knew (best (heardA S x out) x) x <;> simp [h0]
      exact PO.meet () trivial Ent.fr
    · have h0 := of_decide_eq_true h
      have e : Value.bool true = .bool (decide (best (heardA S x out) x = 0 ∨ S.knew (best (heardA S x out) x) x = false)) := by simp [h0]
      refine go ?_
      exact PO.meet () trivial Ent.fr
  refine PO.then_normal ?_
  refine PO.csplit rfl (fun h => ?_) (fun h => ?_)
  · have hst : hearS (heardA S x out) x = ([], heardA S x out) := hear_stop (of_decide_eq_true h)
    rw [hst, List.append_nil] at hear
    refine PO.rd (v := .slice oq out.length oc) encI_ok fun hol => ?_
    refine go ?_
    refine PO.append (k := 1) rfl rfl rfl rfl rfl rfl rfl rfl encI_ok (hol.ent Ent.fr) (by show (_ + _) * (2 * 8) ≤ _; omega) (by show _ + _ < _; omega) rfl fun v' => ?_
    refine PO.osl_shape (v := v') fun vq vc hv' _ _ => ?_
    subst hv'
    refine go ?_
    refine PO.return_ rfl rfl ?_
    rw [hear]
    refine (Ent.frs (A := ints (.slice oq out.length oc) 3 out) (memP_close (R := R) (heardA S x out) x mb (.slice vq (S.heard x ++ out).length vc) bw bk wl kl hwl hkl (m := S.most x) (l := S.heard x ++ out) rfl (by simp [heardA]))).trans ?_
    exact Ent.assoc' _ _ _
  · have hno := of_decide_eq_false h
    have h0 : best (heardA S x out) x ≠ 0 := fun e => hno (.inl e)
    have hk : S.knew (best (heardA S x out) x) x = true := by
      cases e : S.knew (best (heardA S x out) x) x
      · exact absurd (.inr e) hno
      · rfl
    have hw := best_wait h0
    have hA' := hA.heard' (b := best (heardA S x out) x) hk hw
    rw [heardA_step] at hA'
    have hl' : (S.heard x).length + (out.length + 1) ≤ 30 := by
      have := hA'.heard30 x
      simpa [heardA] using this
    have hst := hear_step hA rfl h0 hk hw
    rw [heardA_step] at hst
    refine PO.nodup bw fun hnd => ?_
    refine go ?_
    refine PO.delete (k := best (heardA S x out) x) (enc := encK) rfl rfl rfl rfl rfl int_key rfl ?_
    refine go ?_
    refine PO.buildSlice (cs := [iv (best (heardA S x out) x)]) rfl rfl rfl rfl rfl rfl rfl rfl rfl rfl rfl rfl fun bs => ?_
    refine go ?_
    refine PO.append (k := 1) rfl rfl rfl rfl rfl rfl rfl rfl encI_ok (Elems.ofBlk (b := bs) (ys := [best (heardA S x out) x]) encI_ok rfl rfl) (by show (_ + 1) * (2 * 8) ≤ _; omega) (by show _ + 1 < _; omega) rfl fun v' => ?_
    refine go ?_
    refine PO.again3 (out ++ [best (heardA S x out) x]) v' (mdel wl (best (heardA S x out) x)) ⟨hA', fun y => ?_, ?_⟩ (by simp; omega) Ent.fr
    · rw [← heardA_step, heard_wait, mget_mdel hnd, hwl]
    · rw [hear, hst]; simp
end Go.Proofs.Tryd
