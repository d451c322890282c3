/- The group that the statement sets beside: Less, In, Check, Final, Propose. -/
import Derived.Test.YtgphmpppekghbaaDoorAgr7
namespace Go.Proofs.Tryd
open Go.Sl
set_option maxHeartbeats 1000000
attribute [local irreducible] Go.wpList Go.Code.wp Go.wpQuiet PO PQ AnyH layA
variable {w0 : World} {H R : HProp} {S S' : AS} {i : Nat} {A A' : RA}
theorem PO.storeA {n : Nat} {env : Env} {ops : Array Oper} {rest : List Oper} {Q : Exit → Act → World → Prop} {op : Op} {ty : TypeId} {pos : String} {af : Array Edge} {x y : Operand} {t b i T : Nat} {e : TE} {v : Value} {l' : List Value}
    (ho : op = .store t x y) (hx : env.get x = some (.pointer (some ⟨b, i, none⟩))) (hy : env.get y = some v) (ht : Tabs.T prog t = some e) (hs : v.cells.size = e.size) (h1 : v.cells.toList.all Value.oneCell' = true)
    [p : PullBlk b H (.cells (layA A).toArray T (0, 0)) R] (hi : i + v.cells.toList.length ≤ 662) (hl : putCells (layA A) i v.cells.toList = l') (k : PO w0 n env (cels b l' T * R) (wpList prog ops Q rest)) : PO w0 n env H (wpList prog ops Q (⟨none, op, ty, pos, af, none⟩ :: rest)) :=
  PO.storeP (o := ⟨none, op, ty, pos, af, none⟩) ho rfl rfl hx hy ht hs h1 (by rw [layA_len]; exact hi) hl k
theorem PO.storeA1 {n : Nat} {env : Env} {ops : Array Oper} {rest : List Oper} {Q : Exit → Act → World → Prop} {op : Op} {ty : TypeId} {pos : String} {af : Array Edge} {x y : Operand} {t b i T : Nat} {e : TE} {v : Value} {l' : List Value}
    (hv : v.oneCell' = true) (ho : op = .store t x y) (hx : env.get x = some (.pointer (some ⟨b, i, none⟩))) (hy : env.get y = some v) (ht : Tabs.T prog t = some e) (hs : e.size = 1)
    [p : PullBlk b H (.cells (layA A).toArray T (0, 0)) R] (hi : i + 1 ≤ 662) (hl : putCells (layA A) i [v] = l') (k : PO w0 n env (cels b l' T * R) (wpList prog ops Q rest)) : PO w0 n env H (wpList prog ops Q (⟨none, op, ty, pos, af, none⟩ :: rest)) :=
  PO.storeA ho hx hy ht (by rw [cells_ofN hv, hs]; rfl) (by rw [cells_ofN hv]; simpa using hv) (by rw [cells_ofN hv]; exact hi) (by rw [cells_ofN hv]; exact hl) k
structure RefOk (S : AS) (A : RA) : Prop where
  n : A.n = S.n
  was : ∀ w < 31, A.was w = S.was w
  has : ∀ w < 31, ∀ x < 5, A.has w x = S.has w x
  knew : ∀ w < 31, ∀ x < 5, A.knew w x = S.knew w x
  most : ∀ x < 5, A.most x = S.most x
  g : ∀ w : Nat, w < 31 → ∀ x : Nat, x < 5 → S.has w x = true → A.g w x = stp S w x
def refA (b : Nat) (S : AS) : HProp := ex fun A : RA => pur (RefOk S A) * (cels b (layA A) 69 * sepL (fun x : Nat => ints (A.hv x) 3 (S.heard x)) (List.range 5))
theorem refA_open {n : Nat} {env : Env} {φ : Act → World → Prop} {b : Nat} (h : ∀ A, RefOk S A → PO w0 n env (cels b (layA A) 69 * sepL (fun x : Nat => ints (A.hv x) 3 (S.heard x)) (List.range 5) * R) φ) : PO w0 n env (refA b S * R) φ :=
  PO.ex_star fun A => PO.ent (Ent.assoc _ _ _) (PO.pur fun hp => h A hp)
theorem refA_close {R' M : HProp} (b : Nat) (S : AS) (A : RA) (hok : RefOk S A) (hM : sepL (fun x : Nat => ints (A.hv x) 3 (S.heard x)) (List.range 5) = M) [f : Sl.Frame H (cels b (layA A) 69 * M) R'] (hR : Ent R' R := by first | exact Ent.refl _ | exact Ent.right _ _ | exact Ent.fr) : Ent H (refA b S * R) := by
  subst hM
  exact f.ent.trans (Ent.star (fun _ hh => ⟨A, Ent.star_pur _ hok _ hh⟩) hR)
theorem less2_r (a b : Stp) : RSpec prog w0 78 [stV a, stV b] H (.bool (lessS a b)) := by
  refine RSpec.intro (n := 24) func78 rfl rfl rfl (by kernel_rfl) ?_
  refine go fun b2 => ?_
  refine go fun b3 => ?_
  refine go ?_
  refine PO.gsplit rfl rfl rfl rfl (fun h1 => ?_) (fun h1 => ?_)
  · refine go ?_
    refine PO.gsplit rfl rfl rfl rfl (fun h2 => ?_) (fun h2 => ?_)
    · refine go ?_
      refine PO.returnRE rfl rfl ?_ Ent.fr
      have h1' := of_decide_eq_false h1
      have h2' := of_decide_eq_true h2
      show Value.bool (decide (a.2 < b.2)) = _
      unfold lessS
      rw [h1, h2]; rfl
    · refine go ?_
      refine PO.returnRE rfl rfl ?_ Ent.fr
      have h2' := of_decide_eq_false h2
      unfold lessS
      rw [h1, decide_eq_false h2']; rfl
  · refine go ?_
    refine PO.returnRE rfl rfl ?_ Ent.fr
    unfold lessS
    rw [h1]; rfl
theorem in_r (s : Value) (xs : List Int) (x : Int) (hs : Ints w0 H s xs) (hl : xs.length < 4611686018427387904) : RSpec prog w0 77 [s, iv x] H (.bool (xs.contains x)) := by
  obtain ⟨p, c, rfl⟩ := hs.shape
  refine RSpec.intro (n := 18) func77 rfl rfl rfl (by kernel_rfl) ?_
  refine go ?_
  refine PO.while (fun j : Nat => j ≤ xs.length ∧ x ∉ xs.take j) (fun j => [(0, .slice p xs.length c), (1, iv x), (5, iv j)]) (fun _ => H) (fun j => xs.length - j) 0 ⟨Nat.zero_le _, by simp⟩ (Ent.refl _) ?_
  rintro j ⟨hj, hno⟩
  refine go ?_
  refine PO.csplit rfl (fun h => ?_) (fun h => ?_)
  · have hlt : j < xs.length := by have := of_decide_eq_true h; omega
    obtain ⟨b, o, rfl, hcell⟩ := hs.cell1 (j := j) (x := xs[j]) (by simp [hlt])
    refine go ?_
    refine PO.o rfl (OpV.loadH rfl rfl rfl rfl hcell) ?_
    refine go ?_
    refine PO.csplit rfl (fun h => ?_) (fun h => ?_)
    · refine go ?_
      have he : xs[j] = x := of_decide_eq_true h
      exact PO.returnR rfl rfl (by rw [List.contains_iff_mem.2 (he ▸ List.getElem_mem hlt)]; rfl)
    · have he : ¬ xs[j] = x := of_decide_eq_false h
      refine go ?_
      refine PO.again (j + 1) ⟨hlt, fun hm => ?_⟩ (by omega) (Ent.refl _)
      rw [List.take_succ_eq_append_getElem hlt] at hm
      rcases List.mem_append.1 hm with hm | hm
      · exact hno hm
      · exact he (by simpa [eq_comm] using hm)
  · have hje : j = xs.length := by have := of_decide_eq_false h; omega
    rw [hje, List.take_length] at hno
    refine go ?_
    exact PO.returnR rfl rfl (by
      have : xs.contains x = false := by cases hc : xs.contains x; rfl; exact absurd (List.contains_iff_mem.1 hc) hno
      rw [this]; rfl)
theorem rcheck_r (b : Nat) (x w : Int) (hok : RefOk S A) [q : PullBlk b H (.cells (layA A).toArray 69 (0, 0)) R] :
    RSpec prog w0 73 [ptr b, iv x, iv w] H (iv (agrE S.n x w (S.was w))) := by
  refine RSpec.intro (n := 32) func73 rfl rfl rfl (by kernel_rfl) ?_
  have hnn : iv A.n = iv S.n := by rw [hok.n]
  have w1 : ¬ (0 ≤ x ∧ x < S.n ∧ 1 ≤ w ∧ w ≤ 30) → iv 1 = iv (agrE S.n x w (S.was w)) := fun h => by unfold agrE; rw [if_pos h]
  refine go ?_
  refine PO.gsplit rfl rfl rfl rfl (fun h1 => ?_) (fun h1 => ?_)
  · refine go ?_
    refine PO.o rfl (OpV.load rfl rfl rfl rfl layA_n) ?_
    rw [hnn]
    refine go ?_
    refine PO.gsplit rfl rfl rfl rfl (fun h2 => ?_) (fun h2 => ?_)
    · refine go ?_
      refine PO.gsplit rfl rfl rfl rfl (fun h3 => ?_) (fun h3 => ?_)
      · refine go ?_
        refine PO.csplit rfl (fun h4 => ?_) (fun h4 => ?_)
        · refine go ?_
          exact PO.returnR rfl rfl (w1 (by simp at h4; omega))
        · have hin : 0 ≤ x ∧ x < S.n ∧ 1 ≤ w ∧ w ≤ 30 := by simp at h1 h2 h3 h4; omega
          obtain ⟨wn, rfl⟩ := Int.eq_ofNat_of_zero_le (show 0 ≤ w by omega)
          have hw : wn < 31 := by omega
          refine go ?_
          refine PO.o rfl (OpV.load rfl rfl rfl rfl (layA_was hw)) ?_
          rw [hok.was wn hw]
          refine go ?_
          cases hW : S.was wn
          · have hE : agrE S.n x wn false = 5 := by unfold agrE; rw [if_neg (fun g => g hin)]; rfl
            refine go ?_
            exact PO.returnR rfl rfl (by rw [hE]; rfl)
          · have hE : agrE S.n x wn true = 0 := by unfold agrE; rw [if_neg (fun g => g hin)]; rfl
            refine go ?_
            exact PO.returnR rfl rfl (by rw [hE]; rfl)
      · refine go ?_
        exact PO.returnR rfl rfl (w1 (by simp at h3; omega))
    · refine go ?_
      exact PO.returnR rfl rfl (w1 (by simp at h2; omega))
  · refine go ?_
    exact PO.returnR rfl rfl (w1 (by simp at h1; omega))
/-- Final: whether all have given one; if so, the greatest. -/
theorem final_m (b : Nat) (wn : Nat) (hw : wn < 31) (hok : RefOk S A) (hS : AInv S i) [q : PullBlk b H (.cells (layA A).toArray 69 (0, 0)) R] :
    MSpec prog w0 76 [ptr b, iv wn] H (fun v => ex fun s : Stp => ex fun d : Bool => pur (v = .tuple #[stV s, .bool d] ∧ (d = true ↔ allA S wn) ∧ (d = true → s = final S wn))) := by
  refine MSpec.intro (n := 47) func76 rfl rfl rfl (by kernel_rfl) ?_
  have hn5 := hS.n5
  have hnn : iv A.n = iv S.n := by rw [hok.n]
  refine go fun b4 => ?_
  refine go fun b6 => ?_
  refine go ?_
  refine PO.while2 (fun (j : Nat) (m : Stp) => j ≤ S.n ∧ (∀ y < j, S.has wn (y : Int) = true) ∧ ((j = 0 ∧ m = (0, 0)) ∨ ∃ z < j, m = stp S wn (z : Int)) ∧ ∀ y < j, lessS m (stp S wn (y : Int)) = false) (fun j _ => [(0, ptr b), (1, iv wn), (4, ptr b4), (6, ptr b6), (7, iv j)])
    (fun _ m => cels b6 [iv m.1, iv m.2] 64 * (cels b4 [iv 0, iv 0] 64 * H)) (fun j _ => S.n - j) 0 (0, 0) ⟨Nat.zero_le _, fun y hy => absurd hy (Nat.not_lt_zero y), .inl ⟨rfl, rfl⟩, fun y hy => absurd hy (Nat.not_lt_zero y)⟩ Ent.fr ?_
  rintro j m ⟨hj, hall, hm, hle⟩
  refine go ?_
  refine PO.o rfl (OpV.load rfl rfl rfl rfl layA_n) ?_
  rw [hnn]
  refine go ?_
  refine PO.csplit rfl (fun h => ?_) (fun h => ?_)
  · have hlt : j < S.n := by have := of_decide_eq_true h; omega
    have hj5 : j < 5 := by omega
    refine go ?_
    refine PO.o rfl (OpV.load rfl rfl rfl rfl (layA_has hw hj5)) ?_
    rw [hok.has wn hw j hj5]
    cases hH : S.has wn j
    · refine go ?_
      refine PO.returnC rfl (Ret.cell rfl rfl rfl rfl (Ret.tmp rfl Ret.nil)) ?_
      have hna : ¬ allA S wn := fun g => by have := g j (by omega) (by omega); rw [hH] at this; cases this
      refine (show Ent _ H from Ent.fr).trans ((Ent.emp_star _).trans (Ent.star (fun h _ => ⟨m, false, rfl, ?_⟩) (Ent.refl _)))
      exact ⟨⟨fun g => (by cases g), fun g => absurd g hna⟩, fun g => by cases g⟩
    · have hg := hok.g wn hw j hj5 hH
      have hgr := hS.gNr wn j hH
      refine go ?_
      refine PO.regionF emp (by kernel_rfl) ?_
      refine tk 0 ?_
      refine tk 1 ?_
      refine tk 2 ?_
      refine tk 3 ?_
      refine tk 4 ?_
      refine tk 5 ?_
      refine tk 6 ?_
      refine tk 7 ?_
      refine tk 8 (hv := OpV.load_aggP rfl rfl rfl rfl (layA_g hw hj5) rfl) ?_
      rw [hg]
      refine PO.any [9] (by kernel_rfl) (by simp) (OneOf.cons rfl ?_ OneOf.nil)
      refine PO.callr rfl (less2_r m (stp S wn j)) rfl ?_
      refine PO.kept (Ent.right _ _) ?_
      refine tk 10 ?_
      refine PO.anyDone (by kernel_rfl) ?_
      have hall' : ∀ y < j + 1, S.has wn (y : Int) = true := fun y hy => by
        rcases Nat.lt_succ_iff_lt_or_eq.1 hy with h1 | rfl
        · exact hall y h1
        · exact hH
      refine go ?_
      refine PO.csplit rfl (fun hL => ?_) (fun hL => ?_)
      · refine go ?_
        refine PO.o rfl (OpV.load_aggP rfl rfl rfl rfl (layA_g hw hj5) rfl) ?_
        rw [hg]
        refine go ?_
        refine PO.again2 (j + 1) (stp S wn j) ⟨hlt, hall', .inr ⟨j, by omega, rfl⟩, fun y hy => ?_⟩ (by omega) Ent.fr
        rcases Nat.lt_succ_iff_lt_or_eq.1 hy with h1 | rfl
        · exact lessS_trans (lessS_lt hL) (hle y h1)
        · exact lessS_refl _
      · refine go ?_
        refine PO.again2 (j + 1) m ⟨hlt, hall', ?_, fun y hy => ?_⟩ (by omega) Ent.fr
        · rcases hm with ⟨rfl, rfl⟩ | ⟨z, hz, e⟩
          · rw [lessS_not] at hL
            simp only at hL; omega
          · exact .inr ⟨z, by omega, e⟩
        · rcases Nat.lt_succ_iff_lt_or_eq.1 hy with h1 | rfl
          · exact hle y h1
          · exact hL
  · have hje : j = S.n := by have := of_decide_eq_false h; omega
    subst hje
    refine go ?_
    refine PO.returnC rfl (Ret.cell rfl rfl rfl rfl (Ret.tmp rfl Ret.nil)) ?_
    have ha : allA S wn := fun y y0 y1 => by
      obtain ⟨y', rfl⟩ := Int.eq_ofNat_of_zero_le y0
      exact hall y' (by omega)
    have hfin : final S wn = m := by
      refine IsFin.final ⟨?_, fun y y0 y1 => ?_⟩
      · rcases hm with ⟨h0, _⟩ | ⟨z, hz, e⟩
        · have := hS.n2; omega
        · exact ⟨z, by omega, by omega, e⟩
      · obtain ⟨y', rfl⟩ := Int.eq_ofNat_of_zero_le y0
        exact hle y' (by omega)
    refine (show Ent _ H from Ent.fr).trans ((Ent.emp_star _).trans (Ent.star (fun h _ => ⟨m, true, rfl, ?_⟩) (Ent.refl _)))
    exact ⟨⟨fun _ => ha, fun _ => rfl⟩, fun _ => hfin.symm⟩
end Go.Proofs.Tryd
