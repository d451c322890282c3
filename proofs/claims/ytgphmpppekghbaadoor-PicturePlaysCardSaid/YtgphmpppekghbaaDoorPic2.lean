/- Package picture: what a picture is; check, write, mark. -/
import Derived.Test.YtgphmpppekghbaaDoorPic1
namespace Go.Proofs.Tryd
open Go.Sl
set_option maxHeartbeats 400000
attribute [local irreducible] Go.wpList Go.Code.wp Go.wpQuiet PO PQ AnyH
variable {w0 : World} {H R : HProp}

/-! ### What is: of the program and of what the statement sets beside it -/
structure PS where
  gold : List Int
  ways : Int → Int → List Int
  begun : Bool
  has : Int → Bool
  wrote : Int → Int
  opn : Int → Int → Bool
  part : Int → Int → Int
  onWay : Int
/-- The fault of a way among 'm'. -/
def wayE (m f t : Int) : Int := if ¬ (0 ≤ f ∧ f < m ∧ 0 ≤ t ∧ t < m) then 1 else if f = t then 3 else 0
/-- Written down, with marks to those below 'j'. -/
def writeS (S : PS) (who : Int) (j : Int) : PS :=
  { S with
    has := fun k => if k = who then true else S.has k
    wrote := fun k => if k = who then S.gold.getD who.toNat 0 else S.wrote k
    ways := fun f t => if f = who ∧ t ≠ who ∧ 0 ≤ t ∧ t < j then S.ways f t ++ [0] else S.ways f t
    opn := fun f t => if t = who ∧ f ≠ who ∧ 0 ≤ f ∧ f < j then true else S.opn f t }
def markS (S : PS) (f t : Int) : PS :=
  let S := if S.has t then S else writeS S t S.gold.length
  { S with opn := fun x y => if x = f ∧ y = t then false else S.opn x y, onWay := S.onWay + S.part f t }
def setWay (S : PS) (f t : Int) (l : List Int) : PS := { S with ways := fun x y => if x = f ∧ y = t then l else S.ways x y }

structure PicOk (S : PS) (W : OM (Int × Int) (List Int)) (wr : List (Int × Value)) (op : List ((Int × Int) × Value)) : Prop where
  way : ∀ f t, oxs W (f, t) = S.ways f t
  wrote : ∀ k, mget wr k = bif S.has k then some (iv (S.wrote k)) else none
  opn : ∀ f t, mget op (f, t) = bif S.opn f t then some (iv (S.part f t)) else none
abbrev payI : Value → List Int → HProp := fun v xs => ints v 3 xs
abbrev encK : Int → Value := fun x => Value.int .i64 x
/-- The picture at 'b'. -/
def picP (b : Nat) (S : PS) : HProp :=
  ex fun gv : Value => ex fun bw : Nat => ex fun bwr : Nat => ex fun bo : Nat => ex fun W : OM (Int × Int) (List Int) => ex fun wr : List (Int × Value) => ex fun op : List ((Int × Int) × Value) =>
    pur (PicOk S W wr op) * (cels b [gv, .map (some bw), .bool S.begun, .map (some bwr), .map (some bo), iv S.onWay] 132 *
      (ints gv 3 S.gold * (omap enc2 bw (omv W) * (pays payI W * (omap encK bwr wr * omap enc2 bo op)))))
theorem picP_open {n : Nat} {env : Env} {φ : Act → World → Prop} {b : Nat} {S : PS} (h : ∀ gv bw bwr bo W wr op, PicOk S W wr op →
    PO w0 n env (cels b [gv, .map (some bw), .bool S.begun, .map (some bwr), .map (some bo), iv S.onWay] 132 * (ints gv 3 S.gold * (omap enc2 bw (omv W) * (pays payI W * (omap encK bwr wr * omap enc2 bo op)))) * R) φ) : PO w0 n env (picP b S * R) φ := by
  refine PO.ex_star fun gv => PO.ex_star fun bw => PO.ex_star fun bwr => PO.ex_star fun bo => PO.ex_star fun W => PO.ex_star fun wr => PO.ex_star fun op => ?_
  exact PO.ent (Ent.assoc _ _ _) (PO.pur fun hp => h gv bw bwr bo W wr op hp)
theorem picP_close {R' : HProp} (b : Nat) (S : PS) (gv : Value) (bw bwr bo : Nat) (W : OM (Int × Int) (List Int)) (wr : List (Int × Value)) (op : List ((Int × Int) × Value)) (gold : List Int) (bg : Bool) (ow : Int) (h : PicOk S W wr op)
    (h1 : S.gold = gold) (h2 : S.begun = bg) (h3 : S.onWay = ow) [f : Sl.Frame H (cels b [gv, .map (some bw), .bool bg, .map (some bwr), .map (some bo), iv ow] 132 * (ints gv 3 gold * (omap enc2 bw (omv W) * (pays payI W * (omap encK bwr wr * omap enc2 bo op))))) R'] (hR : Ent R' R := by first | exact Ent.refl _ | exact Ent.right _ _ | exact Ent.fr) : Ent H (picP b S * R) := by
  subst h1 h2 h3
  exact f.ent.trans (Ent.star (fun _ hh => ⟨gv, bw, bwr, bo, W, wr, op, Ent.star_pur _ h _ hh⟩) hR)

/-! ### The code -/
theorem check_r (b : Nat) (f t : Int) {l : List Value} {ty : TypeId} {fr : Nat × Nat} {p : Option Addr} {m c : Nat} [q : PullBlk b H (.cells l.toArray ty fr) R] (hl : l[0]? = some (.slice p m c)) :
    RSpec prog w0 68 [ptr b, enc2 (f, t)] H (errV (wayE m f t)) := by
  refine RSpec.intro (n := 26) func68 rfl rfl rfl (by kernel_rfl) ?_
  refine go fun k => ?_
  refine go ?_
  refine PO.callr rfl (has_r b f hl) rfl ?_
  refine go ?_
  refine PO.gsplit rfl rfl rfl rfl (fun h => ?_) (fun h => ?_)
  · refine go ?_
    refine PO.callr rfl (has_r b t hl) rfl ?_
    refine go ?_
    refine PO.csplit rfl (fun h2 => ?_) (fun h2 => ?_)
    · refine go ?_
      refine PO.returnRE rfl rfl ?_ (Ent.right _ _)
      have : wayE m f t = 1 := by unfold wayE; rw [if_pos]; simp at h h2; omega
      rw [this]; rfl
    · refine go ?_
      refine PO.csplit rfl (fun h3 => ?_) (fun h3 => ?_)
      · refine go ?_
        refine PO.returnRE rfl rfl ?_ (Ent.right _ _)
        have : wayE m f t = 3 := by unfold wayE; simp at h h2 h3; rw [if_neg (by omega), if_pos h3]
        rw [this]; rfl
      · refine go ?_
        refine PO.returnRE rfl rfl ?_ (Ent.right _ _)
        have : wayE m f t = 0 := by unfold wayE; simp at h h2 h3; rw [if_neg (by omega), if_neg h3]
        rw [this]; rfl
  · refine go ?_
    refine PO.returnRE rfl rfl ?_ (Ent.right _ _)
    have : wayE m f t = 1 := by unfold wayE; rw [if_pos]; simp at h; omega
    rw [this]; rfl
/-- The way as a key, the lists side by side. -/
theorem PicOk.put {S : PS} {W : OM (Int × Int) (List Int)} {wr : List (Int × Value)} {op : List ((Int × Int) × Value)} (h : PicOk S W wr op) (f t : Int) (v : Value) (l : List Int) : PicOk (setWay S f t l) (oset W (f, t) (v, l)) wr op where
  way x y := by
    rw [oxs_oset]
    simp only [setWay, Prod.mk.injEq]
    by_cases e : f = x ∧ t = y
    · rw [if_pos e, if_pos ⟨e.1.symm, e.2.symm⟩]
    · rw [if_neg e, if_neg (fun g => e ⟨g.1.symm, g.2.symm⟩), h.way]
  wrote := h.wrote
  opn := h.opn
theorem PicOk.same {S S' : PS} {W : OM (Int × Int) (List Int)} {wr : List (Int × Value)} {op : List ((Int × Int) × Value)} (h : PicOk S W wr op)
    (e : (∀ f t, S.ways f t = S'.ways f t) ∧ (∀ k, S.has k = S'.has k) ∧ (∀ k, S'.has k = true → S.wrote k = S'.wrote k) ∧ (∀ f t, S.opn f t = S'.opn f t) ∧ ∀ f t, S'.opn f t = true → S.part f t = S'.part f t) : PicOk S' W wr op where
  way f t := by rw [h.way, e.1]
  wrote k := by
    rw [h.wrote, e.2.1]
    cases hk : S'.has k
    · rfl
    · rw [e.2.2.1 k hk]
  opn f t := by
    rw [h.opn, e.2.2.2.1]
    cases hk : S'.opn f t
    · rfl
    · rw [e.2.2.2.2 f t hk]
theorem PicOk.stay {S : PS} {j0 j : Nat} {W : OM (Int × Int) (List Int)} {wr : List (Int × Value)} {op : List ((Int × Int) × Value)} (h : PicOk (writeS S j0 j) W wr op) (he : j = j0) : PicOk (writeS S j0 ((j + 1 : Nat) : Int)) W wr op := by
  have e : writeS S j0 ((j + 1 : Nat) : Int) = writeS S j0 j := by
    subst he
    have h1 : ∀ t : Int, (t ≠ j ∧ 0 ≤ t ∧ t < ((j + 1 : Nat) : Int)) ↔ (t ≠ j ∧ 0 ≤ t ∧ t < j) := fun t => by omega
    simp only [writeS, h1]
  rw [e]; exact h
theorem PicOk.step {S : PS} {j0 j : Nat} {W : OM (Int × Int) (List Int)} {wr : List (Int × Value)} {op : List ((Int × Int) × Value)} (h : PicOk (writeS S j0 j) W wr op) (hne : j ≠ j0) (hp : ∀ f, S.part f j0 = 0) (v : Value)
    (hx : oxs W ((j0 : Int), (j : Int)) = S.ways j0 j) : PicOk (writeS S j0 ((j + 1 : Nat) : Int)) (oset W ((j0 : Int), (j : Int)) (v, oxs W ((j0 : Int), (j : Int)) ++ [0])) wr (mset op ((j : Int), (j0 : Int)) (iv 0)) where
  way f t := by
    rw [oxs_oset]
    by_cases e : f = j0 ∧ t = j
    · rw [if_pos (by rw [e.1, e.2]), hx, e.1, e.2]
      simp only [writeS]; rw [if_pos (by simp only [true_and]; omega)]
    · rw [if_neg (fun g => e (by simpa [eq_comm] using g)), h.way]
      have : (f = j0 ∧ t ≠ j0 ∧ 0 ≤ t ∧ t < ((j + 1 : Nat) : Int)) ↔ (f = j0 ∧ t ≠ j0 ∧ 0 ≤ t ∧ t < j) := by omega
      simp only [writeS, this]
  wrote := h.wrote
  opn f t := by
    rw [mget_mset]
    by_cases e : f = j ∧ t = j0
    · rw [if_pos (by rw [e.1, e.2]), e.1, e.2]
      simp only [writeS]; rw [if_pos (by simp only [true_and]; omega), hp]; rfl
    · rw [if_neg (fun g => e (by simpa [eq_comm] using g)), h.opn]
      have : (t = j0 ∧ f ≠ j0 ∧ 0 ≤ f ∧ f < ((j + 1 : Nat) : Int)) ↔ (t = j0 ∧ f ≠ j0 ∧ 0 ≤ f ∧ f < j) := by omega
      simp only [writeS, this]
theorem write_h (b : Nat) (S : PS) (who : Int) (h0 : 0 ≤ who) (h1 : who < S.gold.length) (hp : ∀ f, S.part f who = 0) (hl : ∀ f t, (S.ways f t).length ≤ 1000) (hn : S.gold.length ≤ 1000) :
    HSpec prog w0 71 [ptr b, iv who] (picP b S) (fun _ => picP b (writeS S who S.gold.length)) := by
  obtain ⟨j0, rfl⟩ := Int.eq_ofNat_of_zero_le h0
  refine HSpec.intro (n := 50) func71 rfl rfl rfl (by kernel_rfl) fun R => ?_
  refine picP_open fun gv bw bwr bo W wr op hok => ?_
  refine PO.osl_some (v := gv) (by omega) fun gb go_ gc hgv hgc => ?_
  subst hgv
  refine PO.rd (v := .slice (some ⟨gb, go_, none⟩) S.gold.length gc) encI_ok fun hel => ?_
  have hj : j0 < S.gold.length := by omega
  obtain ⟨_, _, hq, hcell⟩ := hel.cell1 (j := j0) (x := S.gold[j0]) (by simp [hj])
  simp only [Option.some.injEq, Addr.mk.injEq, and_true] at hq
  obtain ⟨rfl, rfl⟩ := hq
  refine PO.seq ?_
  refine PO.regionF (omap encK bwr wr) (by kernel_rfl) ?_
  refine tk 0 ?_
  refine tk 1 ?_
  refine tk 2 ?_
  refine tk 3 ?_
  refine tk 4 ?_
  refine tk 5 ?_
  refine tk 6 ?_
  refine tk 7 ?_
  refine tk 8 ?_
  refine tk 9 ?_
  refine tk 10 ?_
  refine tk 11 (hv := OpV.loadF hcell rfl rfl rfl rfl) ?_
  refine PO.any [12] (by kernel_rfl) (by simp) (OneOf.cons rfl ?_ OneOf.nil)
  refine PO.mapUpdate (k := (j0 : Int)) (enc := encK) (.inl rfl) rfl rfl rfl rfl rfl int_key ?_
  refine PO.kept (Ent.right _ _) ?_
  refine PO.anyDone (by kernel_rfl) ?_
  refine go ?_
  have hok0 : PicOk (writeS S j0 0) W (mset wr (j0 : Int) (.int .i64 S.gold[j0])) op := by
    refine ⟨fun f t => ?_, fun k => ?_, fun f t => ?_⟩
    · rw [hok.way]; simp only [writeS]; rw [if_neg (by omega)]
    · rw [mget_mset, hok.wrote]
      simp only [writeS]
      by_cases hk : k = j0
      · subst hk; simp [hj]
      · rw [if_neg (fun e => hk e.symm), if_neg hk, if_neg hk]
    · rw [hok.opn]; simp only [writeS]; rw [if_neg (by omega)]
  generalize mset wr (j0 : Int) (.int .i64 S.gold[j0]) = wr1 at hok0 ⊢
  refine PO.while3 (fun (j : Nat) (W : OM (Int × Int) (List Int)) (op : List ((Int × Int) × Value)) => j ≤ S.gold.length ∧ PicOk (writeS S j0 j) W wr1 op) (fun j _ _ => [(0, ptr b), (1, iv j0), (22, iv S.gold.length), (23, iv j)])
    (fun _ W op => cels b [.slice (some ⟨gb, go_, none⟩) S.gold.length gc, .map (some bw), .bool S.begun, .map (some bwr), .map (some bo), iv S.onWay] 132 * (ints (.slice (some ⟨gb, go_, none⟩) S.gold.length gc) 3 S.gold * (omap enc2 bw (omv W) * (pays payI W * (omap encK bwr wr1 * omap enc2 bo op)))) * R)
    (fun j _ _ => S.gold.length - j) 0 W op ⟨Nat.zero_le _, hok0⟩ Ent.fr ?_
  clear hok0 hok W op
  rintro j W op ⟨hjl, hok⟩
  refine go ?_
  refine PO.csplit rfl (fun h => ?_) (fun h => ?_)
  · have hlt : j < S.gold.length := by simpa using h
    refine go ?_
    refine PO.csplit rfl (fun h => ?_) (fun h => ?_)
    · have he : j = j0 := by have : (j : Int) = j0 := by simpa using h
                             omega
      refine go ?_
      refine PO.again3 (j + 1) W op ⟨hlt, hok.stay he⟩ (by omega) Ent.fr
    · have hne : j ≠ j0 := by have : ¬ (j : Int) = j0 := by simpa using h
                              omega
      have hx0 : oxs W ((j0 : Int), (j : Int)) = S.ways j0 j := by rw [hok.way]; simp only [writeS]; rw [if_neg (by omega)]
      have hxl := hl j0 j
      rw [← hx0] at hxl
      refine go fun bx => ?_
      refine go ?_
      refine PO.regionF (omap enc2 bw (omv W) * pays payI W) (by kernel_rfl) ?_
      refine PO.ent (Ent.star (Ent.star (Ent.refl _) (pays_way ((j0 : Int), (j : Int)))) (Ent.refl _)) ?_
      refine tk 0 ?_
      refine tk 1 ?_
      refine tk 2 ?_
      refine tk 3 ?_
      refine tk 4 ?_
      refine PO.any [5] (by kernel_rfl) (by simp) (OneOf.cons rfl ?_ OneOf.nil)
      refine PO.buildSlice (cs := [iv 0]) rfl rfl rfl rfl rfl rfl rfl rfl rfl rfl rfl rfl fun bs => ?_
      refine PO.kept Ent.fr ?_
      refine PO.any [6] (by kernel_rfl) (by simp) (OneOf.cons rfl ?_ OneOf.nil)
      refine PO.mapEntry (k := ((j0 : Int), (j : Int))) (u := (mget (omv W) ((j0 : Int), (j : Int))).getD nilS) rfl rfl rfl rfl rfl rfl way_key rfl rfl fun s => ?_
      refine PO.kept Ent.fr ?_
      refine tk 7 ?_
      refine tk 9 ?_
      refine PO.any [8] (by kernel_rfl) (by simp) (OneOf.cons rfl ?_ OneOf.nil)
      refine PO.append (k := 1) rfl rfl rfl rfl rfl rfl rfl rfl encI_ok (Elems.ofBlk (b := bs) (ys := [0]) encI_ok rfl rfl) (by show (_ + 1) * (2 * 8) ≤ _; omega) (by show _ + 1 < _; omega) rfl fun v' => ?_
      refine PO.kept Ent.fr ?_
      refine PO.any [10] (by kernel_rfl) (by simp) (OneOf.cons rfl ?_ OneOf.nil)
      refine PO.entrySet (l' := omv (oset W ((j0 : Int), (j : Int)) (v', oxs W ((j0 : Int), (j : Int)) ++ [0]))) rfl rfl rfl rfl (mset_keyAt _ _ _) ((mset_at _ _ _ _).trans (omv_oset _ _ _ _).symm) ?_
      refine PO.fold (pays_back (T := 3) (k := 1) (enc := encI) W ((j0 : Int), (j : Int)) v' (oxs W ((j0 : Int), (j : Int)) ++ [0])) ?_
      refine PO.kept Ent.fr ?_
      refine PO.anyDone (by kernel_rfl) ?_
      refine go ?_
      refine PO.mapUpdate (k := ((j : Int), (j0 : Int))) (enc := enc2) (.inl rfl) rfl rfl rfl rfl rfl way_key ?_
      refine go ?_
      exact PO.again3 (j + 1) _ _ ⟨hlt, hok.step hne hp v' hx0⟩ (by omega) Ent.fr
  · refine go ?_
    have : j = S.gold.length := by have : ¬ j < S.gold.length := by simpa using h
                                   omega
    subst this
    refine PO.return_end rfl rfl (picP_close b (writeS S j0 S.gold.length) (.slice (some ⟨gb, go_, none⟩) S.gold.length gc) bw bwr bo W wr1 op S.gold S.begun S.onWay hok rfl rfl rfl)
end Go.Proofs.Tryd
