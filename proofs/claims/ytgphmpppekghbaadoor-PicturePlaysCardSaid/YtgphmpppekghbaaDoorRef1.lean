/- The picture that the statement sets beside the program's: one block of 88 cells. -/
import Derived.Test.YtgphmpppekghbaaDoorPic7
namespace Go.Proofs.Tryd
open Go.Sl
set_option maxHeartbeats 400000
attribute [local irreducible] Go.wpList Go.Code.wp Go.wpQuiet PO PQ AnyH
variable {w0 : World} {H R : HProp}
def lay (gv : Value) (wv : Nat → Nat → Value) (S : PS) (c : Nat) : Value :=
  if c < 1 then gv
  else if c < 26 then wv ((c - 1) / 5) ((c - 1) % 5)
  else if c < 27 then .bool S.begun
  else if c < 32 then .bool (S.has ((c - 27 : Nat) : Int))
  else if c < 37 then iv (S.wrote ((c - 32 : Nat) : Int))
  else if c < 62 then .bool (S.opn (((c - 37) / 5 : Nat) : Int) (((c - 37) % 5 : Nat) : Int))
  else if c < 63 then iv S.onWay
  else iv (S.part (((c - 63) / 5 : Nat) : Int) (((c - 63) % 5 : Nat) : Int))
abbrev layM (gv : Value) (wv : Nat → Nat → Value) (S : PS) : List Value := (List.range 88).map (lay gv wv S)
variable {gv : Value} {wv wv' : Nat → Nat → Value} {S S' : PS}
theorem m_lay_gold : (layM gv wv S)[0 + 0]? = some gv := celf_get (g := lay gv wv S) (by omega)
theorem m_lay_way {f t : Nat} (hf : f < 5) (ht : t < 5) : (layM gv wv S)[0 + 1 + f * 5 + t]? = some (wv f t) := by
  rw [celf_get (g := lay gv wv S) (by omega)]
  unfold lay
  rw [if_neg (by omega), if_pos (by omega), show (0 + 1 + f * 5 + t - 1) / 5 = f by omega, show (0 + 1 + f * 5 + t - 1) % 5 = t by omega]
theorem m_lay_begun : (layM gv wv S)[0 + 26]? = some (.bool S.begun) := celf_get (g := lay gv wv S) (by omega)
theorem m_lay_has {t : Nat} (ht : t < 5) : (layM gv wv S)[0 + 27 + t]? = some (.bool (S.has t)) := by
  rw [celf_get (g := lay gv wv S) (by omega)]
  unfold lay
  rw [if_neg (by omega), if_neg (by omega), if_neg (by omega), if_pos (by omega), show 0 + 27 + t - 27 = t by omega]
theorem m_lay_wrote {t : Nat} (ht : t < 5) : (layM gv wv S)[0 + 32 + t]? = some (iv (S.wrote t)) := by
  rw [celf_get (g := lay gv wv S) (by omega)]
  unfold lay
  rw [if_neg (by omega), if_neg (by omega), if_neg (by omega), if_neg (by omega), if_pos (by omega), show 0 + 32 + t - 32 = t by omega]
theorem m_lay_opn {f t : Nat} (hf : f < 5) (ht : t < 5) : (layM gv wv S)[0 + 37 + f * 5 + t]? = some (.bool (S.opn f t)) := by
  rw [celf_get (g := lay gv wv S) (by omega)]
  unfold lay
  rw [if_neg (by omega), if_neg (by omega), if_neg (by omega), if_neg (by omega), if_neg (by omega), if_pos (by omega), show (0 + 37 + f * 5 + t - 37) / 5 = f by omega, show (0 + 37 + f * 5 + t - 37) % 5 = t by omega]
theorem m_lay_onWay : (layM gv wv S)[0 + 62]? = some (iv S.onWay) := celf_get (g := lay gv wv S) (by omega)
theorem m_lay_part {f t : Nat} (hf : f < 5) (ht : t < 5) : (layM gv wv S)[0 + 63 + f * 5 + t]? = some (iv (S.part f t)) := by
  rw [celf_get (g := lay gv wv S) (by omega)]
  unfold lay
  rw [if_neg (by omega), if_neg (by omega), if_neg (by omega), if_neg (by omega), if_neg (by omega), if_neg (by omega), if_neg (by omega), show (0 + 63 + f * 5 + t - 63) / 5 = f by omega, show (0 + 63 + f * 5 + t - 63) % 5 = t by omega]
theorem m_lay_put {gv' : Value} {i : Nat} {v : Value} (hi : i < 88) (h : ∀ c < 88, upd (lay gv wv S) i v c = lay gv' wv' S' c) : putCells (layM gv wv S) i [v] = layM gv' wv' S' := by
  rw [celf_set hi]
  exact List.map_congr_left fun c hc => h c (List.mem_range.1 hc)
def setWv (wv : Nat → Nat → Value) (f t : Nat) (v : Value) : Nat → Nat → Value := fun i j => if i = f ∧ j = t then v else wv i j
theorem m_put_way {f t : Nat} (v : Value) (l : List Int) (hf : f < 5) (ht : t < 5) : putCells (layM gv wv S) (0 + 1 + f * 5 + t) [v] = layM gv (setWv wv f t v) (setWay S f t l) := by
  refine m_lay_put (by omega) fun c hc => ?_
  unfold upd lay setWv setWay
  by_cases e : c = 0 + 1 + f * 5 + t
  · rw [if_pos e, if_neg (by omega), if_pos (by omega), if_pos (by omega)]
  · rw [if_neg e]
    by_cases h1 : c < 1
    · rw [if_pos h1, if_pos h1]
    · rw [if_neg h1, if_neg h1]
      by_cases h2 : c < 26
      · rw [if_pos h2, if_pos h2, if_neg (by omega)]
      · rw [if_neg h2, if_neg h2]
theorem m_put_has {t : Nat} (ht : t < 5) : putCells (layM gv wv S) (0 + 27 + t) [.bool true] = layM gv wv { S with has := fun k => if k = t then true else S.has k } := by
  refine m_lay_put (by omega) fun c hc => ?_
  unfold upd lay
  by_cases e : c = 0 + 27 + t
  · rw [if_pos e, if_neg (by omega), if_neg (by omega), if_neg (by omega), if_pos (by omega)]; simp only; rw [if_pos (by omega)]
  · rw [if_neg e]
    simp only
    by_cases h : 27 ≤ c ∧ c < 32
    · rw [if_neg (show ¬ c < 1 by omega), if_neg (show ¬ c < 26 by omega), if_neg (show ¬ c < 27 by omega), if_pos h.2, if_neg (show ¬ c < 1 by omega), if_neg (show ¬ c < 26 by omega), if_neg (show ¬ c < 27 by omega), if_pos h.2, if_neg (by omega)]
    · repeat' split
      all_goals first | rfl | omega
theorem m_put_wrote {t : Nat} {x : Int} (ht : t < 5) : putCells (layM gv wv S) (0 + 32 + t) [iv x] = layM gv wv { S with wrote := fun k => if k = t then x else S.wrote k } := by
  refine m_lay_put (by omega) fun c hc => ?_
  unfold upd lay
  by_cases e : c = 0 + 32 + t
  · rw [if_pos e, if_neg (by omega), if_neg (by omega), if_neg (by omega), if_neg (by omega), if_pos (by omega)]; simp only; rw [if_pos (by omega)]
  · rw [if_neg e]
    simp only
    by_cases h : 32 ≤ c ∧ c < 37
    · rw [if_neg (show ¬ c < 1 by omega), if_neg (show ¬ c < 26 by omega), if_neg (show ¬ c < 27 by omega), if_neg (show ¬ c < 32 by omega), if_pos h.2, if_neg (show ¬ c < 1 by omega), if_neg (show ¬ c < 26 by omega), if_neg (show ¬ c < 27 by omega), if_neg (show ¬ c < 32 by omega), if_pos h.2, if_neg (by omega)]
    · repeat' split
      all_goals first | rfl | omega
theorem m_put_opn {f t : Nat} {x : Bool} (hf : f < 5) (ht : t < 5) : putCells (layM gv wv S) (0 + 37 + f * 5 + t) [.bool x] = layM gv wv { S with opn := fun a b => if a = f ∧ b = t then x else S.opn a b } := by
  refine m_lay_put (by omega) fun c hc => ?_
  unfold upd lay
  by_cases e : c = 0 + 37 + f * 5 + t
  · rw [if_pos e, if_neg (by omega), if_neg (by omega), if_neg (by omega), if_neg (by omega), if_neg (by omega), if_pos (by omega)]; simp only; rw [if_pos (by omega)]
  · rw [if_neg e]
    simp only
    by_cases h : 37 ≤ c ∧ c < 62
    · have h2 : ¬ ((((c - 37) / 5 : Nat) : Int) = f ∧ (((c - 37) % 5 : Nat) : Int) = t) := by omega
      rw [if_neg h2]
    · repeat' split
      all_goals first | rfl | omega
theorem m_put_part {f t : Nat} {x : Int} (hf : f < 5) (ht : t < 5) : putCells (layM gv wv S) (0 + 63 + f * 5 + t) [iv x] = layM gv wv { S with part := fun a b => if a = f ∧ b = t then x else S.part a b } := by
  refine m_lay_put (by omega) fun c hc => ?_
  unfold upd lay
  by_cases e : c = 0 + 63 + f * 5 + t
  · rw [if_pos e, if_neg (by omega), if_neg (by omega), if_neg (by omega), if_neg (by omega), if_neg (by omega), if_neg (by omega), if_neg (by omega)]; simp only; rw [if_pos (by omega)]
  · rw [if_neg e]
    simp only
    by_cases h : 63 ≤ c
    · have h2 : ¬ ((((c - 63) / 5 : Nat) : Int) = f ∧ (((c - 63) % 5 : Nat) : Int) = t) := by omega
      rw [if_neg h2]
    · repeat' split
      all_goals first | rfl | omega
theorem m_put_onWay {x : Int} : putCells (layM gv wv S) (0 + 62) [iv x] = layM gv wv { S with onWay := x } := by
  refine m_lay_put (by omega) fun c hc => ?_
  unfold upd lay
  by_cases e : c = 0 + 62
  · subst e; rfl
  · rw [if_neg e]
    simp only
    repeat' split
    all_goals first | rfl | omega
theorem m_put_begun {x : Bool} : putCells (layM gv wv S) (0 + 26) [.bool x] = layM gv wv { S with begun := x } := by
  refine m_lay_put (by omega) fun c hc => ?_
  unfold upd lay
  by_cases e : c = 0 + 26
  · subst e; rfl
  · rw [if_neg e]
    simp only
    repeat' split
    all_goals first | rfl | omega

abbrev setOpn (S : PS) (f t : Int) (x : Bool) : PS := { S with opn := fun a b => if a = f ∧ b = t then x else S.opn a b }
abbrev setPart (S : PS) (f t : Int) (x : Int) : PS := { S with part := fun a b => if a = f ∧ b = t then x else S.part a b }
abbrev setHas (S : PS) (k : Int) : PS := { S with has := fun a => if a = k then true else S.has a }
abbrev setWrote (S : PS) (k : Int) (x : Int) : PS := { S with wrote := fun a => if a = k then x else S.wrote a }
abbrev setOnWay (S : PS) (x : Int) : PS := { S with onWay := x }
abbrev setBegun (S : PS) (x : Bool) : PS := { S with begun := x }
def layL (gv : Value) (wv : Nat → Nat → Value) (S : PS) : List Value := layM gv wv S
theorem lay_gold : (layL gv wv S)[0 + 0]? = some gv := m_lay_gold 
theorem lay_way {f t : Nat} (hf : f < 5) (ht : t < 5) : (layL gv wv S)[0 + 1 + f * 5 + t]? = some (wv f t) := m_lay_way hf ht
theorem lay_begun : (layL gv wv S)[0 + 26]? = some (.bool S.begun) := m_lay_begun 
theorem lay_has {t : Nat} (ht : t < 5) : (layL gv wv S)[0 + 27 + t]? = some (.bool (S.has t)) := m_lay_has ht
theorem lay_wrote {t : Nat} (ht : t < 5) : (layL gv wv S)[0 + 32 + t]? = some (iv (S.wrote t)) := m_lay_wrote ht
theorem lay_opn {f t : Nat} (hf : f < 5) (ht : t < 5) : (layL gv wv S)[0 + 37 + f * 5 + t]? = some (.bool (S.opn f t)) := m_lay_opn hf ht
theorem lay_onWay : (layL gv wv S)[0 + 62]? = some (iv S.onWay) := m_lay_onWay 
theorem lay_part {f t : Nat} (hf : f < 5) (ht : t < 5) : (layL gv wv S)[0 + 63 + f * 5 + t]? = some (iv (S.part f t)) := m_lay_part hf ht
theorem put_way {f t : Nat} (v : Value) (l : List Int) (hf : f < 5) (ht : t < 5) : putCells (layL gv wv S) (0 + 1 + f * 5 + t) [v] = layL gv (setWv wv f t v) (setWay S f t l) := m_put_way v l hf ht
theorem put_has {t : Nat} (ht : t < 5) : putCells (layL gv wv S) (0 + 27 + t) [.bool true] = layL gv wv (setHas S t) := m_put_has ht
theorem put_wrote {t : Nat} {x : Int} (ht : t < 5) : putCells (layL gv wv S) (0 + 32 + t) [iv x] = layL gv wv (setWrote S t x) := m_put_wrote ht
theorem put_opn {f t : Nat} {x : Bool} (hf : f < 5) (ht : t < 5) : putCells (layL gv wv S) (0 + 37 + f * 5 + t) [.bool x] = layL gv wv (setOpn S f t x) := m_put_opn hf ht
theorem put_part {f t : Nat} {x : Int} (hf : f < 5) (ht : t < 5) : putCells (layL gv wv S) (0 + 63 + f * 5 + t) [iv x] = layL gv wv (setPart S f t x) := m_put_part hf ht
theorem put_onWay {x : Int} : putCells (layL gv wv S) (0 + 62) [iv x] = layL gv wv (setOnWay S x) := m_put_onWay 
theorem put_begun {x : Bool} : putCells (layL gv wv S) (0 + 26) [.bool x] = layL gv wv (setBegun S x) := m_put_begun 
theorem lay_len : (layL gv wv S).length = 88 := by unfold layL; simp
attribute [local irreducible] layL
theorem PO.storeLay {n : Nat} {env : Env} {ops : Array Oper} {rest : List Oper} {Q : Exit → Act → World → Prop} {op : Op} {ty : TypeId} {pos : String} {af : Array Edge} {x y : Operand} {t b i T : Nat} {e : TE} {v : Value} {l' : List Value}
    (ho : op = .store t x y) (hx : env.get x = some (.pointer (some ⟨b, i, none⟩))) (hy : env.get y = some v) (ht : Tabs.T prog t = some e) (hs : e.size = 1) (hv : v.cells = #[v]) (h1 : v.oneCell' = true)
    [p : PullBlk b H (.cells (layL gv wv S).toArray T (0, 0)) R] (hi : i < 88) (hl : putCells (layL gv wv S) i [v] = l') (k : PO w0 n env (cels b l' T * R) (wpList prog ops Q rest)) : PO w0 n env H (wpList prog ops Q (⟨none, op, ty, pos, af, none⟩ :: rest)) :=
  PO.storeP (o := ⟨none, op, ty, pos, af, none⟩) ho rfl rfl hx hy ht (by rw [hv, hs]; rfl) (by rw [hv]; simpa using h1) (by rw [hv, lay_len]; simp; omega) (by rw [hv]; exact hl) k
/-! ### What many own, one by one -/
theorem sepL_take {ι : Type} [BEq ι] [LawfulBEq ι] {P : ι → HProp} {x : ι} : ∀ {l : List ι}, x ∈ l → Ent (sepL P l) (P x * sepL P (l.erase x))
  | [], h => by cases h
  | y :: l, h => by
    by_cases e : y = x
    · subst e; rw [List.erase_cons_head]; exact Ent.refl _
    · rw [List.erase_cons_tail (by simpa using e)]
      have ih : Ent (sepL P l) (P x * sepL P (l.erase x)) := sepL_take ((List.mem_cons.1 h).resolve_left (fun g => e g.symm))
      exact (Ent.star (Ent.refl _) ih).trans (Ent.swap _ _ _)
theorem sepL_put {ι : Type} [BEq ι] [LawfulBEq ι] {P P' : ι → HProp} {x : ι} : ∀ {l : List ι}, x ∈ l → (∀ y ∈ l.erase x, P y = P' y) → Ent (P' x * sepL P (l.erase x)) (sepL P' l)
  | [], h, _ => by cases h
  | y :: l, h, hp => by
    by_cases e : y = x
    · subst e
      rw [List.erase_cons_head] at hp ⊢
      have : ∀ m : List ι, (∀ z ∈ m, P z = P' z) → Ent (sepL P m) (sepL P' m) := by
        intro m
        induction m with
        | nil => intro _; exact Ent.refl _
        | cons z m ih => intro hm; exact Ent.star (by rw [hm z List.mem_cons_self]; exact Ent.refl _) (ih fun w hw => hm w (List.mem_cons_of_mem _ hw))
      exact Ent.star (Ent.refl _) (this l hp)
    · rw [List.erase_cons_tail (by simpa using e)] at hp ⊢
      have ih : Ent (P' x * sepL P (l.erase x)) (sepL P' l) := sepL_put ((List.mem_cons.1 h).resolve_left (fun g => e g.symm)) fun z hz => hp z (List.mem_cons_of_mem _ hz)
      refine (Ent.swap _ _ _).trans (Ent.star ?_ ih)
      rw [hp y List.mem_cons_self]; exact Ent.refl _
def pairs : List (Nat × Nat) := (List.range 5).flatMap fun i => (List.range 5).map fun j => (i, j)
theorem pairs_nodup : pairs.Nodup := by decide
theorem mem_pairs {f t : Nat} (hf : f < 5) (ht : t < 5) : (f, t) ∈ pairs := by
  unfold pairs
  rw [List.mem_flatMap]
  exact ⟨f, List.mem_range.2 hf, List.mem_map.2 ⟨t, List.mem_range.2 ht, rfl⟩⟩
/-- What the ways own. -/
abbrev wayP (wv : Nat → Nat → Value) (ways : Int → Int → List Int) : Nat × Nat → HProp := fun p => ints (wv p.1 p.2) 3 (ways p.1 p.2)
theorem ways_take {f t : Nat} (hf : f < 5) (ht : t < 5) : Ent (sepL (wayP wv S.ways) pairs) (ints (wv f t) 3 (S.ways f t) * sepL (wayP wv S.ways) (pairs.erase (f, t))) := sepL_take (mem_pairs hf ht)
theorem ways_put {f t : Nat} (hf : f < 5) (ht : t < 5) (v : Value) (l : List Int) : Ent (ints v 3 l * sepL (wayP wv S.ways) (pairs.erase (f, t))) (sepL (wayP (setWv wv f t v) (setWay S f t l).ways) pairs) := by
  have h := sepL_put (P := wayP wv S.ways) (P' := wayP (setWv wv f t v) (setWay S f t l).ways) (mem_pairs hf ht) (fun y hy => by
    have hne : y ≠ (f, t) := fun e => by
      rw [e] at hy
      exact absurd hy (by rw [pairs_nodup.mem_erase_iff]; simp)
    have hne2 : ¬ (y.1 = f ∧ y.2 = t) := fun e => hne (Prod.ext e.1 e.2)
    have hne3 : ¬ ((y.1 : Int) = f ∧ (y.2 : Int) = t) := fun e => hne2 ⟨by omega, by omega⟩
    simp only [wayP, setWv, setWay]; rw [if_neg hne2, if_neg hne3])
  have e1 : wayP (setWv wv f t v) (setWay S f t l).ways (f, t) = ints v 3 l := by simp [wayP, setWv, setWay]
  rw [e1] at h
  exact h
def refR (b : Nat) (S : PS) : HProp := ex fun gv : Value => ex fun wv : Nat → Nat → Value => cels b (layL gv wv S) 38 * (ints gv 3 S.gold * sepL (wayP wv S.ways) pairs)
theorem writeS_zero (S : PS) (who : Nat) (hk : who < S.gold.length) : writeS S who (0 : Nat) = setWrote (setHas S who) who S.gold[who] := by
  unfold writeS setWrote setHas
  congr 1
  · funext f t; rw [if_neg (by omega)]
  · funext k; simp [hk]
  · funext f t; rw [if_neg (by omega)]
theorem writeS_stay (S : PS) (k : Nat) : writeS S k ((k + 1 : Nat) : Int) = writeS S k k := by
  have h1 : ∀ t : Int, (t ≠ k ∧ 0 ≤ t ∧ t < ((k + 1 : Nat) : Int)) ↔ (t ≠ k ∧ 0 ≤ t ∧ t < k) := fun t => by omega
  simp only [writeS, h1]
theorem writeS_step (S : PS) (k j : Nat) (hne : j ≠ k) : writeS S k ((j + 1 : Nat) : Int) = setOpn (setWay (writeS S k j) k j (S.ways k j ++ [0])) j k true := by
  unfold setOpn setWay writeS
  congr 1
  · funext f t
    by_cases e : f = k ∧ t = j
    · obtain ⟨rfl, rfl⟩ := e
      simp only [true_and, and_self, if_true]; rw [if_pos (by omega)]
    · simp only; rw [if_neg e]
      have : (f = (k : Int) ∧ t ≠ k ∧ 0 ≤ t ∧ t < ((j + 1 : Nat) : Int)) ↔ (f = (k : Int) ∧ t ≠ k ∧ 0 ≤ t ∧ t < j) := by omega
      simp only [this]
  · funext f t
    by_cases e : f = j ∧ t = k
    · obtain ⟨rfl, rfl⟩ := e
      simp only [true_and, and_self, if_true]; rw [if_pos (by omega)]
    · simp only; rw [if_neg e]
      have : (t = (k : Int) ∧ f ≠ k ∧ 0 ≤ f ∧ f < ((j + 1 : Nat) : Int)) ↔ (t = (k : Int) ∧ f ≠ k ∧ 0 ≤ f ∧ f < j) := by omega
      simp only [this]
theorem refR_open {n : Nat} {env : Env} {φ : Act → World → Prop} {b : Nat} (h : ∀ gv wv, PO w0 n env (cels b (layL gv wv S) 38 * (ints gv 3 S.gold * sepL (wayP wv S.ways) pairs) * R) φ) : PO w0 n env (refR b S * R) φ :=
  PO.ex_star fun gv => PO.ex_star fun wv => h gv wv
theorem refR_close {R' : HProp} (b : Nat) (S : PS) (gv : Value) (wv : Nat → Nat → Value) (gold : List Int) (hg : S.gold = gold) [f : Sl.Frame H (cels b (layL gv wv S) 38 * (ints gv 3 gold * sepL (wayP wv S.ways) pairs)) R'] (hR : Ent R' R := by first | exact Ent.refl _ | exact Ent.right _ _ | exact Ent.fr) : Ent H (refR b S * R) := by
  subst hg
  exact f.ent.trans (Ent.star (fun _ hh => ⟨gv, wv, hh⟩) hR)
end Go.Proofs.Tryd
