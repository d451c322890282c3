/- Regions that draw their order; points where ways meet. -/
import Derived.Test.YtgphmpppekghbaaDoorSlSlice2
import Derived.OrdersHeld
namespace Go.Sl
open Go.RowKit
variable {P : Program} {w0 : World} {H H' Hs R : HProp} {n : Nat} {env : Env} {ops : Array Oper} {rest : List Oper} {Q : Exit → Act → World → Prop} {v : Value}

/-- What holds where ways meet. -/
def Mid (w0 : World) (n : Nat) {α : Type} (I : α → Prop) (E : α → Env) (M : α → HProp) (Q : Exit → Act → World → Prop) : Exit → Act → World → Prop
  | .normal, a, w => ∃ y, I y ∧ Agree n (E y) a ∧ Holds w0 (M y) w
  | .panic _, _, _ => False
  | e, a, w => Q e a w
theorem PO.mid {c : Code} {α : Type} (I : α → Prop) (E : α → Env) (M : α → HProp) (h : PO w0 n env H (c.wp P (Mid w0 n I E M Q))) (k : ∀ y, I y → PO w0 n (E y) (M y) (Q .normal)) : PO w0 n env H (c.wp P Q) := by
  intro a w ha hw
  refine Code.wp_mono ?_ (h a w ha hw)
  intro e a' w' hq
  cases e with
  | normal => obtain ⟨y, h1, h2, h3⟩ := hq; exact k y h1 a' w' h2 h3
  | panic c => exact hq.elim
  | _ => exact hq
theorem PO.meet {α : Type} {I : α → Prop} {E : α → Env} {M : α → HProp} (y : α) (hI : I y) (hH : Ent H (M y)) (hE : EnvSub env (E y) := by
      repeat (first
        | exact EnvSub.nil
        | refine EnvSub.cons rfl ?_
        | refine EnvSub.cons (lookI rfl (by omega)) ?_
        | refine EnvSub.cons (lookV rfl (by assumption)) ?_)) : PO w0 n env H (Mid w0 n I E M Q .normal) :=
  fun _ _ ha hw => ⟨y, hI, ha.sub hE, hw.ent hH⟩
theorem PO.mid_ret {α : Type} {I : α → Prop} {E : α → Env} {M : α → HProp} (h : PO w0 n env H (Q .ret)) : PO w0 n env H (Mid w0 n I E M Q .ret) := h
theorem PO.mid_exit {α : Type} {I : α → Prop} {E : α → Env} {M : α → HProp} {i : Nat} (h : PO w0 n env H (Q (.exit i))) : PO w0 n env H (Mid w0 n I E M Q (.exit i)) := h

/-! ### Regions in any order: 'Hs' is what every operation keeps, and what those that are taken first may read -/
def NoPan (Q : Exit → Act → World → Prop) : Exit → Act → World → Prop
  | .panic _, _, _ => False
  | e, a, w => Q e a w
def AnyH (P : Program) (w0 : World) (ops : Array Oper) (Q : Exit → Act → World → Prop) (Hs : HProp) (fuel : Nat) (listed : Array Bool) : Act → World → Prop :=
  wpAnyH P .any ops (NoPan Q) (Holds w0 Hs) fuel listed
theorem PO.regionH {id : Nat} (Hs : HProp) (hm : P.follows .mixedOrders = true) (h : PO w0 n env H (AnyH P w0 ops Q Hs ops.size (Array.replicate ops.size false))) : PO w0 n env H ((Code.region id ops true).wp P Q) := by
  intro a w ha hw
  refine Code.wp_mono ?_ (wp_region_held (S := Holds w0 Hs) hm (h a { w with drawn := w.drawn + 1 } ha (hw.drawn _)))
  intro e a' w' hq
  cases e with
  | panic c => exact hq.elim
  | _ => exact hq
/-- 'A' is what operations may turn; the rest stays. -/
theorem PO.regionF {id : Nat} (A : HProp) [f : Frame H A Hs] (hm : P.follows .mixedOrders = true) (h : PO w0 n env (A * Hs) (AnyH P w0 ops Q Hs ops.size (Array.replicate ops.size false))) : PO w0 n env H ((Code.region id ops true).wp P Q) :=
  PO.ent f.ent (PO.regionH Hs hm h)
/-- Number 'i' is taken first. -/
theorem PO.take {fuel : Nat} {listed : Array Bool} (i : Nat) {d : Tmp} {op : Op} {ty : TypeId} {pos : String} {af : Array Edge} (hi : ops[i]? = some ⟨some d, op, ty, pos, af, none⟩) (hs : Region.noSelect ops = true)
    (hf : Region.free .any ops listed i = true) (hr : (Region.ready .any ops listed).contains i = true) (hd : Nat.blt d n = true) (hH : Ent H Hs) (hv : OpV P w0 n env Hs ⟨some d, op, ty, pos, af, none⟩ v)
    (k : PO w0 n ((d, v) :: env) H (AnyH P w0 ops Q Hs fuel (listed.setIfInBounds i true))) : PO w0 n env H (AnyH P w0 ops Q Hs (fuel + 1) listed) := by
  intro a w ha hw
  refine wpAnyH_take hi hs hf hr (fun _ _ _ h => h) (.inl ⟨by simp [Region.wanted], fun w' hw' => hv a w' ha hw'⟩) (hw.ent hH) ?_
  exact k _ w (ha.put (dst := some d) hd v) hw
/-- The same where a guard says that it does not run. -/
theorem PO.takeNo {fuel : Nat} {listed : Array Bool} (i : Nat) {d j dj : Nat} {want b : Bool} {oj : Oper} {op : Op} {ty : TypeId} {pos : String} {af : Array Edge} (hi : ops[i]? = some ⟨some d, op, ty, pos, af, some (j, want)⟩) (hj : ops[j]? = some oj) (hdj : oj.dst = some dj) (hlk : look env dj = some (.bool b)) (hb : b = !want)
    (hs : Region.noSelect ops = true) (hf : Region.free .any ops listed i = true) (hr : (Region.ready .any ops listed).contains i = true) (hd : Nat.blt d n = true) (hH : Ent H Hs)
    (k : PO w0 n ((d, undef) :: env) H (AnyH P w0 ops Q Hs fuel (listed.setIfInBounds i true))) : PO w0 n env H (AnyH P w0 ops Q Hs (fuel + 1) listed) := by
  intro a w ha hw
  have hy := yielded_of ha hj hdj hlk
  refine wpAnyH_take (v := undef) hi hs hf hr (fun _ _ _ h => h) (.inr ⟨by simp [Region.wanted, hy, hb], rfl⟩) (hw.ent hH) ?_
  exact k _ w (ha.put (dst := some d) hd undef) hw
/-- The same where a guard says that it runs. -/
theorem PO.takeYes {fuel : Nat} {listed : Array Bool} (i : Nat) {d j dj : Nat} {want : Bool} {oj : Oper} {op : Op} {ty : TypeId} {pos : String} {af : Array Edge} (hi : ops[i]? = some ⟨some d, op, ty, pos, af, some (j, want)⟩) (hj : ops[j]? = some oj) (hdj : oj.dst = some dj) (hlk : look env dj = some (.bool want))
    (hs : Region.noSelect ops = true) (hf : Region.free .any ops listed i = true) (hr : (Region.ready .any ops listed).contains i = true) (hd : Nat.blt d n = true) (hH : Ent H Hs) (hv : OpV P w0 n env Hs ⟨some d, op, ty, pos, af, none⟩ v)
    (k : PO w0 n ((d, v) :: env) H (AnyH P w0 ops Q Hs fuel (listed.setIfInBounds i true))) : PO w0 n env H (AnyH P w0 ops Q Hs (fuel + 1) listed) := by
  intro a w ha hw
  have hy := yielded_of ha hj hdj hlk
  refine wpAnyH_take (v := v) hi hs hf hr (fun _ _ _ h => h) (.inl ⟨by simp [Region.wanted, hy], fun w' hw' => ?_⟩) (hw.ent hH) ?_
  · have := hv a w' ha hw'
    simpa [execOp] using this
  exact k _ w (ha.put (dst := some d) hd v) hw
/-- Whichever of those that may come up. -/
def OneOf (P : Program) (w0 : World) (n : Nat) (env : Env) (H : HProp) (ops : Array Oper) (Q : Exit → Act → World → Prop) (Hs : HProp) (fuel : Nat) (listed : Array Bool) : List Nat → Prop
  | [] => True
  | i :: r => (∃ o, ops[i]? = some o ∧ PO w0 n env H (wpList P ops (Exit.then (fun a w => Holds w0 Hs w ∧ AnyH P w0 ops Q Hs fuel (listed.setIfInBounds i true) a w) (fun _ _ _ => False)) [o])) ∧ OneOf P w0 n env H ops Q Hs fuel listed r
theorem OneOf.at {fuel : Nat} {listed : Array Bool} : ∀ {l : List Nat}, OneOf P w0 n env H ops Q Hs fuel listed l → ∀ i ∈ l, ∃ o, ops[i]? = some o ∧ PO w0 n env H (wpList P ops (Exit.then (fun a w => Holds w0 Hs w ∧ AnyH P w0 ops Q Hs fuel (listed.setIfInBounds i true) a w) (fun _ _ _ => False)) [o])
  | j :: r, ⟨h1, h2⟩, i, hi => by
    rcases List.mem_cons.1 hi with rfl | hi
    · exact h1
    · exact OneOf.at h2 i hi
theorem PO.any {fuel : Nat} {listed : Array Bool} (rs : List Nat) (hr : Region.ready .any ops listed = rs) (hne : rs ≠ []) (h : OneOf P w0 n env H ops Q Hs fuel listed rs) : PO w0 n env H (AnyH P w0 ops Q Hs (fuel + 1) listed) := by
  intro a w ha hw
  refine wpAnyH_all hr hne fun i hi => ?_
  obtain ⟨o, ho, hk⟩ := h.at i hi
  have := hk a w ha hw
  unfold wpOp
  simp only [ho]
  unfold wpList at this
  split
  · rename_i hw'
    rw [if_pos hw'] at this
    rcases this with h1 | ⟨h1, a1, w1, h2⟩
    · left
      unfold Oper.wp at h1 ⊢
      generalize (execOp a.eval o).run P w = r at h1
      have fin : ∀ a' w', wpList P ops (Exit.then (fun a w => Holds w0 Hs w ∧ AnyH P w0 ops Q Hs fuel (listed.setIfInBounds i true) a w) (fun _ _ _ => False)) [] a' w' → Holds w0 Hs w' ∧ AnyH P w0 ops Q Hs fuel (listed.setIfInBounds i true) a' w' := fun _ _ h => h
      cases r with
      | ok x w' =>
        cases x <;> simp only [Oper.upon] at h1 ⊢ <;>
          first
            | exact fin _ _ h1
            | exact Calls.mono h1 (fun e w'' he => by cases e <;> first | exact fin _ _ he | exact he.elim | exact he.elim fun _ h => h.elim fun _ h => h.elim)
            | exact Rows.mono h1 (fun _ _ he => fin _ _ he)
      | halt x w' => cases x <;> simp only [Oper.upon] at h1 ⊢ <;> exact h1
    · exact h2.elim
  · rename_i hw'
    rw [if_neg hw'] at this
    exact this
theorem OneOf.nil {fuel : Nat} {listed : Array Bool} : OneOf P w0 n env H ops Q Hs fuel listed [] := trivial
theorem OneOf.cons {fuel : Nat} {listed : Array Bool} {i : Nat} {r : List Nat} {o : Oper} (ho : ops[i]? = some o) (h : PO w0 n env H (wpList P ops (Exit.then (fun a w => Holds w0 Hs w ∧ AnyH P w0 ops Q Hs fuel (listed.setIfInBounds i true) a w) (fun _ _ _ => False)) [o])) (k : OneOf P w0 n env H ops Q Hs fuel listed r) :
    OneOf P w0 n env H ops Q Hs fuel listed (i :: r) := ⟨⟨o, ho, h⟩, k⟩
/-- Behind an operation. -/
theorem PO.kept {φ : Act → World → Prop} (hH : Ent H Hs) (h : PO w0 n env H φ) : PO w0 n env H (wpList P ops (Exit.then (fun a w => Holds w0 Hs w ∧ φ a w) (fun _ _ _ => False)) []) := fun a w ha hw => ⟨hw.ent hH, h a w ha hw⟩
theorem PO.anyDone {fuel : Nat} {listed : Array Bool} (hr : Region.ready .any ops listed = []) (h : PO w0 n env H (Q .normal)) : PO w0 n env H (AnyH P w0 ops Q Hs fuel listed) := by
  intro a w ha hw
  exact wpAnyH_done (Q := NoPan Q) hr (h a w ha hw) fuel

/-! ### With scripts -/
section
variable {fuel : Nat} {listed : Array Bool} {d : Tmp} {op : Op} {ty : TypeId} {pos : String} {af : Array Edge}
/-- Number 'i' is taken first; what it yields is found. -/
theorem tk (i : Nat) (k : PO w0 n ((d, v) :: env) H (AnyH P w0 ops Q Hs fuel (listed.setIfInBounds i true))) (hi : ops[i]? = some ⟨some d, op, ty, pos, af, none⟩ := by exact rfl) (hs : Region.noSelect ops = true := by kernel_rfl)
    (hf : Region.free .any ops listed i = true := by kernel_rfl) (hr : (Region.ready .any ops listed).contains i = true := by kernel_rfl) (hd : Nat.blt d n = true := by exact rfl) (hH : Ent H Hs := by first | exact Ent.refl _ | exact Ent.right _ _ | exact (Ent.right _ _).trans (Ent.right _ _) | exact Ent.fr)
    (hv : OpV P w0 n env Hs ⟨some d, op, ty, pos, af, none⟩ v := by
      first
        | exact OpV.ev rfl
        | exact OpV.load rfl rfl rfl rfl rfl
        | exact OpV.load_agg rfl rfl rfl rfl rfl
        | exact OpV.add64 rfl rfl rfl (by omega)
        | exact OpV.sub64 rfl rfl rfl (by omega)
        | exact OpV.pick_bool rfl rfl rfl rfl
        | exact OpV.indexN1_slice rfl rfl rfl rfl rfl rfl rfl (by omega)
        | exact OpV.indexN1_array rfl rfl rfl rfl rfl rfl rfl (by omega)
        | exact OpV.indexN_slice rfl rfl rfl rfl rfl rfl (by omega)
        | exact OpV.indexN_array rfl rfl rfl rfl rfl rfl (by omega)
        | exact OpV.indexAddr_slice rfl rfl rfl rfl rfl rfl (by omega)
        | exact OpV.indexAddr_array rfl rfl rfl rfl rfl rfl (by omega)) : PO w0 n env H (AnyH P w0 ops Q Hs (fuel + 1) listed) :=
  PO.take i hi hs hf hr hd hH hv k
end
end Go.Sl
