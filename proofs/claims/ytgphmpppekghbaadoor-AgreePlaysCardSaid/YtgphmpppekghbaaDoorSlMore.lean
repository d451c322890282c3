/- More turns of phrase. -/
import Derived.Test.YtgphmpppekghbaaDoorSlArgs
namespace Go.Sl
open Go.RowKit
variable {P : Program} {w0 : World} {n : Nat} {env : Env} {H H' R : HProp}
theorem sepL_takeN {ι : Type} [BEq ι] [LawfulBEq ι] {P : ι → HProp} {x : ι} : ∀ {l : List ι}, x ∈ l → Ent (sepL P l) (P x * sepL P (l.erase x))
  | [], h => by cases h
  | y :: l, h => by
    by_cases e : y = x
    · subst e; rw [List.erase_cons_head]; exact Ent.refl _
    · rw [List.erase_cons_tail (by simpa using e)]
      have ih : Ent (sepL P l) (P x * sepL P (l.erase x)) := sepL_takeN ((List.mem_cons.1 h).resolve_left (fun g => e g.symm))
      exact (Ent.star (Ent.refl _) ih).trans (Ent.swap _ _ _)
theorem sepL_congr {ι : Type} {P P' : ι → HProp} : ∀ {l : List ι}, (∀ x ∈ l, P x = P' x) → sepL P l = sepL P' l
  | [], _ => rfl
  | x :: l, h => by
    have ih := sepL_congr (l := l) fun y hy => h y (List.mem_cons_of_mem _ hy)
    simp only [sepL, ih, h x List.mem_cons_self]
theorem sepL_putN {ι : Type} [BEq ι] [LawfulBEq ι] {P P' : ι → HProp} {x : ι} : ∀ {l : List ι}, x ∈ l → (∀ y ∈ l.erase x, P y = P' y) → Ent (P' x * sepL P (l.erase x)) (sepL P' l)
  | [], h, _ => by cases h
  | y :: l, h, hp => by
    by_cases e : y = x
    · subst e
      rw [List.erase_cons_head] at hp ⊢
      rw [sepL_congr hp]; exact Ent.refl _
    · rw [List.erase_cons_tail (by simpa using e)] at hp ⊢
      have ih : Ent (P' x * sepL P (l.erase x)) (sepL P' l) := sepL_putN ((List.mem_cons.1 h).resolve_left (fun g => e g.symm)) fun z hz => hp z (List.mem_cons_of_mem _ hz)
      refine (Ent.swap _ _ _).trans (Ent.star ?_ ih)
      rw [hp y List.mem_cons_self]; exact Ent.refl _
theorem sepL_all {ι : Type} {P : ι → HProp} (h : ∀ x, Ent emp (P x)) : ∀ l : List ι, Ent H (sepL P l)
  | [] => Ent.emp _
  | x :: l => (Ent.emp_star _).trans (Ent.star (h x) (sepL_all h l))
theorem PO.addN {φ : Act → World → Prop} (A : HProp) (e : Ent emp A) (h : PO w0 n env (A * H) φ) : PO w0 n env H φ := PO.ent ((Ent.emp_star _).trans (Ent.star e (Ent.refl _))) h
theorem PO.pull {φ : Act → World → Prop} (X : HProp) [p : Pull X H R] (h : PO w0 n env (X * R) φ) : PO w0 n env H φ := PO.ent p.ent h
theorem cels_eqN {b : Nat} {l l' : List Value} {t : TypeId} (h : l = l') : Ent (cels b l t) (cels b l' t) := by subst h; exact Ent.refl _
theorem Ent.exN {α : Sort _} {A : HProp} {B : α → HProp} (x : α) (h : Ent A (B x)) : Ent A (ex B) := fun k e => ⟨x, h k e⟩
theorem cells_ofN {v : Value} (h : v.oneCell' = true) : v.cells = #[v] := by
  cases v <;> first | rfl | cases h
section
variable {α : Type} {T k : Nat} {enc : α → List Value} {v : Value} {xs : List α}
theorem osl_oneN {φ : Act → World → Prop} [p : PullOsl v H T k enc xs R] (h : v.oneCell' = true → PO w0 n env H φ) : PO w0 n env H φ :=
  PO.osl_shape (v := v) fun q c hv _ _ => h (by rw [hv]; rfl)
end
/-! ### Maps of slices that are owned -/
section
variable {κ α : Type} [DecidableEq κ] {T k : Nat} {enc : α → List Value} {W : OM κ (List α)} {xs : List α}
theorem PO.payOut {φ : Act → World → Prop} (q : κ) (hx : oxs W q = xs) [f : Frame H (pays (fun v xs => osl T k enc v xs) W) R]
    (h : ∀ u, (mget (omv W) q).getD nilS = u → PO w0 n env (osl T k enc u xs * pays (fun v xs => osl T k enc v xs) (odel W q) * R) φ) : PO w0 n env H φ := by
  subst hx
  exact PO.ent (f.ent.trans (Ent.star (pays_way (T := T) (k := k) (enc := enc) q) (Ent.refl _))) (h _ rfl)
theorem PO.payRd {φ : Act → World → Prop} (he : Enc k enc) (q : κ) (hx : oxs W q = xs) [f : Frame H (pays (fun v xs => osl T k enc v xs) W) R]
    (h : ∀ u, (mget (omv W) q).getD nilS = u → Elems w0 (pays (fun v xs => osl T k enc v xs) W) k enc u xs → PO w0 n env H φ) : PO w0 n env H φ := by
  intro a w ha hw
  subst hx
  have hw2 := (hw.ent f.ent).ent (Ent.left _ _)
  have e := pays_way (T := T) (k := k) (enc := enc) (W := W) q
  have e1 := (hw2.ent e).ent (Ent.left _ _)
  have key : PO w0 n env (osl T k enc ((mget (omv W) q).getD nilS) (oxs W q)) (fun _ _ => Elems w0 (osl T k enc ((mget (omv W) q).getD nilS) (oxs W q)) k enc ((mget (omv W) q).getD nilS) (oxs W q)) :=
    PO.rd (v := (mget (omv W) q).getD nilS) he fun hel => fun _ _ _ _ => hel
  exact h _ rfl ((key a w ha e1).ent (e.trans (Ent.left _ _))) a w ha hw
end
section
variable [tb : Tabs P] {κ : Type} [DecidableEq κ] {enc : κ → Value} {o : Oper}
/-- A look-up in a map over which an iteration goes. -/
theorem OpV.lookup1It {x i : Operand} {t kt el b r : Nat} {e e' : TE} {k : κ} {l left : List (κ × Value)} {last : Option (κ × Value)} {v : Value} (p : PullIter r H enc b l left last R) (ho : o.op = .lookup t x i false) (hx : env.get x = some (.map (some b))) (ht : tb.T t = some e) (hu : e.und = .map kt el) (he : tb.T el = some e')
    (hi : env.get i = some (enc k)) (law : KeyLaw P kt enc) (hv : (mget l k).getD e'.zero = v) : OpV P w0 n env H o v :=
  OpV.lookup1 (p := ⟨p.ent.trans (Ent.star iter_omap (Ent.refl _))⟩) ho hx ht hu he hi law hv
end
theorem Elems.cellsAt {α : Type} {k : Nat} {enc : α → List Value} {xs : List α} {p : Option Addr} {m c : Nat} (h : Elems w0 H k enc (.slice p m c) xs) {j : Nat} {x : α} (hj : xs[j]? = some x) :
    ∃ b o, p = some ⟨b, o, none⟩ ∧ ∀ w, Holds w0 H w → ∀ (i : Nat) u, (enc x)[i]? = some u → w.cell? ⟨b, o + j * k + i, none⟩ = some u := by
  obtain ⟨p', c', e, h⟩ := h
  obtain ⟨rfl, rfl, rfl⟩ := Value.slice.inj e
  exact h j x hj
/-! ### Lists without doubles -/
theorem nodup_length {α : Type} [DecidableEq α] : ∀ {l m : List α}, l.Nodup → (∀ x ∈ l, x ∈ m) → l.length ≤ m.length
  | [], _, _, _ => Nat.zero_le _
  | x :: l, m, hn, hs => by
    rw [List.nodup_cons] at hn
    have hx := hs x List.mem_cons_self
    have ih := nodup_length (l := l) (m := m.erase x) hn.2 fun y hy => by
      have hne : y ≠ x := fun e => hn.1 (e ▸ hy)
      exact (List.mem_erase_of_ne hne).2 (hs y (List.mem_cons_of_mem _ hy))
    have h2 := List.length_erase (a := x) (l := m)
    rw [if_pos hx] at h2
    have h3 : 0 < m.length := List.length_pos_of_mem hx
    simp only [List.length_cons]; omega
/-- One of many slices, read. -/
theorem PO.sepRd {φ : Act → World → Prop} {ι α : Type} [BEq ι] [LawfulBEq ι] {T k : Nat} {enc : α → List Value} {f : ι → Value} {g : ι → List α} {l : List ι} {x : ι} (hx : x ∈ l) (he : Enc k enc) [fr : Frame H (sepL (fun x => osl T k enc (f x) (g x)) l) R]
    (h : Elems w0 (sepL (fun x => osl T k enc (f x) (g x)) l) k enc (f x) (g x) → PO w0 n env H φ) : PO w0 n env H φ := by
  intro a w ha hw
  have hw2 := (hw.ent fr.ent).ent (Ent.left _ _)
  have e : Ent (sepL (fun x => osl T k enc (f x) (g x)) l) (osl T k enc (f x) (g x) * sepL (fun x => osl T k enc (f x) (g x)) (l.erase x)) := sepL_takeN hx
  have e1 := (hw2.ent e).ent (Ent.left _ _)
  have key : PO w0 n env (osl T k enc (f x) (g x)) (fun _ _ => Elems w0 (osl T k enc (f x) (g x)) k enc (f x) (g x)) := PO.rd (v := f x) he fun hel => fun _ _ _ _ => hel
  exact h ((key a w ha e1).ent (e.trans (Ent.left _ _))) a w ha hw
end Go.Sl
