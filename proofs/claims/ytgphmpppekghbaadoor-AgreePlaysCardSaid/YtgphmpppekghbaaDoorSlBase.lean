/- A separation logic over the kit's 'Code.wp': assertions on the blocks that are new since a base world, and judgements over a frame's slots. -/
import Derived.WalkKit
import Derived.Deep.Quiet
import Derived.Below
namespace Go.Sl
open Go.RowKit

/-! ## Heaps and assertions -/
abbrev Hp := Nat → Option Obj
def Hp.le (h k : Hp) : Prop := ∀ b o, h b = some o → k b = some o
def Hp.apart (h k : Hp) : Prop := ∀ b, h b = none ∨ k b = none
def Hp.join (h k : Hp) : Hp := fun b => (h b).or (k b)
theorem Hp.le_refl (h : Hp) : Hp.le h h := fun _ _ e => e
theorem Hp.le_trans {a b c : Hp} (h : Hp.le a b) (k : Hp.le b c) : Hp.le a c := fun x o e => k x o (h x o e)
theorem Hp.le_join_left (h k : Hp) : Hp.le h (Hp.join h k) := fun b o e => by simp [Hp.join, e]
theorem Hp.le_join_right {h k : Hp} (ha : Hp.apart h k) : Hp.le k (Hp.join h k) := fun b o e => by
  rcases ha b with h1 | h1
  · simp [Hp.join, h1, e]
  · rw [h1] at e; cases e
theorem Hp.join_le {h k m : Hp} (h1 : Hp.le h m) (h2 : Hp.le k m) : Hp.le (Hp.join h k) m := fun b o e => by
  unfold Hp.join at e
  cases hb : h b with
  | none => rw [hb] at e; exact h2 b o (by simpa using e)
  | some x => rw [hb] at e; simp at e; subst e; exact h1 b x hb
theorem Hp.apart_symm {h k : Hp} (a : Hp.apart h k) : Hp.apart k h := fun b => (a b).symm
theorem Hp.apart_le {h k h' k' : Hp} (a : Hp.apart h k) (l1 : Hp.le h' h) (l2 : Hp.le k' k) : Hp.apart h' k' := fun b => by
  rcases a b with e | e
  · left
    cases hb : h' b with
    | none => rfl
    | some o => rw [l1 b o hb] at e; cases e
  · right
    cases hb : k' b with
    | none => rfl
    | some o => rw [l2 b o hb] at e; cases e
theorem Hp.apart_join {h k m : Hp} (a : Hp.apart h m) (b : Hp.apart k m) : Hp.apart (Hp.join h k) m := fun x => by
  rcases a x with e | e
  · rcases b x with f | f
    · left; simp [Hp.join, e, f]
    · exact .inr f
  · exact .inr e

structure HProp where
  sat : Hp → Prop
  up : ∀ {h k : Hp}, Hp.le h k → sat h → sat k

def Ent (A B : HProp) : Prop := ∀ h, A.sat h → B.sat h
def emp : HProp := ⟨fun _ => True, fun _ h => h⟩
def pur (p : Prop) : HProp := ⟨fun _ => p, fun _ h => h⟩
def ex {α : Sort _} (A : α → HProp) : HProp := ⟨fun h => ∃ x, (A x).sat h, fun l ⟨x, e⟩ => ⟨x, (A x).up l e⟩⟩
def star (A B : HProp) : HProp :=
  ⟨fun h => ∃ h1 h2, Hp.apart h1 h2 ∧ Hp.le h1 h ∧ Hp.le h2 h ∧ A.sat h1 ∧ B.sat h2,
   fun l ⟨h1, h2, a, l1, l2, e1, e2⟩ => ⟨h1, h2, a, Hp.le_trans l1 l, Hp.le_trans l2 l, e1, e2⟩⟩
instance : Mul HProp := ⟨star⟩
def blk (b : Nat) (o : Obj) : HProp := ⟨fun h => h b = some o, fun l e => l _ _ e⟩
/-- A block of cells, none frozen. -/
abbrev cels (b : Nat) (l : List Value) (t : TypeId) : HProp := blk b (.cells l.toArray t (0, 0))

theorem star_sat {A B : HProp} {h : Hp} : (A * B).sat h ↔ ∃ h1 h2, Hp.apart h1 h2 ∧ Hp.le h1 h ∧ Hp.le h2 h ∧ A.sat h1 ∧ B.sat h2 := Iff.rfl

theorem Ent.refl (A : HProp) : Ent A A := fun _ h => h
theorem Ent.trans {A B C : HProp} (h : Ent A B) (k : Ent B C) : Ent A C := fun x e => k x (h x e)
theorem Ent.star {A A' B B' : HProp} (h : Ent A A') (k : Ent B B') : Ent (A * B) (A' * B') :=
  fun _ ⟨h1, h2, a, l1, l2, e1, e2⟩ => ⟨h1, h2, a, l1, l2, h _ e1, k _ e2⟩
theorem Ent.comm (A B : HProp) : Ent (A * B) (B * A) :=
  fun _ ⟨h1, h2, a, l1, l2, e1, e2⟩ => ⟨h2, h1, Hp.apart_symm a, l2, l1, e2, e1⟩
theorem Ent.assoc (A B C : HProp) : Ent (A * B * C) (A * (B * C)) :=
  fun _ ⟨_, h3, a, l12, l3, ⟨h1, h2, a', l1, l2, e1, e2⟩, e3⟩ =>
    ⟨h1, Hp.join h2 h3, Hp.apart_symm (Hp.apart_join (Hp.apart_symm a') (Hp.apart_symm (Hp.apart_le a l1 (Hp.le_refl _)))),
      Hp.le_trans l1 l12, Hp.join_le (Hp.le_trans l2 l12) l3, e1,
      ⟨h2, h3, Hp.apart_le a l2 (Hp.le_refl _), Hp.le_join_left _ _, Hp.le_join_right (Hp.apart_le a l2 (Hp.le_refl _)), e2, e3⟩⟩
theorem Ent.assoc' (A B C : HProp) : Ent (A * (B * C)) (A * B * C) :=
  (Ent.comm _ _).trans (((Ent.assoc B C A)).trans ((Ent.comm _ _).trans ((Ent.assoc C A B).trans (Ent.comm _ _))))
theorem Ent.left (A B : HProp) : Ent (A * B) A := fun _ ⟨_, _, _, l1, _, e1, _⟩ => A.up l1 e1
theorem Ent.right (A B : HProp) : Ent (A * B) B := fun _ ⟨_, _, _, _, l2, _, e2⟩ => B.up l2 e2
theorem Ent.emp (A : HProp) : Ent A emp := fun _ _ => trivial
theorem Ent.emp_star (A : HProp) : Ent A (Sl.emp * A) :=
  fun h e => ⟨fun _ => none, h, fun _ => .inl rfl, fun _ _ e => by (cases e), Hp.le_refl _, trivial, e⟩
theorem Ent.star_emp (A : HProp) : Ent A (A * Sl.emp) := (Ent.emp_star A).trans (Ent.comm _ _)
theorem Ent.pur_star {p : Prop} {A B : HProp} (h : p → Ent A B) : Ent (pur p * A) B :=
  fun _ ⟨_, _, _, _, l2, e1, e2⟩ => B.up l2 (h e1 _ e2)
theorem Ent.star_pur {p : Prop} (A : HProp) (h : p) : Ent A (pur p * A) :=
  fun k e => ⟨fun _ => none, k, fun _ => .inl rfl, fun _ _ e => by (cases e), Hp.le_refl _, h, e⟩
theorem Ent.ex_intro {α : Sort _} {A : α → HProp} (x : α) : Ent (A x) (ex A) := fun _ e => ⟨x, e⟩
theorem Ent.ex_elim {α : Sort _} {A : α → HProp} {B : HProp} (h : ∀ x, Ent (A x) B) : Ent (ex A) B := fun k ⟨x, e⟩ => h x k e
theorem Ent.ex_star {α : Sort _} {A : α → HProp} (B : HProp) : Ent (ex A * B) (ex fun x => A x * B) :=
  fun _ ⟨h1, h2, a, l1, l2, ⟨x, e1⟩, e2⟩ => ⟨x, h1, h2, a, l1, l2, e1, e2⟩
theorem Ent.ex_star' {α : Sort _} {A : α → HProp} (B : HProp) : Ent (ex fun x => A x * B) (ex A * B) :=
  fun _ ⟨x, h1, h2, a, l1, l2, e1, e2⟩ => ⟨h1, h2, a, l1, l2, ⟨x, e1⟩, e2⟩

/-! ## Finding a part -/
class PullBlk (b : Nat) (H : HProp) (o : outParam Obj) (R : outParam HProp) : Prop where
  ent : Ent H (blk b o * R)
instance (priority := 2000) PullBlk.hereL (b : Nat) (o : Obj) (R : HProp) : PullBlk b (blk b o * R) o R := ⟨Ent.refl _⟩
instance (priority := 1900) PullBlk.hereR (b : Nat) (o : Obj) (L : HProp) : PullBlk b (L * blk b o) o L := ⟨Ent.comm _ _⟩
instance (priority := 1800) PullBlk.here (b : Nat) (o : Obj) : PullBlk b (blk b o) o emp := ⟨Ent.star_emp _⟩
instance (priority := 1000) PullBlk.goL (b : Nat) (o : Obj) (L R L' : HProp) [p : PullBlk b L o L'] : PullBlk b (L * R) o (L' * R) :=
  ⟨(Ent.star p.ent (Ent.refl _)).trans (Ent.assoc _ _ _)⟩
instance (priority := 900) PullBlk.goR (b : Nat) (o : Obj) (L R R' : HProp) [p : PullBlk b R o R'] : PullBlk b (L * R) o (L * R') :=
  ⟨(Ent.star (Ent.refl _) p.ent).trans ((Ent.assoc' _ _ _).trans ((Ent.star (Ent.comm _ _) (Ent.refl _)).trans (Ent.assoc _ _ _)))⟩

theorem Ent.swap (A B C : HProp) : Ent (A * (B * C)) (B * (A * C)) := (Ent.assoc' _ _ _).trans ((Ent.star (Ent.comm _ _) (Ent.refl _)).trans (Ent.assoc _ _ _))
class Pull (X H : HProp) (R : outParam HProp) : Prop where
  ent : Ent H (X * R)
  back : Ent (X * R) H
instance (priority := 2000) Pull.hereL (X R : HProp) : Pull X (X * R) R := ⟨Ent.refl _, Ent.refl _⟩
instance (priority := 1900) Pull.hereR (X L : HProp) : Pull X (L * X) L := ⟨Ent.comm _ _, Ent.comm _ _⟩
instance (priority := 1800) Pull.here (X : HProp) : Pull X X emp := ⟨Ent.star_emp _, Ent.left _ _⟩
instance (priority := 1000) Pull.goL (X L R L' : HProp) [p : Pull X L L'] : Pull X (L * R) (L' * R) :=
  ⟨(Ent.star p.ent (Ent.refl _)).trans (Ent.assoc _ _ _), (Ent.assoc' _ _ _).trans (Ent.star p.back (Ent.refl _))⟩
instance (priority := 900) Pull.goR (X L R R' : HProp) [p : Pull X R R'] : Pull X (L * R) (L * R') :=
  ⟨(Ent.star (Ent.refl _) p.ent).trans (Ent.swap _ _ _), (Ent.swap _ _ _).trans (Ent.star (Ent.refl _) p.back)⟩

/-- H splits into A and a rest. -/
class Frame (H A : HProp) (R : outParam HProp) : Prop where
  ent : Ent H (A * R)
  back : Ent (A * R) H
instance (priority := 2000) Frame.emp (H : HProp) : Frame H Sl.emp H := ⟨Ent.emp_star _, Ent.right _ _⟩
instance (priority := 1500) Frame.all (H : HProp) : Frame H H Sl.emp := ⟨Ent.star_emp _, Ent.left _ _⟩
instance (priority := 1400) Frame.both (H A B R R' : HProp) [f : Frame H A R] [g : Frame R B R'] : Frame H (A * B) R' :=
  ⟨f.ent.trans ((Ent.star (Ent.refl _) g.ent).trans (Ent.assoc' _ _ _)), (Ent.assoc _ _ _).trans ((Ent.star (Ent.refl _) g.back).trans f.back)⟩
instance (priority := 1000) Frame.one (H A R : HProp) [p : Pull A H R] : Frame H A R := ⟨p.ent, p.back⟩

/-! ## Worlds -/
def own (w0 w : World) : Hp := fun b => if w0.heap.size ≤ b then w.heap[b]? else none
structure Holds (w0 : World) (H : HProp) (w : World) : Prop where
  below : Below w0.heap.size w0 w
  sat : H.sat (own w0 w)
variable {w0 w : World} {H H' A B R : HProp}
theorem Holds.ent (h : Holds w0 H w) (e : Ent H H') : Holds w0 H' w := ⟨h.below, e _ h.sat⟩
theorem Holds.start (w0 : World) : Holds w0 emp w0 := ⟨Below.refl _ _, trivial⟩
theorem Holds.size (h : Holds w0 H w) : w0.heap.size ≤ w.heap.size := h.below.size
theorem Holds.pur {p : Prop} (h : Holds w0 (pur p * H) w) : p := h.sat.elim fun _ ⟨_, _, _, _, e, _⟩ => e
theorem Holds.blk {b : Nat} {o : Obj} (h : Holds w0 (blk b o * H) w) : w0.heap.size ≤ b ∧ w.heap[b]? = some o := by
  have := (Ent.left _ _) _ h.sat
  have h2 : own w0 w b = some o := this
  unfold own at h2
  split at h2
  · exact ⟨by assumption, h2⟩
  · cases h2
theorem Holds.ex {α : Sort _} {A : α → HProp} (h : Holds w0 (Sl.ex A) w) : ∃ x, Holds w0 (A x) w := h.sat.elim fun x e => ⟨x, h.below, e⟩
theorem Holds.ex_star {α : Sort _} {A : α → HProp} (h : Holds w0 (Sl.ex A * H) w) : ∃ x, Holds w0 (A x * H) w := (h.ent (Ent.ex_star _)).ex

theorem own_le_alloc (o : Obj) : Hp.le (own w0 w) (own w0 (w.alloc o)) := fun b x e => by
  unfold own at *
  split at e
  · rename_i hb
    rw [if_pos hb]
    have hlt : b < w.heap.size := by
      rcases Nat.lt_or_ge b w.heap.size with h | h
      · exact h
      · simp [Array.getElem?_eq_none h] at e
    simp only [World.alloc, Array.getElem?_push]
    rw [if_neg (by omega)]; exact e
  · cases e
theorem Holds.alloc (h : Holds w0 H w) (o : Obj) : Holds w0 (Sl.blk w.heap.size o * H) (w.alloc o) := by
  refine ⟨h.below.alloc h.size o, ?_⟩
  refine ⟨fun b => if b = w.heap.size then some o else none, own w0 w, ?_, ?_, own_le_alloc o, by simp [Sl.blk], h.sat⟩
  · intro b
    by_cases hb : b = w.heap.size
    · right; unfold own; split
      · rw [hb]; simp
      · rfl
    · left; simp [hb]
  · intro b x e
    by_cases hb : b = w.heap.size
    · subst hb
      simp at e; subst e
      unfold own; rw [if_pos h.size]; show (w.heap.push o)[w.heap.size]? = some o; simp
    · simp [hb] at e
theorem Holds.drew (h : Holds w0 H w) : Holds w0 H w.drew := ⟨h.below.drew, h.sat⟩
theorem Holds.drawn (h : Holds w0 H w) (n : Nat) : Holds w0 H { w with drawn := n } := ⟨⟨h.below.os, h.below.tape, h.below.output, h.below.size, h.below.block⟩, h.sat⟩

/-- One block of our own turned. -/
theorem Holds.turn {b : Nat} {o o' : Obj} {w' : World} (h : Holds w0 (Sl.blk b o * H) w) (hos : w'.os = w.os) (ht : w'.tape = w.tape) (hout : w'.output = w.output)
    (hb : w'.heap[b]? = some o') (hother : ∀ k, k ≠ b → w'.heap[k]? = w.heap[k]?) (hsz : w'.heap.size = w.heap.size) : Holds w0 (Sl.blk b o' * H) w' := by
  have hb0 := h.blk
  refine ⟨⟨hos.trans h.below.os, ht.trans h.below.tape, hout.trans h.below.output, by rw [hsz]; exact h.size, fun k hk => (hother k (by omega)).trans (h.below.block k hk)⟩, ?_⟩
  obtain ⟨h1, h2, a, l1, l2, e1, e2⟩ := h.sat
  have e1' : h1 b = some o := e1
  have h2b : h2 b = none := (a b).resolve_left (by rw [e1']; simp)
  refine ⟨fun k => if k = b then some o' else none, h2, ?_, ?_, ?_, by simp [Sl.blk], e2⟩
  · intro k
    by_cases hk : k = b
    · right; rw [hk]; exact h2b
    · left; simp [hk]
  · intro k x e
    by_cases hk : k = b
    · subst hk
      simp at e; subst e
      unfold own; rw [if_pos hb0.1]; exact hb
    · simp [hk] at e
  · intro k x e
    have hk : k ≠ b := fun hk => by rw [hk, h2b] at e; cases e
    have := l2 k x e
    unfold own at this ⊢
    rw [hother k hk]; exact this

theorem Holds.setObj {b : Nat} {o o' : Obj} (h : Holds w0 (Sl.blk b o * H) w) : Holds w0 (Sl.blk b o' * H) { w with heap := w.heap.setIfInBounds b o' } := by
  have hb := h.blk
  have hlt : b < w.heap.size := by
    rcases Nat.lt_or_ge b w.heap.size with h | h
    · exact h
    · simp [Array.getElem?_eq_none h] at hb
  refine h.turn rfl rfl rfl ?_ ?_ ?_
  · simp [hlt]
  · intro k hk; simp [Ne.symm hk]
  · simp
theorem Holds.setCell {b i : Nat} {c : Array Value} {t : TypeId} {fr : Nat × Nat} (v : Value) (h : Holds w0 (Sl.blk b (.cells c t fr) * H) w) :
    Holds w0 (Sl.blk b (.cells (c.setIfInBounds i v) t fr) * H) (w.setCell ⟨b, i, none⟩ v) := by
  have hb := h.blk
  refine h.turn rfl rfl rfl ?_ ?_ ?_
  · simp [World.setCell, Array.getElem?_modify, hb.2]
  · intro k hk; simp [World.setCell, Array.getElem?_modify, Ne.symm hk]
  · simp [World.setCell]
theorem Holds.cell {b i : Nat} {c : Array Value} {t : TypeId} {fr : Nat × Nat} (h : Holds w0 (Sl.blk b (.cells c t fr) * H) w) : w.cell? ⟨b, i, none⟩ = c[i]? := by
  simp [World.cell?, h.blk.2]
theorem Holds.frozen {b i : Nat} {c : Array Value} {t : TypeId} (h : Holds w0 (Sl.blk b (.cells c t (0, 0)) * H) w) : w.frozen? ⟨b, i, none⟩ = false := by
  simp [World.frozen?, h.blk.2]
theorem Holds.oldBlock (h : Holds w0 H w) {k : Nat} (hk : k < w0.heap.size) : w.heap[k]? = w0.heap[k]? := h.below.block k hk
theorem Holds.oldCell (h : Holds w0 H w) {a : Addr} {v : Value} (hc : w0.cell? a = some v) : w.cell? a = some v := by
  have hlt := World.block_lt_of_cell? w0 a hc
  unfold World.cell? at *
  rw [h.oldBlock hlt]; exact hc
end Go.Sl
