/- Judgements over a frame's slots and an assertion: rules for the kit's code. -/
import Derived.Test.YtgphmpppekghbaaDoorSlBase
namespace Go.Sl
open Go.RowKit

abbrev Env := List (Nat × Value)
def look : Env → Nat → Option Value
  | [], _ => none
  | (k, v) :: r, t => bif Nat.beq k t then some v else look r t
def Env.get (env : Env) : Operand → Option Value
  | .tmp t => look env t
  | .const v => some v
  | .global g => some (.pointer (some ⟨g, 0, none⟩))
  | .func f => some (.func (.func f) #[] #[])
def Env.put (env : Env) (dst : Option Tmp) (v : Value) : Env := match dst with | some d => (d, v) :: env | none => env
def dstOk (n : Nat) : Option Tmp → Bool | some d => Nat.blt d n | none => true

theorem beq_ne {a b : Nat} (h : a ≠ b) : Nat.beq a b = false := by
  cases e : Nat.beq a b with
  | false => rfl
  | true => exact absurd (Nat.eq_of_beq_eq_true e) h

structure Agree (n : Nat) (env : Env) (a : Act) : Prop where
  size : a.tmps.size = n
  defers : a.defers = []
  slot : ∀ t v, look env t = some v → a.tmps.getD t undef = v

theorem Agree.eval {n : Nat} {env : Env} {a : Act} (h : Agree n env a) {x : Operand} {v : Value} (hx : env.get x = some v) : a.eval x = v := by
  cases x with
  | tmp t => exact h.slot t v hx
  | const c => exact Option.some.inj hx
  | global g => exact Option.some.inj hx
  | func f => exact Option.some.inj hx
theorem Agree.put {n : Nat} {env : Env} {a : Act} (h : Agree n env a) {dst : Option Tmp} (hd : dstOk n dst = true) (v : Value) : Agree n (env.put dst v) (a.put dst v) := by
  cases dst with
  | none => exact h
  | some d =>
    have hd' : d < n := by simpa [dstOk] using hd
    refine ⟨by simp [Act.put, h.size], h.defers, ?_⟩
    intro t u hu
    simp only [Env.put, look] at hu
    by_cases e : d = t
    · subst e
      simp at hu; subst hu
      simp [Act.put, h.size, hd']
    · have : Nat.beq d t = false := beq_ne e
      rw [this] at hu
      have := h.slot t u (by simpa using hu)
      rw [← this]
      simp [Act.put, Array.getD_eq_getD_getElem?, e]

def PO (w0 : World) (n : Nat) (env : Env) (H : HProp) (φ : Act → World → Prop) : Prop := ∀ a w, Agree n env a → Holds w0 H w → φ a w

variable {P : Program} {w0 : World} {n : Nat} {env env' : Env} {H H' A B R : HProp} {φ ψ : Act → World → Prop} {Q : Exit → Act → World → Prop}

theorem PO.ent (e : Ent H H') (h : PO w0 n env H' φ) : PO w0 n env H φ := fun a w ha hw => h a w ha (hw.ent e)
theorem PO.ex {α : Sort _} {A : α → HProp} (h : ∀ x, PO w0 n env (A x) φ) : PO w0 n env (Sl.ex A) φ := fun a w ha hw => let ⟨x, hx⟩ := hw.ex; h x a w ha hx
theorem PO.ex_star {α : Sort _} {A : α → HProp} (h : ∀ x, PO w0 n env (A x * H) φ) : PO w0 n env (Sl.ex A * H) φ := fun a w ha hw => let ⟨x, hx⟩ := hw.ex_star; h x a w ha hx
theorem PO.pur {p : Prop} (h : p → PO w0 n env H φ) : PO w0 n env (Sl.pur p * H) φ := fun a w ha hw => h hw.pur a w ha (hw.ent (Ent.right _ _))
theorem PO.holds (h : ∀ w, Holds w0 H w → PO w0 n env H φ) : PO w0 n env H φ := fun a w ha hw => h w hw a w ha hw

/-! ## Environments -/
def EnvSub (env : Env) : Env → Prop
  | [] => True
  | (t, v) :: r => look env t = some v ∧ EnvSub env r
theorem EnvSub.look {env : Env} : ∀ {e : Env}, EnvSub env e → ∀ t v, Sl.look e t = some v → Sl.look env t = some v
  | [], _, t, v, h => by cases h
  | (k, u) :: r, ⟨h1, h2⟩, t, v, h => by
    simp only [Sl.look] at h
    by_cases e : k = t
    · subst e; simp at h; subst h; exact h1
    · have : Nat.beq k t = false := beq_ne e
      rw [this] at h; exact EnvSub.look h2 t v (by simpa using h)
theorem Agree.sub {a : Act} (h : Agree n env a) (s : EnvSub env env') : Agree n env' a := ⟨h.size, h.defers, fun t v e => h.slot t v (s.look t v e)⟩
theorem PO.sub (s : EnvSub env env') (h : PO w0 n env' H φ) : PO w0 n env H φ := fun a w ha hw => h a w (ha.sub s) hw

/-! ## Code -/
theorem PO.seq {x y : Code} (h : PO w0 n env H (x.wp P (Exit.then (y.wp P Q) Q))) : PO w0 n env H ((Code.seq x y).wp P Q) := fun a w ha hw => wp_seq (h a w ha hw)
theorem PO.skip (h : PO w0 n env H (Q .normal)) : PO w0 n env H (Code.skip.wp P Q) := fun a w ha hw => wp_skip (h a w ha hw)
theorem PO.ret (h : PO w0 n env H (Q .ret)) : PO w0 n env H (Code.ret.wp P Q) := fun a w ha hw => wp_ret (h a w ha hw)
theorem PO.exit {id : Nat} (h : PO w0 n env H (Q (.exit id))) : PO w0 n env H ((Code.exit id).wp P Q) := fun a w ha hw => wp_exit (h a w ha hw)
theorem PO.block {id : Nat} {c : Code} (h : PO w0 n env H (c.wp P (Exit.inBlock id Q))) : PO w0 n env H ((Code.block id c).wp P Q) := fun a w ha hw => wp_block (h a w ha hw)
theorem PO.cond {c : Operand} {x y : Code} {t : Bool} (hc : env.get c = some (.bool t)) (ht : t = true → PO w0 n env H (x.wp P Q)) (hf : t = false → PO w0 n env H (y.wp P Q)) :
    PO w0 n env H ((Code.cond c x y).wp P Q) := fun a w ha hw => wp_cond_split (ha.eval hc) (fun e => ht e a w ha hw) (fun e => hf e a w ha hw)
theorem PO.cond_true {c : Operand} {x y : Code} (hc : env.get c = some (.bool true)) (h : PO w0 n env H (x.wp P Q)) : PO w0 n env H ((Code.cond c x y).wp P Q) :=
  fun a w ha hw => wp_cond_true (ha.eval hc) (h a w ha hw)
theorem PO.cond_false {c : Operand} {x y : Code} (hc : env.get c = some (.bool false)) (h : PO w0 n env H (y.wp P Q)) : PO w0 n env H ((Code.cond c x y).wp P Q) :=
  fun a w ha hw => wp_cond_false (ha.eval hc) (h a w ha hw)
theorem PO.then_normal {K : Act → World → Prop} (h : PO w0 n env H K) : PO w0 n env H (Exit.then K Q .normal) := h
theorem PO.then_exit {K : Act → World → Prop} {i : Nat} (h : PO w0 n env H (Q (.exit i))) : PO w0 n env H (Exit.then K Q (.exit i)) := h
theorem PO.then_ret {K : Act → World → Prop} (h : PO w0 n env H (Q .ret)) : PO w0 n env H (Exit.then K Q .ret) := h
theorem PO.inBlock_normal {i : Nat} (h : PO w0 n env H (Q .normal)) : PO w0 n env H (Exit.inBlock i Q .normal) := h
theorem PO.inBlock_ret {i : Nat} (h : PO w0 n env H (Q .ret)) : PO w0 n env H (Exit.inBlock i Q .ret) := h
theorem PO.inBlock_exit_here {i : Nat} (h : PO w0 n env H (Q .normal)) : PO w0 n env H (Exit.inBlock i Q (.exit i)) := fun a w ha hw => by simp only [Exit.inBlock, if_true]; exact h a w ha hw
theorem PO.inBlock_exit {i j : Nat} (hij : Nat.beq j i = false) (h : PO w0 n env H (Q (.exit j))) : PO w0 n env H (Exit.inBlock i Q (.exit j)) := fun a w ha hw => by
  simp only [Exit.inBlock]; rw [if_neg (Nat.ne_of_beq_eq_false hij)]; exact h a w ha hw

/-- What a round of a loop must come to: some ghost 'y' with a smaller measure. -/
def Again (w0 : World) (n : Nat) {α : Type} (I : α → Prop) (E : α → Env) (Hs : α → HProp) (μ : α → Nat) (x : α) (a : Act) (w : World) : Prop :=
  ∃ y, I y ∧ μ y < μ x ∧ Agree n (E y) a ∧ Holds w0 (Hs y) w
theorem PO.loop {α : Type} (I : α → Prop) (E : α → Env) (Hs : α → HProp) (μ : α → Nat) (x0 : α) {c : Code} (hI : I x0) (hE : EnvSub env (E x0)) (hH : Ent H (Hs x0))
    (round : ∀ x, I x → PO w0 n (E x) (Hs x) (c.wp P (Exit.then (Again w0 n I E Hs μ x) Q))) : PO w0 n env H ((Code.loop c).wp P Q) := by
  intro a w ha hw b k cs
  have key : ∀ m x, μ x = m → I x → ∀ a w, Agree n (E x) a → Holds w0 (Hs x) w →
      ∃ e a' w', Q e a' w' ∧ Arrives P (lone (b.at a (.code c :: .inLoop c :: k)) cs w) b k cs e a' w' := by
    intro m
    induction m using Nat.strongRecOn with
    | _ m ih =>
      intro x hm hx a w ha hw
      obtain ⟨e, a1, w1, hq, harr⟩ := round x hx a w ha hw b (.inLoop c :: k) cs
      cases e with
      | normal =>
        obtain ⟨y, hy, hlt, hay, hwy⟩ := hq
        obtain ⟨e2, a2, w2, hq2, harr2⟩ := ih (μ y) (hm ▸ hlt) y rfl hy a1 w1 hay hwy
        exact ⟨e2, a2, w2, hq2, .of_steps (Steps.trans harr (.one step_inLoop)) harr2⟩
      | exit id => exact ⟨_, a1, w1, hq, .pass (x := .inLoop c) rfl (fun _ _ => .inl (by simp)) harr⟩
      | goto l => exact ⟨_, a1, w1, hq, .pass (x := .inLoop c) rfl (fun _ _ => .inl (by simp)) harr⟩
      | ret => exact ⟨_, a1, w1, hq, .pass (x := .inLoop c) rfl (fun _ _ => .inl (by simp)) harr⟩
      | panic ch => exact ⟨_, a1, w1, hq, .pass (x := .inLoop c) rfl (fun _ _ => .inl (by simp)) harr⟩
      | outgrown => exact ⟨_, a1, w1, hq, .pass (x := .inLoop c) rfl (fun _ _ => .inl (by simp)) harr⟩
  obtain ⟨e, a', w', hq, harr⟩ := key _ x0 rfl hI a w (ha.sub hE) (hw.ent hH)
  exact ⟨e, a', w', hq, .of_steps (.one step_loop) harr⟩
end Go.Sl
