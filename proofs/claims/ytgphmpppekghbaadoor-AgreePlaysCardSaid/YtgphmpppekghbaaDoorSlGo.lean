/- The rules at operations written out, and scripts that take many steps at once. -/
import Derived.Test.YtgphmpppekghbaaDoorSlEv

namespace Go.Sl
open Go.RowKit

variable {P : Program} {w0 : World} {n : Nat} {env : Env} {H H' R : HProp} {ops : Array Oper} {rest : List Oper} {Q : Exit → Act → World → Prop}
  {d : Tmp} {op : Op} {ty : TypeId} {pos : String} {af : Array Edge} {v : Value}

theorem PO.o (hd : Nat.blt d n = true) (hv : OpV P w0 n env H ⟨some d, op, ty, pos, af, none⟩ v) (k : PO w0 n ((d, v) :: env) H (wpList P ops Q rest)) :
    PO w0 n env H (wpList P ops Q (⟨some d, op, ty, pos, af, none⟩ :: rest)) := PO.op rfl hd hv k
theorem PQ.o {K : Act → Prop} (hd : Nat.blt d n = true) (hv : OpV P w0 n env H ⟨some d, op, ty, pos, af, none⟩ v) (k : PQ n ((d, v) :: env) (wpQuiet P ops (Holds w0 H) K rest)) :
    PQ n env (wpQuiet P ops (Holds w0 H) K (⟨some d, op, ty, pos, af, none⟩ :: rest)) := PQ.op rfl hd hv k
theorem PO.gyes {dst : Option Tmp} {j dj : Nat} {want : Bool} {oj : Oper} (hj : ops[j]? = some oj) (hdj : oj.dst = some dj) (hlk : look env dj = some (.bool want))
    (k : PO w0 n env H (wpList P ops Q (⟨dst, op, ty, pos, af, none⟩ :: rest))) : PO w0 n env H (wpList P ops Q (⟨dst, op, ty, pos, af, some (j, want)⟩ :: rest)) := PO.guard_yes rfl hj hdj hlk k
theorem PO.gno {j dj : Nat} {want b : Bool} {oj : Oper} (hj : ops[j]? = some oj) (hdj : oj.dst = some dj) (hlk : look env dj = some (.bool b)) (hb : b = !want) (hd : Nat.blt d n = true)
    (k : PO w0 n ((d, undef) :: env) H (wpList P ops Q rest)) : PO w0 n env H (wpList P ops Q (⟨some d, op, ty, pos, af, some (j, want)⟩ :: rest)) := PO.guard_no rfl hj hdj hlk hb hd k
theorem PO.gno0 {j dj : Nat} {want b : Bool} {oj : Oper} (hj : ops[j]? = some oj) (hdj : oj.dst = some dj) (hlk : look env dj = some (.bool b)) (hb : b = !want)
    (k : PO w0 n env H (wpList P ops Q rest)) : PO w0 n env H (wpList P ops Q (⟨none, op, ty, pos, af, some (j, want)⟩ :: rest)) := PO.guard_no rfl hj hdj hlk hb rfl k
theorem PO.gskip {j dj : Nat} {want : Bool} {oj : Oper} (hj : ops[j]? = some oj) (hdj : oj.dst = some dj) (hlk : look env dj = some undef) (hd : Nat.blt d n = true)
    (k : PO w0 n ((d, undef) :: env) H (wpList P ops Q rest)) : PO w0 n env H (wpList P ops Q (⟨some d, op, ty, pos, af, some (j, want)⟩ :: rest)) := PO.guard_undef rfl hj hdj hlk hd k
theorem PQ.gskip {K : Act → Prop} {C : World → Prop} {j dj : Nat} {want : Bool} {oj : Oper} (hj : ops[j]? = some oj) (hdj : oj.dst = some dj) (hlk : look env dj = some undef) (hd : Nat.blt d n = true)
    (k : PQ n ((d, undef) :: env) (wpQuiet P ops C K rest)) : PQ n env (wpQuiet P ops C K (⟨some d, op, ty, pos, af, some (j, want)⟩ :: rest)) := PQ.guard_undef rfl hj hdj hlk hd k
theorem PO.gsplit {j dj : Nat} {want b : Bool} {oj : Oper} (hj : ops[j]? = some oj) (hdj : oj.dst = some dj) (hlk : look env dj = some (.bool b)) (hd : Nat.blt d n = true)
    (yes : b = want → PO w0 n ((dj, .bool want) :: env) H (wpList P ops Q (⟨some d, op, ty, pos, af, none⟩ :: rest))) (no : b = !want → PO w0 n ((d, undef) :: (dj, .bool (!want)) :: env) H (wpList P ops Q rest)) :
    PO w0 n env H (wpList P ops Q (⟨some d, op, ty, pos, af, some (j, want)⟩ :: rest)) := PO.guard rfl hj hdj hlk hd yes no
theorem PQ.gyes {K : Act → Prop} {C : World → Prop} {dst : Option Tmp} {j dj : Nat} {want : Bool} {oj : Oper} (hj : ops[j]? = some oj) (hdj : oj.dst = some dj) (hlk : look env dj = some (.bool want))
    (k : PQ n env (wpQuiet P ops C K (⟨dst, op, ty, pos, af, none⟩ :: rest))) : PQ n env (wpQuiet P ops C K (⟨dst, op, ty, pos, af, some (j, want)⟩ :: rest)) := PQ.guard_yes rfl hj hdj hlk k
theorem PQ.gno {K : Act → Prop} {C : World → Prop} {j dj : Nat} {want b : Bool} {oj : Oper} (hj : ops[j]? = some oj) (hdj : oj.dst = some dj) (hlk : look env dj = some (.bool b)) (hb : b = !want) (hd : Nat.blt d n = true)
    (k : PQ n ((d, undef) :: env) (wpQuiet P ops C K rest)) : PQ n env (wpQuiet P ops C K (⟨some d, op, ty, pos, af, some (j, want)⟩ :: rest)) := PQ.guard_no rfl hj hdj hlk hb hd k
theorem PQ.gsplit {K : Act → Prop} {C : World → Prop} {j dj : Nat} {want b : Bool} {oj : Oper} (hj : ops[j]? = some oj) (hdj : oj.dst = some dj) (hlk : look env dj = some (.bool b)) (hd : Nat.blt d n = true)
    (yes : b = want → PQ n ((dj, .bool want) :: env) (wpQuiet P ops C K (⟨some d, op, ty, pos, af, none⟩ :: rest))) (no : b = !want → PQ n ((d, undef) :: (dj, .bool (!want)) :: env) (wpQuiet P ops C K rest)) :
    PQ n env (wpQuiet P ops C K (⟨some d, op, ty, pos, af, some (j, want)⟩ :: rest)) := PQ.guard rfl hj hdj hlk hd yes no
theorem PO.al [tb : Tabs P] {t : TypeId} {e : TE} {zs : List Value} (ho : op = .alloc t) (hd : Nat.blt d n = true) (ht : tb.T t = some e) (hz : e.zero.cells = zs.toArray)
    (k : ∀ b, PO w0 n ((d, .pointer (some ⟨b, 0, none⟩)) :: env) (cels b zs t * H) (wpList P ops Q rest)) : PO w0 n env H (wpList P ops Q (⟨some d, op, ty, pos, af, none⟩ :: rest)) := PO.alloc (o := ⟨some d, op, ty, pos, af, none⟩) ho rfl hd ht hz k
theorem PO.bx [tb : Tabs P] {t : TypeId} {x : Operand} {v : Value} {zs : List Value} (ho : op = .box t x) (hd : Nat.blt d n = true) (hx : env.get x = some v) (hz : v.cells = zs.toArray)
    (k : ∀ b, PO w0 n ((d, .pointer (some ⟨b, 0, none⟩)) :: env) (cels b zs t * H) (wpList P ops Q rest)) : PO w0 n env H (wpList P ops Q (⟨some d, op, ty, pos, af, none⟩ :: rest)) := PO.box (o := ⟨some d, op, ty, pos, af, none⟩) ho rfl hd hx hz k
/-- A test that is not known: the slot is written anew in each way. -/
theorem PO.csplit {c : Tmp} {x y : Code} {t : Bool} (hc : look env c = some (.bool t)) (ht : t = true → PO w0 n ((c, .bool true) :: env) H (x.wp P Q)) (hf : t = false → PO w0 n ((c, .bool false) :: env) H (y.wp P Q)) :
    PO w0 n env H ((Code.cond (.tmp c) x y).wp P Q) := by
  have same : ∀ b a, t = b → Agree n env a → Agree n ((c, .bool b) :: env) a := by
    intro b a hb ha
    subst hb
    refine ⟨ha.size, ha.defers, fun s u hu => ?_⟩
    simp only [look] at hu
    by_cases e : c = s
    · subst e; simp at hu; subst hu; exact ha.slot _ _ hc
    · rw [beq_ne e] at hu; exact ha.slot _ _ (by simpa using hu)
  exact PO.cond hc (fun e a w ha hw => ht e a w (same _ _ e ha) hw) (fun e a w ha hw => hf e a w (same _ _ e ha) hw)

theorem EnvSub.nil : EnvSub env [] := trivial
theorem EnvSub.cons {t : Nat} {r : Env} (h : Sl.look env t = some v) (k : EnvSub env r) : EnvSub env ((t, v) :: r) := ⟨h, k⟩
theorem lookI {t : Nat} {kd : IntKind} {p q : Int} (h : look env t = some (.int kd p)) (e : p = q) : look env t = some (.int kd q) := e ▸ h
theorem lookV {t : Nat} {u v : Value} (h : look env t = some u) (e : u = v) : look env t = some v := e ▸ h
theorem subs {e : Env} (s : EnvSub env e := by
      repeat (first
        | exact EnvSub.nil
        | refine EnvSub.cons rfl ?_
        | refine EnvSub.cons (lookI rfl (by omega)) ?_
        | refine EnvSub.cons (lookV rfl (by assumption)) ?_)) : EnvSub env e := s
theorem PO.again {α : Type} {I : α → Prop} {E : α → Env} {Hs : α → HProp} {μ : α → Nat} {x : α} (y : α) (hI : I y) (hm : μ y < μ x) (hH : Ent H (Hs y)) (hE : EnvSub env (E y) := by
      repeat (first
        | exact EnvSub.nil
        | refine EnvSub.cons rfl ?_
        | refine EnvSub.cons (lookI rfl (by omega)) ?_
        | refine EnvSub.cons (lookV rfl (by assumption)) ?_)) : PO w0 n env H (Again w0 n I E Hs μ x) :=
  fun _ _ ha hw => ⟨y, hI, hm, ha.sub hE, hw.ent hH⟩
/-- A loop: the ghost's type, what holds of it, the slots, the memory, the measure, the ghost at the start. -/
theorem PO.while {α : Type} (I : α → Prop) (E : α → Env) (Hs : α → HProp) (μ : α → Nat) (x0 : α) {c : Code} (hI : I x0) (hH : Ent H (Hs x0))
    (round : ∀ x, I x → PO w0 n (E x) (Hs x) (c.wp P (Exit.then (Again w0 n I E Hs μ x) Q))) (hE : EnvSub env (E x0) := by
      repeat (first
        | exact EnvSub.nil
        | refine EnvSub.cons rfl ?_
        | refine EnvSub.cons (lookI rfl (by omega)) ?_
        | refine EnvSub.cons (lookV rfl (by assumption)) ?_)) : PO w0 n env H ((Code.loop c).wp P Q) :=
  PO.loop I E Hs μ x0 hI hE hH round

/-! ### Entailments by frames -/
theorem Ent.fr {A : HProp} [f : Frame H A R] : Ent H A := f.ent.trans (Ent.left _ _)
theorem Ent.frs {A B : HProp} [f : Frame H A R] (h : Ent R B) : Ent H (A * B) := f.ent.trans (Ent.star (Ent.refl _) h)
theorem Ent.frp {p : Prop} {A : HProp} (h : p) (k : Ent H A) : Ent H (pur p * A) := k.trans (Ent.star_pur _ h)

/-! ### Many steps -/
structure Box (p : Prop) : Prop where
  out : p
/-- Runs straight-line code till something must be said. -/
theorem go {φ : Act → World → Prop} {ψ : Prop} (h : ψ)
    (s : Box ψ → PO w0 n env H φ := by
      intro h
      repeat (first
        | refine PO.o rfl (OpV.ev rfl) ?_
        | refine PO.seq ?_
        | refine PO.region ?_
        | refine PO.nil ?_
        | refine PO.then_normal ?_
        | refine PO.gyes rfl rfl rfl ?_
        | refine PO.gno rfl rfl rfl rfl rfl ?_
        | refine PO.gno0 rfl rfl rfl rfl ?_
        | refine PO.gskip rfl rfl rfl rfl ?_
        | refine PO.o rfl (OpV.load rfl rfl rfl rfl rfl) ?_
        | refine PO.o rfl (OpV.load_agg rfl rfl rfl rfl rfl) ?_
        | refine PO.o rfl (OpV.add64 rfl rfl rfl (by omega)) ?_
        | refine PO.o rfl (OpV.sub64 rfl rfl rfl (by omega)) ?_
        | refine PO.o rfl (OpV.pick_bool rfl rfl rfl rfl) ?_
        | refine PO.o rfl (OpV.len_map rfl rfl rfl rfl) ?_
        | refine PO.o rfl (OpV.makeFunc rfl rfl rfl) ?_
        | refine PO.o rfl (OpV.indexN1_slice rfl rfl rfl rfl rfl rfl rfl (by omega)) ?_
        | refine PO.o rfl (OpV.indexN1_array rfl rfl rfl rfl rfl rfl rfl (by omega)) ?_
        | refine PO.o rfl (OpV.indexN_slice rfl rfl rfl rfl rfl rfl (by omega)) ?_
        | refine PO.o rfl (OpV.indexN_array rfl rfl rfl rfl rfl rfl (by omega)) ?_
        | refine PO.o rfl (OpV.indexAddr_slice rfl rfl rfl rfl rfl rfl (by omega)) ?_
        | refine PO.o rfl (OpV.indexAddr_array rfl rfl rfl rfl rfl rfl (by omega)) ?_
        | refine PO.o rfl (OpV.mul64 rfl rfl rfl (by omega)) ?_
        | refine PO.o rfl (OpV.rem rfl rfl rfl (by omega)) ?_
        | refine PO.o rfl (OpV.quo64 rfl rfl rfl (by omega)) ?_
        | refine PO.store rfl rfl rfl rfl rfl rfl rfl rfl rfl ?_
        | refine PO.al rfl rfl rfl rfl ?_
        | refine PO.bx rfl rfl rfl rfl ?_
        | refine PO.block ?_
        | refine PO.skip ?_
        | refine PO.ret ?_
        | refine PO.exit ?_
        | refine PO.cond_true rfl ?_
        | refine PO.cond_false rfl ?_
        | refine PO.then_exit ?_
        | refine PO.then_ret ?_
        | refine PO.inBlock_normal ?_
        | refine PO.inBlock_ret ?_
        | refine PO.inBlock_exit_here ?_
        | refine PO.inBlock_exit rfl ?_)
      exact h.out) : PO w0 n env H φ := s ⟨h⟩
end Go.Sl
