/- What single operations yield. -/
import Derived.Test.YtgphmpppekghbaaDoorSlPo
namespace Go.Sl
open Go.RowKit

/-! ## The table of types -/
structure TE where
  und : TypeDesc
  size : Nat
  bytes : Nat
  zero : Value
structure TE.Ok (e : TE) (P : Program) (t : TypeId) : Prop where
  und : P.underlying t = some e.und
  info : ∃ i, P.info? t = some i ∧ i.size = e.size ∧ i.bytes = e.bytes ∧ i.zero = some e.zero
class Tabs (P : Program) where
  T : TypeId → Option TE
  ok : ∀ t e, T t = some e → e.Ok P t

inductive Tree where
  | leaf
  | node (l : Tree) (k : Nat) (e : TE) (r : Tree)
def Tree.find : Tree → Nat → Option TE
  | .leaf, _ => none
  | .node l k e r, t => bif Nat.beq t k then some e else bif Nat.blt t k then l.find t else r.find t
def Tree.All (P : Program) : Tree → Prop
  | .leaf => True
  | .node l k e r => l.All P ∧ e.Ok P k ∧ r.All P
theorem Tree.All.find {P : Program} : ∀ {s : Tree}, s.All P → ∀ t e, s.find t = some e → e.Ok P t
  | .leaf, _, _, _, h => by cases h
  | .node l k e r, ⟨hl, he, hr⟩, t, x, h => by
    unfold Tree.find at h
    cases h1 : Nat.beq t k with
    | true =>
      rw [h1] at h
      obtain rfl := Nat.eq_of_beq_eq_true h1
      have h' : e = x := by simpa using h
      exact h' ▸ he
    | false =>
      rw [h1] at h
      cases h2 : Nat.blt t k with
      | true => rw [h2] at h; exact Tree.All.find hl t x (by simpa using h)
      | false => rw [h2] at h; exact Tree.All.find hr t x (by simpa using h)

def TypeDesc.isAgg : TypeDesc → Bool | .struct _ | .array _ _ => true | _ => false

variable {P : Program} [tb : Tabs P] {w0 : World} {n : Nat} {env : Env} {H R : HProp} {o : Oper}

theorem run_und {t : TypeId} {e : TE} (h : tb.T t = some e) (w : World) : (underlying t).run P w = .ok e.und w := by
  simp [underlying, (tb.ok t e h).und]
theorem run_isAgg {t : TypeId} {e : TE} (h : tb.T t = some e) (w : World) : (isAgg t).run P w = .ok (TypeDesc.isAgg e.und) w := by
  unfold isAgg
  simp only [Sem.run_bind, run_und h, Result.andThen_ok]
  cases e.und <;> rfl
theorem run_info {t : TypeId} {e : TE} (h : tb.T t = some e) (w : World) : ∃ i, (typeInfo t).run P w = .ok i w ∧ i.size = e.size ∧ i.bytes = e.bytes ∧ i.zero = some e.zero := by
  obtain ⟨i, h1, h2⟩ := (tb.ok t e h).info
  exact ⟨i, by simp [typeInfo, h1], h2⟩
theorem run_size {t : TypeId} {e : TE} (h : tb.T t = some e) (w : World) : (sizeOf t).run P w = .ok e.size w := by
  obtain ⟨i, h1, h2, _⟩ := run_info h w
  simp [sizeOf, h1, h2]
theorem run_zero {t : TypeId} {e : TE} (h : tb.T t = some e) (w : World) : (zeroValue t).run P w = .ok e.zero w := by
  obtain ⟨i, h1, _, _, h2⟩ := run_info h w
  simp [zeroValue, h1, h2]

/-! ## Operations that leave the world alone -/
/-- The operation yields 'v' and leaves the world alone. -/
def OpV (P : Program) (w0 : World) (n : Nat) (env : Env) (H : HProp) (o : Oper) (v : Value) : Prop :=
  ∀ a w, Agree n env a → Holds w0 H w → (execOp a.eval o).run P w = .ok (.value v) w

omit tb in
theorem PO.op {ops : Array Oper} {Q : Exit → Act → World → Prop} {rest : List Oper} {v : Value} (hg : o.guard = none) (hd : dstOk n o.dst = true)
    (hv : OpV P w0 n env H o v) (k : PO w0 n (env.put o.dst v) H (wpList P ops Q rest)) : PO w0 n env H (wpList P ops Q (o :: rest)) := by
  intro a w ha hw
  refine wpList_plain hg fun K hK => ?_
  unfold Oper.wp
  rw [hv a w ha hw]
  exact hK _ _ (k _ _ (ha.put hd v) hw)
omit tb in
theorem PO.nil {ops : Array Oper} {Q : Exit → Act → World → Prop} (h : PO w0 n env H (Q .normal)) : PO w0 n env H (wpList P ops Q []) := h
omit tb in
theorem PO.region {id : Nat} {l : List Oper} {Q : Exit → Act → World → Prop} (h : PO w0 n env H (wpList P l.toArray Q l)) : PO w0 n env H ((Code.region id l.toArray false).wp P Q) :=
  fun a w ha hw => wp_region_lit (h a w ha hw)

/-- Over quiet regions. -/
def PQ (n : Nat) (env : Env) (φ : Act → Prop) : Prop := ∀ a, Agree n env a → φ a
omit tb in
theorem PQ.op {ops : Array Oper} {K : Act → Prop} {rest : List Oper} {v : Value} (hg : o.guard = none) (hd : dstOk n o.dst = true)
    (hv : OpV P w0 n env H o v) (k : PQ n (env.put o.dst v) (wpQuiet P ops (Holds w0 H) K rest)) : PQ n env (wpQuiet P ops (Holds w0 H) K (o :: rest)) := by
  intro a ha
  unfold wpQuiet
  rw [if_pos (by simp [Region.wanted, hg])]
  refine ⟨v, fun w hw => ?_, k _ (ha.put hd v)⟩
  unfold Oper.quietAt
  rw [hv a w ha hw]
  exact ⟨rfl, rfl⟩
omit tb in
theorem PQ.nil {ops : Array Oper} {Q : Exit → Act → World → Prop} (h : PO w0 n env H (Q .normal)) :
    PQ n env (wpQuiet P ops (Holds w0 H) (fun a' => ∀ w', Holds w0 H w' → Q .normal a' w') []) := fun a ha w hw => h a w ha hw
omit tb in
theorem PO.regionQ {id : Nat} {l : List Oper} {Q : Exit → Act → World → Prop} (hm : P.follows .mixedOrders = true) (hB : Region.lexB .any l.toArray = true)
    (h : PQ n env (wpQuiet P l.toArray (Holds w0 H) (fun a' => ∀ w', Holds w0 H w' → Q .normal a' w') l)) : PO w0 n env H ((Code.region id l.toArray true).wp P Q) :=
  fun a w ha hw => wp_region_quiet (C := Holds w0 H) hm hB (hw.drawn _) (by simpa using h a ha)

omit tb in
theorem OpV.move {x : Operand} {v : Value} (ho : o.op = .move x) (hx : env.get x = some v) : OpV P w0 n env H o v := fun a w ha _ => by
  simp [execOp, ho, ha.eval hx]
omit tb in
theorem OpV.assign {x : Operand} {v : Value} (ho : o.op = .assign x) (hx : env.get x = some v) : OpV P w0 n env H o v := fun a w ha _ => by
  simp [execOp, ho, ha.eval hx]
omit tb in
theorem OpV.pick_true {c x y : Operand} {v : Value} (ho : o.op = .pick c x y) (hc : env.get c = some (.bool true)) (hx : env.get x = some v) : OpV P w0 n env H o v := fun a w ha _ => by
  simp [execOp, ho, ha.eval hx, ha.eval hc, asBool]
omit tb in
theorem OpV.pick_false {c x y : Operand} {v : Value} (ho : o.op = .pick c x y) (hc : env.get c = some (.bool false)) (hx : env.get y = some v) : OpV P w0 n env H o v := fun a w ha _ => by
  simp [execOp, ho, ha.eval hx, ha.eval hc, asBool]
omit tb in
theorem OpV.pick_bool {c x y : Operand} {t u v : Bool} (ho : o.op = .pick c x y) (hc : env.get c = some (.bool t)) (hx : env.get x = some (.bool u)) (hy : env.get y = some (.bool v)) :
    OpV P w0 n env H o (.bool (bif t then u else v)) := fun a w ha _ => by
  cases t <;> simp [execOp, ho, ha.eval hx, ha.eval hy, ha.eval hc, asBool]
omit tb in
theorem OpV.extract {t : Operand} {i : Nat} {vs : Array Value} {v : Value} (ho : o.op = .extract t i) (ht : env.get t = some (.tuple vs)) (hv : vs[i]? = some v) : OpV P w0 n env H o v := fun a w ha _ => by
  simp [execOp, ho, ha.eval ht, Instr.extract, hv]
theorem OpV.makeInterface {x : Operand} {t : TypeId} {e : TE} {v : Value} (ho : o.op = .makeInterface t x) (hx : env.get x = some v) (ht : tb.T t = some e) (hi : (match e.und with | .interface _ => false | _ => true) = true) :
    OpV P w0 n env H o (.iface t v) := fun a w ha _ => by
  simp only [execOp, ho, ha.eval hx, Instr.makeInterface, Sem.run_bind, run_und ht, Result.andThen_ok]
  cases h : e.und <;> simp_all
def Env.all (env : Env) : List Operand → Option (List Value)
  | [] => some []
  | x :: r => match env.get x, env.all r with
    | some v, some vs => some (v :: vs)
    | _, _ => none
omit tb in
theorem Agree.all {a : Act} (ha : Agree n env a) : ∀ (l : List Operand) (vs : List Value), env.all l = some vs → l.map a.eval = vs
  | [], vs, h => by simp [Env.all] at h; simp [← h]
  | x :: l, vs, h => by
    unfold Env.all at h
    split at h
    · rename_i v us hv hus
      obtain rfl := Option.some.inj h
      simp [ha.eval hv, Agree.all ha l us hus]
    · cases h
omit tb in
theorem OpV.makeFunc {fn : Fn} {fs cs : List Operand} {vs us : List Value} (ho : o.op = .makeFunc fn fs.toArray cs.toArray) (h1 : env.all fs = some vs) (h2 : env.all cs = some us) : OpV P w0 n env H o (.func fn vs.toArray us.toArray) := fun a w ha _ => by
  simp [execOp, ho, Instr.makeFunc, ha.all _ _ h1, ha.all _ _ h2]
omit tb in
theorem OpV.nilCheck_ptr {x : Operand} {p : Addr} (ho : o.op = .nilCheck x) (hx : env.get x = some (.pointer (some p))) : OpV P w0 n env H o (.pointer (some p)) := fun a w ha _ => by
  simp [execOp, ho, ha.eval hx]
omit tb in
theorem OpV.nilCheck_func {x : Operand} {f : FuncId} {fs cs : Array Value} (ho : o.op = .nilCheck x) (hx : env.get x = some (.func (.func f) fs cs)) : OpV P w0 n env H o (.func (.func f) fs cs) := fun a w ha _ => by
  simp [execOp, ho, ha.eval hx]
theorem OpV.fieldAddr {x : Operand} {t i b k : Nat} {fs : Array Field} {f : Field} {e e' : TE} (ho : o.op = .fieldAddr t x i) (hx : env.get x = some (.pointer (some ⟨b, k, none⟩)))
    (ht : tb.T t = some e) (hu : e.und = .struct fs) (hf : fs[i]? = some f) (ht' : tb.T f.type = some e') (hz : Nat.beq e'.size 0 = false) :
    OpV P w0 n env H o (.pointer (some ⟨b, k + f.offset, none⟩)) := fun a w ha _ => by
  have hz' : e'.size ≠ 0 := Nat.ne_of_beq_eq_false hz
  simp only [execOp, ho, ha.eval hx, Instr.fieldAt, Sem.run_bind, run_und ht, hu, hf, Instr.sureAddr, fieldPlace, Result.andThen_ok, Sem.run_pure, run_size ht', Sem.run_ite, if_neg hz']
  by_cases h0 : f.offset = 0 <;> simp [Addr.add, h0]
theorem OpV.field {x : Operand} {t i : Nat} {fs : Array Field} {f : Field} {e e' : TE} {cs : Array Value} {v : Value} (ho : o.op = .field t x i) (hx : env.get x = some (.agg cs))
    (ht : tb.T t = some e) (hu : e.und = .struct fs) (hf : fs[i]? = some f) (ht' : tb.T f.type = some e') (ha' : TypeDesc.isAgg e'.und = false) (hv : cs[f.offset]? = some v) :
    OpV P w0 n env H o v := fun a w ha _ => by
  simp [execOp, ho, ha.eval hx, Instr.field, run_und ht, hu, hf, part, run_isAgg ht', ha', asAgg, hv]
theorem OpV.field_agg {x : Operand} {t i : Nat} {fs : Array Field} {f : Field} {e e' : TE} {cs : Array Value} (ho : o.op = .field t x i) (hx : env.get x = some (.agg cs))
    (ht : tb.T t = some e) (hu : e.und = .struct fs) (hf : fs[i]? = some f) (ht' : tb.T f.type = some e') (ha' : TypeDesc.isAgg e'.und = true) :
    OpV P w0 n env H o (.agg (cs.extract f.offset (f.offset + e'.size))) := fun a w ha _ => by
  simp [execOp, ho, ha.eval hx, Instr.field, run_und ht, hu, hf, part, run_isAgg ht', ha', asAgg, run_size ht']
/-- Addresses of elements. -/
theorem OpV.indexAddr_slice {x i : Operand} {t b k len cap : Nat} {j : Int} {kd : IntKind} {e e' : TE} {el : TypeId} (ho : o.op = .indexAddr t x i) (hx : env.get x = some (.slice (some ⟨b, k, none⟩) len cap)) (hi : env.get i = some (.int kd j))
    (ht : tb.T t = some e) (hu : e.und = .slice el) (ht' : tb.T el = some e') (h0 : 0 ≤ j ∧ j < len) : OpV P w0 n env H o (.pointer (some ⟨b, k + j.toNat * e'.size, none⟩)) := fun a w ha _ => by
  simp [execOp, ho, ha.eval hx, ha.eval hi, Instr.indexAt, asIntOf, run_und ht, hu, h0, run_size ht', Addr.add]
  done
theorem OpV.indexAddr_array {x i : Operand} {t b k len : Nat} {j : Int} {kd : IntKind} {e e' : TE} {el : TypeId} (ho : o.op = .indexAddr t x i) (hx : env.get x = some (.pointer (some ⟨b, k, none⟩))) (hi : env.get i = some (.int kd j))
    (ht : tb.T t = some e) (hu : e.und = .array len el) (ht' : tb.T el = some e') (h0 : 0 ≤ j ∧ j < len) : OpV P w0 n env H o (.pointer (some ⟨b, k + j.toNat * e'.size, none⟩)) := fun a w ha _ => by
  simp [execOp, ho, ha.eval hx, ha.eval hi, Instr.indexAt, Instr.sureAddr, asIntOf, run_und ht, hu, h0, run_size ht', Addr.add]
  done
/-- The same, the index a natural number; elements of one cell. -/
theorem OpV.indexN1_slice {x i : Operand} {t b k len cap j : Nat} {kd : IntKind} {e e' : TE} {el : TypeId} (ho : o.op = .indexAddr t x i) (hx : env.get x = some (.slice (some ⟨b, k, none⟩) len cap)) (hi : env.get i = some (.int kd (j : Int)))
    (ht : tb.T t = some e) (hu : e.und = .slice el) (ht' : tb.T el = some e') (hs : Nat.beq e'.size 1 = true) (h0 : j < len) : OpV P w0 n env H o (.pointer (some ⟨b, k + j, none⟩)) := by
  have := OpV.indexAddr_slice (H := H) (P := P) (w0 := w0) (n := n) ho hx hi ht hu ht' ⟨by omega, by omega⟩
  rw [Nat.eq_of_beq_eq_true hs, Nat.mul_one, Int.toNat_natCast] at this
  exact this
theorem OpV.indexN_slice {x i : Operand} {t b k len cap j : Nat} {kd : IntKind} {e e' : TE} {el : TypeId} (ho : o.op = .indexAddr t x i) (hx : env.get x = some (.slice (some ⟨b, k, none⟩) len cap)) (hi : env.get i = some (.int kd (j : Int)))
    (ht : tb.T t = some e) (hu : e.und = .slice el) (ht' : tb.T el = some e') (h0 : j < len) : OpV P w0 n env H o (.pointer (some ⟨b, k + j * e'.size, none⟩)) := by
  have := OpV.indexAddr_slice (H := H) (P := P) (w0 := w0) (n := n) ho hx hi ht hu ht' ⟨by omega, by omega⟩
  rw [Int.toNat_natCast] at this
  exact this
theorem OpV.indexN1_array {x i : Operand} {t b k len j : Nat} {kd : IntKind} {e e' : TE} {el : TypeId} (ho : o.op = .indexAddr t x i) (hx : env.get x = some (.pointer (some ⟨b, k, none⟩))) (hi : env.get i = some (.int kd (j : Int)))
    (ht : tb.T t = some e) (hu : e.und = .array len el) (ht' : tb.T el = some e') (hs : Nat.beq e'.size 1 = true) (h0 : j < len) : OpV P w0 n env H o (.pointer (some ⟨b, k + j, none⟩)) := by
  have := OpV.indexAddr_array (H := H) (P := P) (w0 := w0) (n := n) ho hx hi ht hu ht' ⟨by omega, by omega⟩
  rw [Nat.eq_of_beq_eq_true hs, Nat.mul_one, Int.toNat_natCast] at this
  exact this
theorem OpV.indexN_array {x i : Operand} {t b k len j : Nat} {kd : IntKind} {e e' : TE} {el : TypeId} (ho : o.op = .indexAddr t x i) (hx : env.get x = some (.pointer (some ⟨b, k, none⟩))) (hi : env.get i = some (.int kd (j : Int)))
    (ht : tb.T t = some e) (hu : e.und = .array len el) (ht' : tb.T el = some e') (h0 : j < len) : OpV P w0 n env H o (.pointer (some ⟨b, k + j * e'.size, none⟩)) := by
  have := OpV.indexAddr_array (H := H) (P := P) (w0 := w0) (n := n) ho hx hi ht hu ht' ⟨by omega, by omega⟩
  rw [Int.toNat_natCast] at this
  exact this
omit tb in
theorem OpV.not {x : Operand} {t : TypeId} {b : Bool} (ho : o.op = .unOp .not t x) (hx : env.get x = some (.bool b)) : OpV P w0 n env H o (.bool !b) := fun a w ha _ => by
  simp [execOp, ho, ha.eval hx, Op.unary]
theorem OpV.len_slice {x : Operand} {t : TypeId} {e : TE} {el : TypeId} {p : Option Addr} {l c : Nat} (ho : o.op = .call { callee := .builtin .len, args := #[x], argTypes := #[t] }) (hx : env.get x = some (.slice p l c))
    (ht : tb.T t = some e) (hu : e.und = .slice el) : OpV P w0 n env H o (.int .i64 l) := fun a w ha _ => by
  simp [execOp, ho, ha.eval hx, resolve, invoke, builtin, Builtin.len_, run_und ht, hu, goInt]
theorem OpV.len_string {x : Operand} {t : TypeId} {e : TE} {s : ByteArray} (ho : o.op = .call { callee := .builtin .len, args := #[x], argTypes := #[t] }) (hx : env.get x = some (.string s))
    (ht : tb.T t = some e) (hu : e.und = .string) : OpV P w0 n env H o (.int .i64 s.size) := fun a w ha _ => by
  simp [execOp, ho, ha.eval hx, resolve, invoke, builtin, Builtin.len_, run_und ht, hu, goInt]
theorem OpV.len_map {x : Operand} {t : TypeId} {e : TE} {k el : TypeId} {b : Nat} {es : Array MapEntry} {c : Nat} (ho : o.op = .call { callee := .builtin .len, args := #[x], argTypes := #[t] }) (hx : env.get x = some (.map (some b)))
    (ht : tb.T t = some e) (hu : e.und = .map k el) [p : PullBlk b H (.map es c) R] : OpV P w0 n env H o (.int .i64 es.size) := fun a w ha hw => by
  have hb := (hw.ent p.ent).blk.2
  simp [execOp, ho, ha.eval hx, resolve, invoke, builtin, Builtin.len_, run_und ht, hu, goInt, getObj, Sem.run, hb]

/-! ### Arithmetic and comparisons on integers -/
section
omit tb
variable {x y : Operand} {t t' : TypeId} {p q : Int} {kd : IntKind}
theorem eqGuard_int (op : BinOp) (t : TypeId) (x y : Operand) (p q : Int) (kd kd' : IntKind) (w : World) : (eqGuard op t x y (.int kd p) (.int kd' q)).run P w = .ok () w := by
  unfold eqGuard
  cases op <;> rfl
theorem OpV.arith {op : BinOp} (ho : o.op = .binOp op t x y t') (hx : env.get x = some (.int kd p)) (hy : env.get y = some (.int kd q)) {v : Value}
    (h : ∀ w, (binOp op t (.int kd p) (.int kd q)).run P w = .ok v w) : OpV P w0 n env H o v := fun a w ha _ => by
  simp [execOp, ho, ha.eval hx, ha.eval hy, eqGuard_int, h]
theorem OpV.add (ho : o.op = .binOp .add t x y t') (hx : env.get x = some (.int kd p)) (hy : env.get y = some (.int kd q)) : OpV P w0 n env H o (.int kd (kd.wrap (p + q))) :=
  OpV.arith ho hx hy fun w => by simp [binOp, Op.intArith]
theorem OpV.sub (ho : o.op = .binOp .sub t x y t') (hx : env.get x = some (.int kd p)) (hy : env.get y = some (.int kd q)) : OpV P w0 n env H o (.int kd (kd.wrap (p - q))) :=
  OpV.arith ho hx hy fun w => by simp [binOp, Op.intArith]
theorem OpV.mul (ho : o.op = .binOp .mul t x y t') (hx : env.get x = some (.int kd p)) (hy : env.get y = some (.int kd q)) : OpV P w0 n env H o (.int kd (kd.wrap (p * q))) :=
  OpV.arith ho hx hy fun w => by simp [binOp, Op.intArith]
theorem OpV.add64 (ho : o.op = .binOp .add t x y t') (hx : env.get x = some (.int .i64 p)) (hy : env.get y = some (.int .i64 q)) (h : -9223372036854775808 ≤ p + q ∧ p + q ≤ 9223372036854775807) :
    OpV P w0 n env H o (.int .i64 (p + q)) := by have := OpV.add (H := H) (P := P) (w0 := w0) (n := n) ho hx hy; rwa [IntWalk.i64_in _ h] at this
theorem OpV.sub64 (ho : o.op = .binOp .sub t x y t') (hx : env.get x = some (.int .i64 p)) (hy : env.get y = some (.int .i64 q)) (h : -9223372036854775808 ≤ p - q ∧ p - q ≤ 9223372036854775807) :
    OpV P w0 n env H o (.int .i64 (p - q)) := by have := OpV.sub (H := H) (P := P) (w0 := w0) (n := n) ho hx hy; rwa [IntWalk.i64_in _ h] at this
theorem OpV.mul64 (ho : o.op = .binOp .mul t x y t') (hx : env.get x = some (.int .i64 p)) (hy : env.get y = some (.int .i64 q)) (h : -9223372036854775808 ≤ p * q ∧ p * q ≤ 9223372036854775807) :
    OpV P w0 n env H o (.int .i64 (p * q)) := by have := OpV.mul (H := H) (P := P) (w0 := w0) (n := n) ho hx hy; rwa [IntWalk.i64_in _ h] at this
theorem OpV.rem (ho : o.op = .binOp .rem t x y t') (hx : env.get x = some (.int kd p)) (hy : env.get y = some (.int kd q)) (h : 0 ≤ p ∧ 0 < q) : OpV P w0 n env H o (.int kd (p % q)) :=
  OpV.arith ho hx hy fun w => by
    have : q ≠ 0 := by omega
    simp [binOp, Op.intDiv, this, Int.tmod_eq_emod_of_nonneg h.1]
theorem OpV.quo64 (ho : o.op = .binOp .quo t x y t') (hx : env.get x = some (.int .i64 p)) (hy : env.get y = some (.int .i64 q)) (h : 0 ≤ p ∧ p ≤ 9223372036854775807 ∧ 1 ≤ q) : OpV P w0 n env H o (.int .i64 (p / q)) :=
  OpV.arith ho hx hy fun w => by
    have : q ≠ 0 := by omega
    simp [binOp, Op.intDiv, this, IntWalk.i64_quo p q h]
theorem OpV.eql_int (ho : o.op = .binOp .eql t x y t') (hx : env.get x = some (.int kd p)) (hy : env.get y = some (.int kd q)) : OpV P w0 n env H o (.bool (decide (p = q))) :=
  OpV.arith ho hx hy fun w => by simp [binOp, Op.intCmp]; rfl
theorem OpV.neq_int (ho : o.op = .binOp .neq t x y t') (hx : env.get x = some (.int kd p)) (hy : env.get y = some (.int kd q)) : OpV P w0 n env H o (.bool (decide (p ≠ q))) :=
  OpV.arith ho hx hy fun w => by simp [binOp, Op.intCmp, bne]; rfl
theorem OpV.lss (ho : o.op = .binOp .lss t x y t') (hx : env.get x = some (.int kd p)) (hy : env.get y = some (.int kd q)) : OpV P w0 n env H o (.bool (decide (p < q))) :=
  OpV.arith ho hx hy fun w => by simp [binOp, Op.intCmp]
theorem OpV.leq (ho : o.op = .binOp .leq t x y t') (hx : env.get x = some (.int kd p)) (hy : env.get y = some (.int kd q)) : OpV P w0 n env H o (.bool (decide (p ≤ q))) :=
  OpV.arith ho hx hy fun w => by simp [binOp, Op.intCmp]
theorem OpV.gtr (ho : o.op = .binOp .gtr t x y t') (hx : env.get x = some (.int kd p)) (hy : env.get y = some (.int kd q)) : OpV P w0 n env H o (.bool (decide (q < p))) :=
  OpV.arith ho hx hy fun w => by simp [binOp, Op.intCmp]
theorem OpV.geq (ho : o.op = .binOp .geq t x y t') (hx : env.get x = some (.int kd p)) (hy : env.get y = some (.int kd q)) : OpV P w0 n env H o (.bool (decide (q ≤ p))) :=
  OpV.arith ho hx hy fun w => by simp [binOp, Op.intCmp]
end
end Go.Sl
