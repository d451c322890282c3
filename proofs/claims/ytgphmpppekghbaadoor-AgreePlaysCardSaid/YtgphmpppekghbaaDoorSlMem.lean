/- Operations on memory; calls; returns; guards. -/
import Derived.Test.YtgphmpppekghbaaDoorSlOp
namespace Go.Sl
open Go.RowKit

variable {P : Program} {w0 : World} {n : Nat} {env : Env} {H H' R : HProp} {o : Oper} {ops : Array Oper} {rest : List Oper} {Q : Exit → Act → World → Prop}

theorem loadCellsFrom_run (a : Addr) (hs : a.spot = none) (w : World) : ∀ (k i : Nat) (acc : Array Value) (l : List Value), l.length = k → (∀ j v, l[j]? = some v → w.cell? ⟨a.block, a.off + i + j, none⟩ = some v) →
    (loadCellsFrom a i k acc).run P w = .ok (acc ++ l.toArray) w
  | 0, i, acc, l, hl, _ => by
    have : l = [] := List.length_eq_zero_iff.1 hl
    subst this; simp [loadCellsFrom]
  | k + 1, i, acc, [], hl, _ => by simp at hl
  | k + 1, i, acc, v :: l, hl, hc => by
    have h0 : w.cell? (a.add i) = some v := by
      have := hc 0 v rfl
      unfold Addr.add
      by_cases hi : i = 0
      · subst hi; simp; cases a; simp_all
      · rw [if_neg hi]; simpa using this
    unfold loadCellsFrom
    simp only [Sem.run_bind, run_load, h0, Result.andThen_ok]
    rw [loadCellsFrom_run a hs w k (i + 1) (acc.push v) l (by simpa using hl) (fun j u hj => by
      have := hc (j + 1) u (by simpa using hj)
      rw [show a.off + (i + 1) + j = a.off + i + (j + 1) by omega]; exact this)]
    simp
theorem loadCells_run (b i : Nat) (w : World) (l : List Value) (hc : ∀ j v, l[j]? = some v → w.cell? ⟨b, i + j, none⟩ = some v) : (loadCells ⟨b, i, none⟩ l.length).run P w = .ok l.toArray w := by
  unfold loadCells
  rw [loadCellsFrom_run ⟨b, i, none⟩ rfl w l.length 0 #[] l rfl (by simpa using hc)]
  simp

section
variable [tb : Tabs P]
theorem OpV.load {x : Operand} {t b i : Nat} {e : TE} {l : List Value} {t' : TypeId} {fr : Nat × Nat} {v : Value} (ho : o.op = .load t x) (hx : env.get x = some (.pointer (some ⟨b, i, none⟩)))
    (ht : tb.T t = some e) (ha' : TypeDesc.isAgg e.und = false) [p : PullBlk b H (.cells l.toArray t' fr) R] (hc : l[i]? = some v) : OpV P w0 n env H o v := fun a w ha hw => by
  have h1 := (hw.ent p.ent).cell (i := i)
  simp [hc] at h1
  simp [execOp, ho, ha.eval hx, Instr.loadAt, Instr.sureAddr, loadVar, run_isAgg ht, ha', h1]
theorem OpV.load_aggP {x : Operand} {t b i : Nat} {e : TE} {l : List Value} {t' : TypeId} {fr : Nat × Nat} {vs : List Value} (ho : o.op = .load t x) (hx : env.get x = some (.pointer (some ⟨b, i, none⟩)))
    (ht : tb.T t = some e) (ha' : TypeDesc.isAgg e.und = true) [p : PullBlk b H (.cells l.toArray t' fr) R] (hc : (l.drop i).take e.size = vs) (hlen : vs.length = e.size) : OpV P w0 n env H o (.agg vs.toArray) := fun a w ha hw => by
  have h1 : (loadCells ⟨b, i, none⟩ e.size).run P w = .ok vs.toArray w := by
    rw [← hlen]
    refine loadCells_run b i w vs fun j v hj => ?_
    have := (hw.ent p.ent).cell (i := i + j)
    rw [this]
    rw [← hc] at hj
    rw [List.getElem?_take] at hj
    split at hj
    · simpa using hj
    · cases hj
  simp [execOp, ho, ha.eval hx, Instr.loadAt, Instr.sureAddr, loadVar, run_isAgg ht, ha', run_size ht, h1]
def takeAt : List Value → Nat → Nat → Option (List Value)
  | _, _, 0 => some []
  | [], _, _ + 1 => none
  | a :: r, 0, k + 1 => match takeAt r 0 k with | some x => some (a :: x) | none => none
  | _ :: r, i + 1, k + 1 => takeAt r i (k + 1)
omit tb in
theorem takeAt_ok : ∀ {l : List Value} {i k : Nat} {vs : List Value}, takeAt l i k = some vs → vs.length = k ∧ (l.drop i).take k = vs
  | l, i, 0, vs, h => by cases l <;> simp [takeAt] at h <;> subst h <;> simp
  | [], i, k + 1, vs, h => by simp [takeAt] at h
  | a :: r, 0, k + 1, vs, h => by
    unfold takeAt at h
    split at h
    · rename_i x hx
      obtain ⟨h1, h2⟩ := takeAt_ok hx
      obtain rfl := Option.some.inj h
      exact ⟨by simp [h1], by simp at h2 ⊢; exact h2⟩
    · cases h
  | a :: r, i + 1, k + 1, vs, h => by
    unfold takeAt at h
    obtain ⟨h1, h2⟩ := takeAt_ok h
    exact ⟨h1, by simpa using h2⟩
theorem OpV.load_agg {x : Operand} {t b i : Nat} {e : TE} {l : List Value} {t' : TypeId} {fr : Nat × Nat} {vs : List Value} (ho : o.op = .load t x) (hx : env.get x = some (.pointer (some ⟨b, i, none⟩)))
    (ht : tb.T t = some e) (ha' : TypeDesc.isAgg e.und = true) [p : PullBlk b H (.cells l.toArray t' fr) R] (hc : takeAt l i e.size = some vs) : OpV P w0 n env H o (.agg vs.toArray) :=
  OpV.load_aggP ho hx ht ha' (takeAt_ok hc).2 (takeAt_ok hc).1
theorem OpV.load_old {x : Operand} {t : Nat} {ad : Addr} {e : TE} {v : Value} (ho : o.op = .load t x) (hx : env.get x = some (.pointer (some ad)))
    (ht : tb.T t = some e) (ha' : TypeDesc.isAgg e.und = false) (hc : w0.cell? ad = some v) : OpV P w0 n env H o v := fun a w ha hw => by
  simp [execOp, ho, ha.eval hx, Instr.loadAt, Instr.sureAddr, loadVar, run_isAgg ht, ha', hw.oldCell hc]
theorem OpV.load_old_agg {x : Operand} {t b i : Nat} {e : TE} {vs : List Value} (ho : o.op = .load t x) (hx : env.get x = some (.pointer (some ⟨b, i, none⟩)))
    (ht : tb.T t = some e) (ha' : TypeDesc.isAgg e.und = true) (hlen : vs.length = e.size) (hc : ∀ j v, vs[j]? = some v → w0.cell? ⟨b, i + j, none⟩ = some v) : OpV P w0 n env H o (.agg vs.toArray) := fun a w ha hw => by
  have h1 : (loadCells ⟨b, i, none⟩ e.size).run P w = .ok vs.toArray w := by
    rw [← hlen]
    exact loadCells_run b i w vs fun j v hj => hw.oldCell (hc j v hj)
  simp [execOp, ho, ha.eval hx, Instr.loadAt, Instr.sureAddr, loadVar, run_isAgg ht, ha', run_size ht, h1]
end

/-! ### Stores -/
/-- 'l' with the cells 'vs' written from place 'i' on. -/
def putCells (l : List Value) (i : Nat) (vs : List Value) : List Value := l.take i ++ vs ++ l.drop (i + vs.length)
theorem storeCells_run {b : Nat} {t : TypeId} {H : HProp} : ∀ (vs : List Value) (l : List Value) (i k : Nat) (w : World), Holds w0 (cels b l t * H) w → (∀ v ∈ vs, v.oneCell' = true) → i + k + vs.length ≤ l.length →
    ∃ w', (storeCells ⟨b, i, none⟩ vs k).run P w = .ok () w' ∧ Holds w0 (cels b (putCells l (i + k) vs) t * H) w'
  | [], l, i, k, w, hw, _, _ => ⟨w, by simp [storeCells], by simpa [putCells] using hw⟩
  | v :: vs, l, i, k, w, hw, h1, hl => by
    have hadd : (⟨b, i, none⟩ : Addr).add k = ⟨b, i + k, none⟩ := by
      unfold Addr.add; split <;> simp_all
    have hlt : i + k < l.length := by simp at hl; omega
    have hc : w.cell? ⟨b, i + k, none⟩ = some l[i + k] := by rw [hw.cell]; simp [hlt]
    have hf : w.frozen? ⟨b, i + k, none⟩ = false := hw.frozen
    have hw1 := hw.setCell (i := i + k) v
    have hw2 : Holds w0 (cels b (l.set (i + k) v) t * H) (w.setCell ⟨b, i + k, none⟩ v) := by simpa using hw1
    obtain ⟨w', hr, hw'⟩ := storeCells_run vs (l.set (i + k) v) i (k + 1) _ hw2 (fun u hu => h1 u (by simp [hu])) (by simp at hl ⊢; omega)
    refine ⟨w', ?_, ?_⟩
    · unfold storeCells
      simp only [Sem.run_bind, hadd, run_store P w _ v _ (h1 v (by simp)), hc, hf]
      simpa using hr
    · have e : putCells (l.set (i + k) v) (i + (k + 1)) vs = putCells l (i + k) (v :: vs) := by
        unfold putCells
        simp only [List.length_cons]
        have h2 : (l.set (i + k) v).take (i + (k + 1)) = l.take (i + k) ++ [v] := by
          rw [← Nat.add_assoc, List.take_succ_eq_append_getElem (by simp; omega)]
          simp [List.take_set_of_le]
        rw [h2, List.drop_set_of_lt (by omega)]
        simp [Nat.add_assoc, Nat.add_comm 1]
      rw [← e]; exact hw'

def putAt : List Value → Nat → List Value → Option (List Value)
  | l, _, [] => some l
  | [], _, _ :: _ => none
  | a :: r, 0, v :: vs => match putAt r 0 vs with | some r' => some (v :: r') | none => none
  | a :: r, i + 1, v :: vs => match putAt r i (v :: vs) with | some r' => some (a :: r') | none => none
theorem putAt_ok : ∀ {l : List Value} {i : Nat} {vs l' : List Value}, putAt l i vs = some l' → (vs = [] ∨ i + vs.length ≤ l.length) ∧ putCells l i vs = l'
  | l, i, [], l', h => by cases l <;> simp [putAt] at h <;> subst h <;> exact ⟨.inl rfl, by simp [putCells]⟩
  | [], i, v :: vs, l', h => by simp [putAt] at h
  | a :: r, 0, v :: vs, l', h => by
    unfold putAt at h
    split at h
    · rename_i r' hr
      obtain ⟨h1, h2⟩ := putAt_ok hr
      obtain rfl := Option.some.inj h
      refine ⟨.inr ?_, ?_⟩
      · rcases h1 with rfl | h1
        · simp
        · simp at h1 ⊢; omega
      · simp [putCells] at h2 ⊢; exact h2
    · cases h
  | a :: r, i + 1, v :: vs, l', h => by
    unfold putAt at h
    split at h
    · rename_i r' hr
      obtain ⟨h1, h2⟩ := putAt_ok hr
      obtain rfl := Option.some.inj h
      refine ⟨.inr ?_, ?_⟩
      · rcases h1 with h1 | h1
        · cases h1
        · simp at h1 ⊢; omega
      · simp only [putCells, List.take_succ_cons, List.cons_append, Nat.add_right_comm, List.drop_succ_cons] at h2 ⊢
        rw [h2]
    · cases h

section
variable [tb : Tabs P]
theorem PO.storeP {x y : Operand} {t b i : Nat} {e : TE} {l l' : List Value} {t' : TypeId} {v : Value} (ho : o.op = .store t x y) (hg : o.guard = none) (hd : o.dst = none)
    (hx : env.get x = some (.pointer (some ⟨b, i, none⟩))) (hy : env.get y = some v) (ht : tb.T t = some e) (hsz : v.cells.size = e.size) (h1 : v.cells.toList.all Value.oneCell' = true)
    [p : PullBlk b H (.cells l.toArray t' (0, 0)) R] (hl : i + v.cells.toList.length ≤ l.length) (hl' : putCells l i v.cells.toList = l')
    (k : PO w0 n env (cels b l' t' * R) (wpList P ops Q rest)) : PO w0 n env H (wpList P ops Q (o :: rest)) := by
  intro a w ha hw
  obtain ⟨w', hr, hw'⟩ := storeCells_run (P := P) v.cells.toList l i 0 w (hw.ent p.ent) (List.all_eq_true.1 h1) (by simpa using hl)
  refine wpList_plain hg fun K hK => ?_
  unfold Oper.wp
  have : (execOp a.eval o).run P w = .ok .skip w' := by
    simp [execOp, ho, ha.eval hx, ha.eval hy, Instr.storeAt, Instr.sureAddr, storeVar, run_size ht, hsz, hr]
  rw [this]
  refine hK _ _ ?_
  have e1 : a.put o.dst undef = a := by rw [hd]; rfl
  rw [e1]
  refine k a w' ha ?_
  rw [← hl']; simpa using hw'

theorem PO.store {x y : Operand} {t b i : Nat} {e : TE} {l l' : List Value} {t' : TypeId} {v : Value} (ho : o.op = .store t x y) (hg : o.guard = none) (hd : o.dst = none)
    (hx : env.get x = some (.pointer (some ⟨b, i, none⟩))) (hy : env.get y = some v) (ht : tb.T t = some e) (hsz : v.cells.size = e.size) (h1 : v.cells.toList.all Value.oneCell' = true)
    [p : PullBlk b H (.cells l.toArray t' (0, 0)) R] (hl' : putAt l i v.cells.toList = some l')
    (k : PO w0 n env (cels b l' t' * R) (wpList P ops Q rest)) : PO w0 n env H (wpList P ops Q (o :: rest)) := by
  obtain ⟨h2, h3⟩ := putAt_ok hl'
  rcases h2 with h2 | h2
  · have e0 : v.cells.toList = [] := h2
    intro a w ha hw
    refine wpList_plain hg fun K hK => ?_
    unfold Oper.wp
    have e1 : a.put o.dst undef = a := by rw [hd]; rfl
    have : (execOp a.eval o).run P w = .ok .skip w := by
      simp [execOp, ho, ha.eval hx, ha.eval hy, Instr.storeAt, Instr.sureAddr, storeVar, run_size ht, hsz, e0, storeCells]
    rw [this]
    refine hK _ _ ?_
    rw [e1]
    refine k a w ha ?_
    have : l = l' := by rw [e0] at h3; simpa [putCells] using h3
    rw [← this]; exact hw.ent p.ent
  · exact PO.storeP ho hg hd hx hy ht hsz h1 h2 h3 k
theorem PO.alloc {t : TypeId} {e : TE} {zs : List Value} (ho : o.op = .alloc t) (hg : o.guard = none) (hd : dstOk n o.dst = true) (ht : tb.T t = some e) (hz : e.zero.cells = zs.toArray)
    (k : ∀ b, PO w0 n (env.put o.dst (.pointer (some ⟨b, 0, none⟩))) (cels b zs t * H) (wpList P ops Q rest)) : PO w0 n env H (wpList P ops Q (o :: rest)) := by
  intro a w ha hw
  refine wpList_plain hg fun K hK => ?_
  unfold Oper.wp
  have : (execOp a.eval o).run P w = .ok (.value (.pointer (some ⟨w.heap.size, 0, none⟩))) (w.alloc (.cells zs.toArray t)) := by
    simp [execOp, ho, Instr.alloc, run_zero ht, newVar, newRow, hz]
  rw [this]
  exact hK _ _ (k w.heap.size _ _ (ha.put hd _) (hw.alloc _))
end
theorem PO.box {t : TypeId} {x : Operand} {v : Value} {zs : List Value} (ho : o.op = .box t x) (hg : o.guard = none) (hd : dstOk n o.dst = true) (hx : env.get x = some v) (hz : v.cells = zs.toArray)
    (k : ∀ b, PO w0 n (env.put o.dst (.pointer (some ⟨b, 0, none⟩))) (cels b zs t * H) (wpList P ops Q rest)) : PO w0 n env H (wpList P ops Q (o :: rest)) := by
  intro a w ha hw
  refine wpList_plain hg fun K hK => ?_
  unfold Oper.wp
  have : (execOp a.eval o).run P w = .ok (.value (.pointer (some ⟨w.heap.size, 0, none⟩))) (w.alloc (.cells zs.toArray t)) := by
    simp [execOp, ho, ha.eval hx, Instr.box, newVar, newRow, hz]
  rw [this]
  exact hK _ _ (k w.heap.size _ _ (ha.put hd _) (hw.alloc _))

/-! ### Guards -/
theorem look_getElem {t : Nat} {v : Value} {a : Act} (ha : Agree n env a) (h : look env t = some v) (hv : v ≠ undef) : a.tmps[t]? = some v := by
  have := ha.slot t v h
  rw [Array.getD_eq_getD_getElem?] at this
  cases e : a.tmps[t]? with
  | none => rw [e] at this; exact absurd this.symm hv
  | some u => rw [e] at this; simpa using this
theorem yielded_of {j d : Nat} {oj : Oper} {b : Bool} {a : Act} (ha : Agree n env a) (hj : ops[j]? = some oj) (hd : oj.dst = some d) (h : look env d = some (.bool b)) : yielded ops a.tmps j = some b := by
  unfold yielded
  simp [hj, hd, look_getElem ha h (by simp [undef])]
/-- The operation without its guard. -/
def Oper.bare (o : Oper) : Oper := { o with guard := none }
theorem PO.guard {j d : Nat} {want b : Bool} {oj : Oper} (hg : o.guard = some (j, want)) (hj : ops[j]? = some oj) (hdj : oj.dst = some d) (hlk : look env d = some (.bool b)) (hd : dstOk n o.dst = true)
    (yes : b = want → PO w0 n ((d, .bool want) :: env) H (wpList P ops Q (Oper.bare o :: rest))) (no : b = !want → PO w0 n (Env.put ((d, .bool (!want)) :: env) o.dst undef) H (wpList P ops Q rest)) : PO w0 n env H (wpList P ops Q (o :: rest)) := by
  intro a w ha hw
  have hy := yielded_of ha hj hdj hlk
  have same : ∀ c : Bool, b = c → Agree n ((d, .bool c) :: env) a := by
    intro c hc
    subst hc
    refine ⟨ha.size, ha.defers, fun t v hv => ?_⟩
    simp only [look] at hv
    by_cases e : d = t
    · subst e; simp at hv; subst hv; exact ha.slot _ _ hlk
    · rw [beq_ne e] at hv; exact ha.slot _ _ (by simpa using hv)
  unfold wpList
  by_cases hb : b = want
  · have := yes hb a w (same _ hb) hw
    unfold wpList at this
    rw [if_pos (by simp [Region.wanted, Oper.bare])] at this
    rw [if_pos (by simp [Region.wanted, hg, hy, hb])]
    exact this
  · rw [if_neg (by simp [Region.wanted, hg, hy, hb])]
    have hb' : b = !want := by cases b <;> cases want <;> simp_all
    exact no hb' _ _ ((same _ hb').put hd _) hw
theorem PO.guard_yes {j d : Nat} {want : Bool} {oj : Oper} (hg : o.guard = some (j, want)) (hj : ops[j]? = some oj) (hdj : oj.dst = some d) (hlk : look env d = some (.bool want))
    (yes : PO w0 n env H (wpList P ops Q (Oper.bare o :: rest))) : PO w0 n env H (wpList P ops Q (o :: rest)) := by
  intro a w ha hw
  have hy := yielded_of ha hj hdj hlk
  have := yes a w ha hw
  unfold wpList at this ⊢
  rw [if_pos (by simp [Region.wanted, Oper.bare])] at this
  rw [if_pos (by simp [Region.wanted, hg, hy])]
  exact this
theorem PO.guard_no {j d : Nat} {want b : Bool} {oj : Oper} (hg : o.guard = some (j, want)) (hj : ops[j]? = some oj) (hdj : oj.dst = some d) (hlk : look env d = some (.bool b)) (hb : b = !want) (hd : dstOk n o.dst = true)
    (no : PO w0 n (env.put o.dst undef) H (wpList P ops Q rest)) : PO w0 n env H (wpList P ops Q (o :: rest)) := by
  intro a w ha hw
  have hy := yielded_of ha hj hdj hlk
  unfold wpList
  rw [if_neg (by simp [Region.wanted, hg, hy, hb])]
  exact no _ _ (ha.put hd _) hw
theorem yielded_undef {j d : Nat} {oj : Oper} {a : Act} (ha : Agree n env a) (hj : ops[j]? = some oj) (hd : oj.dst = some d) (h : look env d = some undef) : yielded ops a.tmps j = none := by
  have h1 := ha.slot d undef h
  rw [Array.getD_eq_getD_getElem?] at h1
  unfold yielded
  cases e : a.tmps[d]? with
  | none => simp [hj, hd, e]
  | some u =>
    rw [e] at h1
    have h2 : u = undef := h1
    subst h2
    simp [hj, hd, e, undef]
/-- Its guard was not run itself. -/
theorem PO.guard_undef {j d : Nat} {want : Bool} {oj : Oper} (hg : o.guard = some (j, want)) (hj : ops[j]? = some oj) (hdj : oj.dst = some d) (hlk : look env d = some undef) (hd : dstOk n o.dst = true)
    (no : PO w0 n (env.put o.dst undef) H (wpList P ops Q rest)) : PO w0 n env H (wpList P ops Q (o :: rest)) := by
  intro a w ha hw
  have hy := yielded_undef ha hj hdj hlk
  unfold wpList
  rw [if_neg (by simp [Region.wanted, hg, hy])]
  exact no _ _ (ha.put hd _) hw
theorem PQ.guard_undef {K : Act → Prop} {C : World → Prop} {j d : Nat} {want : Bool} {oj : Oper} (hg : o.guard = some (j, want)) (hj : ops[j]? = some oj) (hdj : oj.dst = some d) (hlk : look env d = some undef) (hd : dstOk n o.dst = true)
    (no : PQ n (env.put o.dst undef) (wpQuiet P ops C K rest)) : PQ n env (wpQuiet P ops C K (o :: rest)) := by
  intro a ha
  have hy := yielded_undef ha hj hdj hlk
  unfold wpQuiet
  rw [if_neg (by simp [Region.wanted, hg, hy])]
  exact no _ (ha.put hd _)
theorem PQ.guard_yes {K : Act → Prop} {C : World → Prop} {j d : Nat} {want : Bool} {oj : Oper} (hg : o.guard = some (j, want)) (hj : ops[j]? = some oj) (hdj : oj.dst = some d) (hlk : look env d = some (.bool want))
    (yes : PQ n env (wpQuiet P ops C K (Oper.bare o :: rest))) : PQ n env (wpQuiet P ops C K (o :: rest)) := by
  intro a ha
  have hy := yielded_of ha hj hdj hlk
  have := yes a ha
  unfold wpQuiet at this ⊢
  rw [if_pos (by simp [Region.wanted, Oper.bare])] at this
  rw [if_pos (by simp [Region.wanted, hg, hy])]
  exact this
theorem PQ.guard_no {K : Act → Prop} {C : World → Prop} {j d : Nat} {want b : Bool} {oj : Oper} (hg : o.guard = some (j, want)) (hj : ops[j]? = some oj) (hdj : oj.dst = some d) (hlk : look env d = some (.bool b)) (hb : b = !want) (hd : dstOk n o.dst = true)
    (no : PQ n (env.put o.dst undef) (wpQuiet P ops C K rest)) : PQ n env (wpQuiet P ops C K (o :: rest)) := by
  intro a ha
  have hy := yielded_of ha hj hdj hlk
  unfold wpQuiet
  rw [if_neg (by simp [Region.wanted, hg, hy, hb])]
  exact no _ (ha.put hd _)
theorem PQ.guard {K : Act → Prop} {C : World → Prop} {j d : Nat} {want b : Bool} {oj : Oper} (hg : o.guard = some (j, want)) (hj : ops[j]? = some oj) (hdj : oj.dst = some d) (hlk : look env d = some (.bool b)) (hd : dstOk n o.dst = true)
    (yes : b = want → PQ n ((d, .bool want) :: env) (wpQuiet P ops C K (Oper.bare o :: rest))) (no : b = !want → PQ n (Env.put ((d, .bool (!want)) :: env) o.dst undef) (wpQuiet P ops C K rest)) : PQ n env (wpQuiet P ops C K (o :: rest)) := by
  intro a ha
  have hy := yielded_of ha hj hdj hlk
  have same : ∀ c : Bool, b = c → Agree n ((d, .bool c) :: env) a := by
    intro c hc
    subst hc
    refine ⟨ha.size, ha.defers, fun t v hv => ?_⟩
    simp only [look] at hv
    by_cases e : d = t
    · subst e; simp at hv; subst hv; exact ha.slot _ _ hlk
    · rw [beq_ne e] at hv; exact ha.slot _ _ (by simpa using hv)
  unfold wpQuiet
  by_cases hb : b = want
  · have := yes hb a (same _ hb)
    unfold wpQuiet at this
    rw [if_pos (by simp [Region.wanted, Oper.bare])] at this
    rw [if_pos (by simp [Region.wanted, hg, hy, hb])]
    exact this
  · rw [if_neg (by simp [Region.wanted, hg, hy, hb])]
    have hb' : b = !want := by cases b <;> cases want <;> simp_all
    exact no hb' _ ((same _ hb').put hd _)

/-! ### Calls and returns -/
def bodyOk (P : Program) (f : FuncId) : Bool := match P.funcs[f]? with | some fn => !(fn.name == "runtime.NumGoroutine") && fn.body.isSome | none => false
theorem run_callFunc_body {f : FuncId} (h : bodyOk P f = true) (args : Array Value) (w : World) : (callFunc f args).run P w = .ok (.enter f args) w := by
  unfold bodyOk at h
  split at h
  · rename_i fn hf
    simp only [Bool.and_eq_true, Bool.not_eq_true'] at h
    have h1 : fn.name ≠ "runtime.NumGoroutine" := by simpa using h.1
    have h2 : fn.body ≠ none := by intro e; rw [e] at h; simp at h
    simp [callFunc, hf, h1, h2]
  · cases h
/-- What a function's end must come to. -/
def RP (w0 : World) (post : Value → HProp) (R : HProp) : Ending → World → Prop := fun e w' => ∃ v, e = .returned v ∧ Holds w0 (post v * R) w'
structure HSpec (P : Program) (w0 : World) (f : FuncId) (args : List Value) (pre : HProp) (post : Value → HProp) : Prop where
  body : bodyOk P f = true
  run : ∀ R w, Holds w0 (pre * R) w → Calls P f args.toArray w (RP w0 post R)
def initEnv : Nat → List Value → Env
  | _, [] => []
  | i, v :: r => (i, v) :: initEnv (i + 1) r
theorem initEnv_look : ∀ (l : List Value) (i t : Nat) (v : Value), look (initEnv i l) t = some v → i ≤ t ∧ l[t - i]? = some v
  | [], _, _, _, h => by cases h
  | u :: l, i, t, v, h => by
    simp only [initEnv, look] at h
    by_cases e : i = t
    · subst e; simp at h; subst h; simp
    · rw [beq_ne e] at h
      obtain ⟨h1, h2⟩ := initEnv_look l (i + 1) t v (by simpa using h)
      exact ⟨by omega, by rw [show t - i = (t - (i + 1)) + 1 by omega]; simpa using h2⟩
theorem HSpec.intro {f : FuncId} {args : List Value} {pre : HProp} {post : Value → HProp} {fn : Func} {c : Code} (hf : P.funcs[f]? = some fn) (hb : fn.body = some c) (hn : fn.ntmps = n) (hle : Nat.ble args.length n = true) (hname : bodyOk P f = true)
    (h : ∀ R, PO w0 n (initEnv 0 args) (pre * R) (c.wp P (bodyPost P fn (RP w0 post R)))) : HSpec P w0 f args pre post := by
  refine ⟨hname, fun R w hw => calls_of_wp hf hb (h R _ w ⟨?_, rfl, ?_⟩ hw)⟩
  · have := Nat.le_of_ble_eq_true hle
    simp [hn]; omega
  · intro t v ht
    obtain ⟨_, h2⟩ := initEnv_look args 0 t v ht
    have hlt : t < args.length := by
      rcases Nat.lt_or_ge t args.length with h | h
      · exact h
      · simp [List.getElem?_eq_none h] at h2
    simp only [Nat.sub_zero] at h2
    simp [Array.getD_eq_getD_getElem?, Array.getElem?_append, hlt]
    rw [List.getElem?_eq_getElem hlt] at h2
    exact Option.some.inj h2
theorem PO.call {f : FuncId} {as : List Operand} {tys : Array TypeId} {vs : List Value} {pre : HProp} {post : Value → HProp} (ho : o.op = .call { callee := .value (.func f), args := as.toArray, argTypes := tys }) (hg : o.guard = none) (hd : dstOk n o.dst = true)
    (has : env.all as = some vs) (hs : HSpec P w0 f vs pre post) [fr : Frame H pre R] (k : ∀ v, PO w0 n (env.put o.dst v) (post v * R) (wpList P ops Q rest)) : PO w0 n env H (wpList P ops Q (o :: rest)) := by
  intro a w ha hw
  refine wpList_plain hg fun K hK => ?_
  unfold Oper.wp
  have : (execOp a.eval o).run P w = .ok (.enter f vs.toArray) w := by
    simp [execOp, ho, resolve, Act.eval, Deferred.ofValue, ha.all as vs has, invoke, run_callFunc_body hs.body]
  rw [this]
  refine (hs.run R w (hw.ent fr.ent)).mono ?_
  rintro e w' ⟨v, rfl, hw'⟩
  exact hK _ _ (k v _ _ (ha.put hd v) hw')
theorem PO.callv {f : FuncId} {x : Operand} {fs cs : List Value} {as : List Operand} {tys : Array TypeId} {vs us : List Value} {pre : HProp} {post : Value → HProp} (ho : o.op = .call { callee := .value x, args := as.toArray, argTypes := tys }) (hg : o.guard = none) (hd : dstOk n o.dst = true)
    (hx : env.get x = some (.func (.func f) fs.toArray cs.toArray)) (has : env.all as = some vs) (hus : fs ++ vs ++ cs = us) (hs : HSpec P w0 f us pre post) [fr : Frame H pre R] (k : ∀ v, PO w0 n (env.put o.dst v) (post v * R) (wpList P ops Q rest)) : PO w0 n env H (wpList P ops Q (o :: rest)) := by
  intro a w ha hw
  refine wpList_plain hg fun K hK => ?_
  unfold Oper.wp
  have : (execOp a.eval o).run P w = .ok (.enter f us.toArray) w := by
    simp [execOp, ho, resolve, ha.eval hx, Deferred.ofValue, ha.all as vs has, invoke, run_callFunc_body hs.body, ← hus]
  rw [this]
  refine (hs.run R w (hw.ent fr.ent)).mono ?_
  rintro e w' ⟨v, rfl, hw'⟩
  exact hK _ _ (k v _ _ (ha.put hd v) hw')
/-- A call that leaves all as it was, in a quiet region. -/
theorem PQ.call {K : Act → Prop} {f : FuncId} {as : List Operand} {tys : Array TypeId} {vs : List Value} {pre : HProp} {v : Value} (ho : o.op = .call { callee := .value (.func f), args := as.toArray, argTypes := tys }) (hg : o.guard = none) (hd : dstOk n o.dst = true)
    (has : env.all as = some vs) (hs : HSpec P w0 f vs pre (fun u => pur (u = v) * pre)) [fr : Frame H pre R] (k : PQ n (env.put o.dst v) (wpQuiet P ops (Holds w0 H) K rest)) : PQ n env (wpQuiet P ops (Holds w0 H) K (o :: rest)) := by
  intro a ha
  unfold wpQuiet
  rw [if_pos (by simp [Region.wanted, hg])]
  refine ⟨v, fun w hw => ?_, k _ (ha.put hd v)⟩
  unfold Oper.quietAt
  have : (execOp a.eval o).run P w = .ok (.enter f vs.toArray) w := by
    simp [execOp, ho, resolve, Act.eval, Deferred.ofValue, ha.all as vs has, invoke, run_callFunc_body hs.body]
  rw [this]
  refine ⟨rfl, (hs.run R w (hw.ent fr.ent)).mono ?_⟩
  rintro e w' ⟨u, rfl, hw'⟩
  obtain rfl : u = v := (hw'.ent (Ent.assoc _ _ _)).pur
  exact ⟨rfl, (hw'.ent ((Ent.star (Ent.right _ _) (Ent.refl _)).trans fr.back))⟩

def retVals (env : Env) : List ResultVar → Option (List Value)
  | [] => some []
  | .tmp t :: r => match look env t, retVals env r with
    | some v, some vs => some (v :: vs)
    | _, _ => none
  | _ :: _ => none
theorem retVals_run {a : Act} (ha : Agree n env a) (w : World) (f : ResultVar → Sem Value) (hf : ∀ t, f (.tmp t) = pure (a.tmps.getD t undef)) : ∀ (l : List ResultVar) (vs : List Value), retVals env l = some vs →
    (l.mapM f).run P w = .ok vs w
  | [], vs, h => by simp [retVals] at h; simp [← h]
  | .tmp t :: r, vs, h => by
    unfold retVals at h
    split at h
    · rename_i v us hv hus
      obtain rfl := Option.some.inj h
      have h2 := ha.slot t v hv
      have h3 := retVals_run ha w f hf r us hus
      simp only [List.mapM_cons, Sem.run_bind, hf, Sem.run_pure, Result.andThen_ok, h2, h3]
    · cases h
  | .cell _ _ :: r, vs, h => by cases h
def packed : List Value → Value
  | [v] => v
  | vs => .tuple vs.toArray
theorem results_run {fn : Func} {l : List ResultVar} {vs : List Value} {a : Act} (ha : Agree n env a) (hr : fn.results = l.toArray) (hv : retVals env l = some vs) (w : World) : (results fn a.tmps).run P w = .ok (packed vs) w := by
  unfold results
  rw [hr, List.mapM_toArray]
  simp only [Sem.run_map, bind_pure_comp]
  rw [retVals_run ha w _ (fun _ => rfl) l vs hv]
  match vs with
  | [] => simp [packed]
  | [v] => simp [packed]
  | v :: u :: r => simp [packed]
theorem PO.return_ {fn : Func} {l : List ResultVar} {vs : List Value} {post : Value → HProp} (hr : fn.results = l.toArray) (hv : retVals env l = some vs) (he : Ent H (post (packed vs) * R)) :
    PO w0 n env H (bodyPost P fn (RP w0 post R) .ret) := fun _ w ha hw => ⟨ha.defers, _, results_run ha hr hv w, _, rfl, hw.ent he⟩
theorem PO.return_end {fn : Func} {l : List ResultVar} {vs : List Value} {post : Value → HProp} (hr : fn.results = l.toArray) (hv : retVals env l = some vs) (he : Ent H (post (packed vs) * R)) :
    PO w0 n env H (bodyPost P fn (RP w0 post R) .normal) := fun _ w ha hw => ⟨ha.defers, _, results_run ha hr hv w, _, rfl, hw.ent he⟩
end Go.Sl
