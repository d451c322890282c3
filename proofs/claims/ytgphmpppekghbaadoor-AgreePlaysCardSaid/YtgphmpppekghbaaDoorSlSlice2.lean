/- Rules on slices: append, literals, slicing. -/
import Derived.Test.YtgphmpppekghbaaDoorSlSlice
namespace Go.Sl
open Go.RowKit
variable {P : Program} [tb : Tabs P] {w0 : World} {H R : HProp} {n : Nat} {env : Env} {o : Oper} {ops : Array Oper} {rest : List Oper} {Q : Exit → Act → World → Prop}
  {d : Tmp} {op : Op} {ty : TypeId} {pos : String} {af : Array Edge} {v : Value} {α : Type} {T : TypeId} {k : Nat} {enc : α → List Value} {xs ys : List α}

class PullOsl (v : Value) (H : HProp) {α : outParam Type} (T : outParam TypeId) (k : outParam Nat) (enc : outParam (α → List Value)) (xs : outParam (List α)) (R : outParam HProp) : Prop where
  ent : Ent H (osl T k enc v xs * R)
instance (priority := 2000) PullOsl.hereL (v : Value) (T : TypeId) (k : Nat) (enc : α → List Value) (xs : List α) (R : HProp) : PullOsl v (osl T k enc v xs * R) T k enc xs R := ⟨Ent.refl _⟩
instance (priority := 1900) PullOsl.hereR (v : Value) (T : TypeId) (k : Nat) (enc : α → List Value) (xs : List α) (L : HProp) : PullOsl v (L * osl T k enc v xs) T k enc xs L := ⟨Ent.comm _ _⟩
instance (priority := 1800) PullOsl.here (v : Value) (T : TypeId) (k : Nat) (enc : α → List Value) (xs : List α) : PullOsl v (osl T k enc v xs) T k enc xs emp := ⟨Ent.star_emp _⟩
instance (priority := 1000) PullOsl.goL (v : Value) (T : TypeId) (k : Nat) (enc : α → List Value) (xs : List α) (L R L' : HProp) [p : PullOsl v L T k enc xs L'] : PullOsl v (L * R) T k enc xs (L' * R) :=
  ⟨(Ent.star p.ent (Ent.refl _)).trans (Ent.assoc _ _ _)⟩
instance (priority := 900) PullOsl.goR (v : Value) (T : TypeId) (k : Nat) (enc : α → List Value) (xs : List α) (L R R' : HProp) [p : PullOsl v R T k enc xs R'] : PullOsl v (L * R) T k enc xs (L * R') :=
  ⟨(Ent.star (Ent.refl _) p.ent).trans (Ent.swap _ _ _)⟩

theorem Elems.flat (he : Enc k enc) {p : Option Addr} {m c : Nat} (h : Elems w0 H k enc (.slice p m c) ys) {w : World} (hw : Holds w0 H w) : ys.length = m ∧ ∀ j u, (ys.flatMap enc)[j]? = some u → ∃ b o, p = some ⟨b, o, none⟩ ∧ w.cell? ⟨b, o + j, none⟩ = some u := by
  obtain ⟨p', c', e, h⟩ := h
  obtain ⟨rfl, rfl, rfl⟩ := Value.slice.inj e
  refine ⟨rfl, fun j u hj => ?_⟩
  have hlt : j < ys.length * k := by
    rcases Nat.lt_or_ge j (ys.flatMap enc).length with h | h
    · rwa [he.flat] at h
    · simp [List.getElem?_eq_none h] at hj
  have hk : 0 < k := by
    rcases Nat.eq_zero_or_pos k with h0 | h0
    · subst h0; simp at hlt
    · exact h0
  have hq : j / k < ys.length := (Nat.div_lt_iff_lt_mul hk).2 hlt
  have hx : ys[j / k]? = some ys[j / k] := by simp [hq]
  obtain ⟨b, o, hp, hc⟩ := h (j / k) _ hx
  have hr : j % k < (enc ys[j / k]).length := by rw [he.len]; exact Nat.mod_lt _ hk
  have hu : (enc ys[j / k])[j % k]? = some (enc ys[j / k])[j % k] := by simp [hr]
  have hcell := hc w hw (j % k) _ hu
  have hj' := he.get hx hu
  have hjk : j / k * k + j % k = j := by rw [Nat.mul_comm]; exact Nat.div_add_mod j k
  rw [hjk, hj] at hj'
  refine ⟨b, o, hp, ?_⟩
  rw [show o + j = o + j / k * k + j % k by omega, hcell]
  exact hj'.symm ▸ rfl

theorem PO.append {x y : Operand} {t : TypeId} {e e' : TE} {m c : Nat} {p : Option Addr} (ho : op = .call { callee := .builtin .append, args := #[x, y], argTypes := #[t, t] }) (hx : env.get x = some v) (hy : env.get y = some (.slice p m c))
    (ht : tb.T t = some e) (hu : e.und = .slice T) (he' : tb.T T = some e') (hk : e'.size = k) (hz : e'.zero.cells.size = k) [q : PullOsl v H T k enc xs R] (he : Enc k enc) (hr : Elems w0 H k enc (.slice p m c) ys)
    (hb : (xs.length + m) * (2 * e'.bytes) ≤ 281474976710656) (h63 : xs.length + m < 9223372036854775808) (hd : Nat.blt d n = true)
    (kk : ∀ v', PO w0 n ((d, v') :: env) (osl T k enc v' (xs ++ ys) * R) (wpList P ops Q rest)) : PO w0 n env H (wpList P ops Q (⟨some d, op, ty, pos, af, none⟩ :: rest)) := by
  intro a w ha hw
  obtain ⟨hm, hcell⟩ := hr.flat he hw
  have hrun := run_append_osl (ty := ty) (c := c) ht hu he' hk hz he rfl hm hb h63 (hw.ent q.ent) hcell
  obtain ⟨v', w', hrn, hw'⟩ := hrun
  refine wpList_plain rfl fun K hK => ?_
  unfold Oper.wp
  have : (execOp a.eval ⟨some d, op, ty, pos, af, none⟩).run P w = .ok (.value v') w' := by
    subst ho
    simp [execOp, resolve, invoke, builtin, ha.eval hx, ha.eval hy, hrn]
  rw [this]
  exact hK _ _ (kk v' _ w' (ha.put (dst := some d) hd _) hw')

/-! ### Slices written out -/
theorem fill_full {size : Nat} : ∀ (vs : List Value) (i : Nat) (pre : List Value) (z : List Value), (∀ v ∈ vs, v.cells.size = size) → pre.length = i * size → z.length = vs.length * size →
    Instr.fill (fun j => some (j * size, size)) (pre ++ z).toArray ((vs.zipIdx i).map fun p => (p.2, p.1)) = some (pre ++ vs.flatMap fun v => v.cells.toList).toArray
  | [], i, pre, z, _, _, hz => by
    have : z = [] := by simpa using hz
    subst this; simp [Instr.fill]
  | v :: vs, i, pre, z, hv, hp, hz => by
    have hs := hv v (by simp)
    simp only [List.zipIdx_cons, List.map_cons]
    unfold Instr.fill
    have hlen : (pre ++ z).length = (i + (vs.length + 1)) * size := by simp [hp, hz, Nat.add_mul]
    have h1 : ¬ (v.cells.size ≠ size ∨ i * size + v.cells.size > (pre ++ z).toArray.size) := by
      rintro (h | h)
      · exact h hs
      · simp only [List.size_toArray, hlen, hs] at h
        have : i * size + size ≤ (i + (vs.length + 1)) * size := by rw [Nat.add_mul, Nat.add_mul]; omega
        omega
    simp only [Bool.or_eq_true, decide_eq_true_eq, if_neg h1]
    have key : ∀ (cs : List Value) (j : Nat) (pre' z' : List Value), pre'.length = i * size + j → cs.length ≤ z'.length → (cs.zipIdx j).foldl (fun (acc : Array Value) p => acc.setIfInBounds (i * size + p.2) p.1) (pre' ++ z').toArray = (pre' ++ cs ++ z'.drop cs.length).toArray := by
      intro cs
      induction cs with
      | nil => intro j pre' z' _ _; simp
      | cons c cs ih =>
        intro j pre' z' hp' hz'
        cases z' with
        | nil => simp at hz'
        | cons y z' =>
          simp only [List.zipIdx_cons, List.foldl_cons]
          have : (pre' ++ y :: z').toArray.setIfInBounds (i * size + j) c = ((pre' ++ [c]) ++ z').toArray := by
            rw [← hp']; simp
          rw [this, ih (j + 1) (pre' ++ [c]) z' (by simp [hp']; omega) (by simpa using hz')]
          simp
    have hf : v.cells.zipIdx.foldl (fun cs x => cs.setIfInBounds (i * size + x.2) x.1) (pre ++ z).toArray = (pre ++ v.cells.toList ++ z.drop v.cells.toList.length).toArray := by
      rw [← Array.foldl_toList, Array.toList_zipIdx]
      exact key v.cells.toList 0 pre z (by simpa using hp) (by simp [hs, hz, Nat.add_mul])
    have ih := fill_full vs (i + 1) (pre ++ v.cells.toList) (z.drop v.cells.toList.length) (fun u hu => hv u (by simp [hu])) (by simp [hp, hs, Nat.add_mul]) (by simp [hz, hs, Nat.add_mul])
    have hf' : (v.cells.zipIdx.foldl (fun cs x => match x with | (c, j) => cs.setIfInBounds (i * size + j) c) (pre ++ z).toArray) = (pre ++ v.cells.toList ++ z.drop v.cells.toList.length).toArray := hf
    rw [hf']
    simp only [List.append_assoc] at ih ⊢
    rw [ih]
    simp
theorem PO.buildSlice {t el len : Nat} {e e' : TE} {ps : List (Nat × Operand)} {vs cs : List Value} (ho : op = .buildSlice t len ps.toArray) (hps : ps = (ps.map (·.2)).zipIdx.map fun p => (p.2, p.1)) (hall : env.all (ps.map (·.2)) = some vs) (hlen : Nat.beq len vs.length = true)
    (ht : tb.T t = some e) (hu : e.und = .slice el) (he' : tb.T el = some e') (_hz : e'.zero.cells.size = e'.size) (hsz : vs.all (fun v => Nat.beq v.cells.size e'.size) = true) (hcs : (vs.flatMap fun v => v.cells.toList) = cs) (hbig : Nat.ble (len * e'.size) 16777216 = true) (hd : Nat.blt d n = true)
    (kk : ∀ b, PO w0 n ((d, .slice (some ⟨b, 0, none⟩) len len) :: env) (cels b cs el * H) (wpList P ops Q rest)) : PO w0 n env H (wpList P ops Q (⟨some d, op, ty, pos, af, none⟩ :: rest)) := by
  intro a w ha hw
  have hlen' : len = vs.length := Nat.eq_of_beq_eq_true hlen
  have hev := ha.all _ _ hall
  have hparts : (ps.toArray.map fun (i, x) => (i, a.eval x)).toList = vs.zipIdx.map fun p => (p.2, p.1) := by
    rw [hps, ← hev]
    simp [List.zipIdx_map, Function.comp_def]
  have hsz' : ∀ v ∈ vs, v.cells.size = e'.size := fun v hv => Nat.eq_of_beq_eq_true (List.all_eq_true.1 hsz v hv)
  have hbig' : ¬ len * e'.size > 2 ^ 24 := by have := Nat.le_of_ble_eq_true hbig; omega
  have hfill := fill_full (size := e'.size) vs 0 [] ((Array.range (len * e'.size)).map (e'.zero.cells[· % e'.zero.cells.size]!)).toList hsz' (by simp) (by simp [hlen'])
  have hfill0 : len * e'.size = 0 → Instr.fill (fun j => some (j * e'.size, e'.size)) (Array.map (fun x => (#[] : Array Value)[x % 0]!) (Array.range (len * e'.size))) (vs.zipIdx.map fun p => (p.2, p.1)) = some (vs.flatMap fun v => v.cells.toList).toArray := by
    intro h0
    have := fill_full (size := e'.size) vs 0 [] [] hsz' (by simp) (by simp [← hlen', h0])
    have e0 : Array.map (fun x => (#[] : Array Value)[x % 0]!) (Array.range 0) = #[] := by rw [show Array.range 0 = #[] from rfl, Array.map_empty]
    rw [h0, e0]; simpa using this
  have hrun : (Instr.buildSlice t len (ps.toArray.map fun (i, x) => (i, a.eval x))).run P w = .ok (.slice (some ⟨w.heap.size, 0, none⟩) len len) (w.alloc (.cells cs.toArray el)) := by
    unfold Instr.buildSlice
    simp only [Sem.run_bind, run_und ht, hu, Result.andThen_ok, run_size he', Sem.run_ite, if_neg hbig', Sem.run_pure, hparts]
    by_cases h0 : len * e'.size = 0
    · simp only [if_pos h0]
      have h1 := hfill0 h0
      simp only [List.size_toArray, List.length_nil] at h1 ⊢
      rw [h1]
      simp [newRow, hcs]
    · simp only [if_neg h0, run_zero he', Result.andThen_ok]
      simp only [List.nil_append, Array.toArray_toList] at hfill
      rw [hfill]
      simp [newRow, hcs]
  refine wpList_plain rfl fun K hK => ?_
  unfold Oper.wp
  have : (execOp a.eval ⟨some d, op, ty, pos, af, none⟩).run P w = .ok (.value (.slice (some ⟨w.heap.size, 0, none⟩) len len)) (w.alloc (.cells cs.toArray el)) := by
    subst ho
    simp only [execOp, Sem.run_bind, hrun, Result.andThen_ok, Sem.run_pure]
  rw [this]
  exact hK _ _ (kk w.heap.size _ _ (ha.put (dst := some d) hd _) (hw.alloc _))
/-! ### Cutting a slice -/
omit tb in
theorem run_sliceBounds {len cap l h : Nat} {lo hi : Option Value} {kd kd' : IntKind} (w : World) (hlo : lo = none ∧ l = 0 ∨ lo = some (.int kd l)) (hhi : hi = none ∧ h = len ∨ hi = some (.int kd' h)) (h1 : l ≤ h) (h2 : h ≤ cap) (b : Bool) :
    (Instr.sliceBounds b len cap lo hi none).run P w = .ok (l, h, cap) w := by
  have i1 : (0 : Int) ≤ (l : Int) ∧ (l : Int) ≤ (h : Int) := ⟨by omega, by omega⟩
  have i2 : (0 : Int) ≤ (h : Int) ∧ (h : Int) ≤ (cap : Int) := ⟨by omega, by omega⟩
  unfold Instr.sliceBounds
  rcases hlo with ⟨rfl, rfl⟩ | rfl <;> rcases hhi with ⟨rfl, rfl⟩ | rfl <;> simp [Instr.sliceBound, asIntOf, h1, h2]
theorem OpV.slice_slice {x : Operand} {lo hi : Option Operand} {t el len cap l h : Nat} {p : Option Addr} {kd kd' : IntKind} {e e' : TE} (ho : o.op = .slice t x lo hi none) (hx : env.get x = some (.slice p len cap))
    (ht : tb.T t = some e) (hu : e.und = .slice el) (he' : tb.T el = some e') (hlo : lo = none ∧ l = 0 ∨ ∃ y, lo = some y ∧ env.get y = some (.int kd l)) (hhi : hi = none ∧ h = len ∨ ∃ y, hi = some y ∧ env.get y = some (.int kd' h)) (h1 : l ≤ h) (h2 : h ≤ cap) :
    OpV P w0 n env H o (.slice (if cap = l then p else p.map (·.add (l * e'.size))) (h - l) (cap - l)) := fun a w ha _ => by
  have g1 : lo.map a.eval = none ∧ l = 0 ∨ lo.map a.eval = some (.int kd l) := by
    rcases hlo with ⟨rfl, rfl⟩ | ⟨y, rfl, hy⟩
    · exact .inl ⟨rfl, rfl⟩
    · exact .inr (by simp [ha.eval hy])
  have g2 : hi.map a.eval = none ∧ h = len ∨ hi.map a.eval = some (.int kd' h) := by
    rcases hhi with ⟨rfl, rfl⟩ | ⟨y, rfl, hy⟩
    · exact .inl ⟨rfl, rfl⟩
    · exact .inr (by simp [ha.eval hy])
  have hb := run_sliceBounds (P := P) w g1 g2 h1 h2 true
  simp only [execOp, ho, ha.eval hx, Option.map_none, Instr.sliceAt, Sem.run_bind, run_und ht, hu, Result.andThen_ok, Instr.slice, hb, run_size he', Sem.run_pure]
omit tb in
theorem Elems.cut {p : Option Addr} {m c l h : Nat} (e : Elems w0 H k enc (.slice p m c) xs) (h2 : h ≤ m) (hc : m ≤ c) : Elems w0 H k enc (.slice (if c = l then p else p.map (·.add (l * k))) (h - l) (c - l)) ((xs.drop l).take (h - l)) := by
  obtain ⟨p', c', ee, hh⟩ := e
  obtain ⟨rfl, rfl, rfl⟩ := Value.slice.inj ee
  refine ⟨(if c = l then p else p.map (·.add (l * k))), c - l, ?_, fun j x hj => ?_⟩
  · rw [List.length_take, List.length_drop]
    congr 1; omega
  · have hjl : j < h - l := by
      rcases Nat.lt_or_ge j (h - l) with h | h
      · exact h
      · rw [List.getElem?_take, if_neg (by omega)] at hj; cases hj
    rw [List.getElem?_take, if_pos hjl, List.getElem?_drop] at hj
    obtain ⟨b, o, rfl, hcell⟩ := hh (l + j) x hj
    refine ⟨b, o + l * k, ?_, fun w hw i u hu => ?_⟩
    · rw [if_neg (by omega)]
      simp only [Option.map_some, Addr.add, Option.some.injEq]
      split <;> simp_all
    · rw [show o + l * k + j * k + i = o + (l + j) * k + i by rw [Nat.add_mul]; omega]
      exact hcell w hw i u hu
/-- A block that was just written out reads as its elements. -/
theorem Elems.ofBlk {b : Nat} {cs : List Value} {t : TypeId} {fr : Nat × Nat} {c : Nat} [p : PullBlk b H (.cells cs.toArray t fr) R] (he : Enc k enc) (hcs : cs = ys.flatMap enc) (hl : ys.length = c) : Elems w0 H k enc (.slice (some ⟨b, 0, none⟩) c c) ys := by
  subst hl hcs
  refine ⟨_, _, rfl, fun j x hj => ⟨b, 0, rfl, fun w hw i u hu => ?_⟩⟩
  rw [(hw.ent p.ent).cell, List.getElem?_toArray, Nat.zero_add]
  exact he.get hj hu
end Go.Sl
