/- Functions that only read; functions that make something; slices that can be read. -/
import Derived.Test.YtgphmpppekghbaaDoorSlGo
namespace Go.Sl
open Go.RowKit

variable {P : Program} {w0 : World} {n : Nat} {env : Env} {H H' R A : HProp} {ops : Array Oper} {rest : List Oper} {Q : Exit → Act → World → Prop}
  {d : Tmp} {op : Op} {ty : TypeId} {pos : String} {af : Array Edge} {v : Value}

/-! ### Three kinds of contract -/
/-- It hands back 'v', and all that held holds. -/
def RR (w0 : World) (H : HProp) (v : Value) : Ending → World → Prop := fun e w' => e = .returned v ∧ Holds w0 H w'
structure RSpec (P : Program) (w0 : World) (f : FuncId) (args : List Value) (H : HProp) (v : Value) : Prop where
  body : bodyOk P f = true
  run : ∀ w, Holds w0 H w → Calls P f args.toArray w (RR w0 H v)
/-- It makes something, and all that held holds. -/
structure MSpec (P : Program) (w0 : World) (f : FuncId) (args : List Value) (H : HProp) (post : Value → HProp) : Prop where
  body : bodyOk P f = true
  run : ∀ w, Holds w0 H w → Calls P f args.toArray w (RP w0 post H)
theorem enter_agree {args : List Value} {fn : Func} (hn : fn.ntmps = n) (hle : Nat.ble args.length n = true) : Agree n (initEnv 0 args) { tmps := args.toArray ++ Array.replicate (fn.ntmps - args.toArray.size) undef, defers := [] } := by
  refine ⟨?_, rfl, ?_⟩
  · have := Nat.le_of_ble_eq_true hle
    simp [hn]; omega
  · intro t v ht
    obtain ⟨_, h2⟩ := initEnv_look args 0 t v ht
    have hlt : t < args.length := by
      rcases Nat.lt_or_ge t args.length with h | h
      · exact h
      · simp [List.getElem?_eq_none h] at h2
    simp only [Nat.sub_zero] at h2
    simp [Array.getD_eq_getD_getElem?, Array.getElem?_append, hlt]
    rw [List.getElem?_eq_getElem hlt] at h2
    exact Option.some.inj h2
theorem RSpec.intro {f : FuncId} {args : List Value} {fn : Func} {c : Code} (hf : P.funcs[f]? = some fn) (hb : fn.body = some c) (hn : fn.ntmps = n) (hle : Nat.ble args.length n = true) (hname : bodyOk P f = true)
    (h : PO w0 n (initEnv 0 args) H (c.wp P (bodyPost P fn (RR w0 H v)))) : RSpec P w0 f args H v :=
  ⟨hname, fun w hw => calls_of_wp hf hb (h _ w (enter_agree hn hle) hw)⟩
theorem MSpec.intro {f : FuncId} {args : List Value} {fn : Func} {c : Code} {post : Value → HProp} (hf : P.funcs[f]? = some fn) (hb : fn.body = some c) (hn : fn.ntmps = n) (hle : Nat.ble args.length n = true) (hname : bodyOk P f = true)
    (h : PO w0 n (initEnv 0 args) H (c.wp P (bodyPost P fn (RP w0 post H)))) : MSpec P w0 f args H post :=
  ⟨hname, fun w hw => calls_of_wp hf hb (h _ w (enter_agree hn hle) hw)⟩
theorem PO.returnR {fn : Func} {l : List ResultVar} {vs : List Value} (hr : fn.results = l.toArray) (hv : retVals env l = some vs) (he : packed vs = v) : PO w0 n env H (bodyPost P fn (RR w0 H v) .ret) :=
  fun _ w ha hw => ⟨ha.defers, _, results_run ha hr hv w, by rw [he], hw⟩
theorem PO.returnRE {fn : Func} {l : List ResultVar} {vs : List Value} (hr : fn.results = l.toArray) (hv : retVals env l = some vs) (he : packed vs = v) (hH : Ent H H') : PO w0 n env H (bodyPost P fn (RR w0 H' v) .ret) :=
  fun _ w ha hw => ⟨ha.defers, _, results_run ha hr hv w, by rw [he], hw.ent hH⟩
theorem PO.returnRn {fn : Func} {l : List ResultVar} {vs : List Value} (hr : fn.results = l.toArray) (hv : retVals env l = some vs) (he : packed vs = v) (hH : Ent H H') : PO w0 n env H (bodyPost P fn (RR w0 H' v) .normal) :=
  fun _ w ha hw => ⟨ha.defers, _, results_run ha hr hv w, by rw [he], hw.ent hH⟩

/-! ### What a function hands back, cells among it -/
section
variable [tb : Tabs P]
inductive Ret (P : Program) [tb : Tabs P] (env : Env) (H : HProp) : List ResultVar → List Value → Prop
  | nil : Ret P env H [] []
  | tmp {t : Tmp} {r : List ResultVar} {v : Value} {vs : List Value} (h : look env t = some v) (k : Ret P env H r vs) : Ret P env H (.tmp t :: r) (v :: vs)
  | cell {R : HProp} {x : Tmp} {t b i : Nat} {e : TE} {l us : List Value} {t' : TypeId} {fr : Nat × Nat} {r : List ResultVar} {vs : List Value} (h : look env x = some (.pointer (some ⟨b, i, none⟩))) (ht : tb.T t = some e) (hg : TypeDesc.isAgg e.und = true)
      [p : PullBlk b H (.cells l.toArray t' fr) R] (hc : takeAt l i e.size = some us) (k : Ret P env H r vs) : Ret P env H (.cell x t :: r) (.agg us.toArray :: vs)
  | one {R : HProp} {x : Tmp} {t b i : Nat} {e : TE} {l : List Value} {t' : TypeId} {fr : Nat × Nat} {r : List ResultVar} {v : Value} {vs : List Value} (h : look env x = some (.pointer (some ⟨b, i, none⟩))) (ht : tb.T t = some e) (hg : TypeDesc.isAgg e.und = false)
      [p : PullBlk b H (.cells l.toArray t' fr) R] (hc : l[i]? = some v) (k : Ret P env H r vs) : Ret P env H (.cell x t :: r) (v :: vs)
theorem Ret.run {l : List ResultVar} {vs : List Value} (h : Ret P env H l vs) {a : Act} (ha : Agree n env a) {w : World} (hw : Holds w0 H w) {f : ResultVar → Sem Value} (f1 : ∀ t, f (.tmp t) = pure (a.tmps.getD t undef))
    (f2 : ∀ x t, f (.cell x t) = (do loadVar t (← asAddr (a.tmps.getD x undef)))) : (l.mapM f).run P w = .ok vs w := by
  induction h with
  | nil => simp
  | tmp h k ih =>
    have h2 := ha.slot _ _ h
    simp only [List.mapM_cons, Sem.run_bind, f1, Sem.run_pure, Result.andThen_ok, ih, h2]
  | @cell R x t b i e l us t' fr r vs h ht hg p hc k ih =>
    have h2 := ha.slot _ _ h
    obtain ⟨h3, h4⟩ := takeAt_ok hc
    have h1 : (loadCells ⟨b, i, none⟩ e.size).run P w = .ok us.toArray w := by
      rw [← h3]
      refine loadCells_run b i w us fun j v hj => ?_
      rw [(hw.ent p.ent).cell (i := i + j)]
      rw [← h4, List.getElem?_take] at hj
      split at hj
      · simpa using hj
      · cases hj
    simp only [List.mapM_cons, Sem.run_bind, f2, Sem.run_pure, Result.andThen_ok, ih, h2]
    simp [asAddr, loadVar, run_isAgg ht, hg, run_size ht, h1, ih]
  | @one R x t b i e l t' fr r v vs h ht hg p hc k ih =>
    have h2 := ha.slot _ _ h
    have h1 := (hw.ent p.ent).cell (i := i)
    simp [hc] at h1
    simp only [List.mapM_cons, Sem.run_bind, f2, Sem.run_pure, Result.andThen_ok, ih, h2]
    simp [asAddr, loadVar, run_isAgg ht, hg, h1, ih]
theorem Ret.results {fn : Func} {l : List ResultVar} {vs : List Value} {a : Act} (h : Ret P env H l vs) (ha : Agree n env a) (hr : fn.results = l.toArray) {w : World} (hw : Holds w0 H w) : (results fn a.tmps).run P w = .ok (packed vs) w := by
  unfold Go.results
  rw [hr, List.mapM_toArray]
  simp only [Sem.run_map, bind_pure_comp]
  rw [h.run ha hw (fun _ => rfl) (fun _ _ => rfl)]
  match vs with
  | [] => simp [packed]
  | [v] => simp [packed]
  | v :: u :: r => simp [packed]
theorem PO.returnC {fn : Func} {l : List ResultVar} {vs : List Value} {post : Value → HProp} (hr : fn.results = l.toArray) (hv : Ret P env H l vs) (he : Ent H (post (packed vs) * R)) :
    PO w0 n env H (bodyPost P fn (RP w0 post R) .ret) := fun _ w ha hw => ⟨ha.defers, _, hv.results ha hr hw, _, rfl, hw.ent he⟩
theorem PO.returnRC {fn : Func} {l : List ResultVar} {vs : List Value} (hr : fn.results = l.toArray) (hv : Ret P env H l vs) (he : packed vs = v) (hH : Ent H H') : PO w0 n env H (bodyPost P fn (RR w0 H' v) .ret) :=
  fun _ w ha hw => ⟨ha.defers, _, hv.results ha hr hw, by rw [he], hw.ent hH⟩
end

/-- Which function an operation calls, with what. -/
def evCall (env : Env) : Op → Option (FuncId × List Value)
  | .call ⟨.value x, as, _⟩ => match env.get x, env.all as.toList with
    | some (.func (.func f) a b), some vs => some (f, a.toList ++ vs ++ b.toList)
    | _, _ => none
  | _ => none
theorem run_evCall {f : FuncId} {vs : List Value} {a : Act} {o : Oper} (h : evCall env o.op = some (f, vs)) (hb : bodyOk P f = true) (ha : Agree n env a) (w : World) : (execOp a.eval o).run P w = .ok (.enter f vs.toArray) w := by
  unfold evCall at h
  split at h
  · rename_i x as ts ho
    split at h
    · rename_i g p q us hx hus
      obtain ⟨rfl, rfl⟩ := Prod.mk.inj (Option.some.inj h)
      have := ha.all _ _ hus
      have h2 : as.map a.eval = us.toArray := by
        apply Array.toList_inj.1; simpa using this
      simp [execOp, ho, resolve, ha.eval hx, Deferred.ofValue, h2, invoke, run_callFunc_body hb]
    · cases h
  · cases h
theorem PO.callh {f : FuncId} {vs : List Value} {pre : HProp} {post : Value → HProp} (hc : evCall env op = some (f, vs)) (hs : HSpec P w0 f vs pre post) (hd : Nat.blt d n = true) [fr : Frame H pre R]
    (k : ∀ v, PO w0 n ((d, v) :: env) (post v * R) (wpList P ops Q rest)) : PO w0 n env H (wpList P ops Q (⟨some d, op, ty, pos, af, none⟩ :: rest)) := by
  intro a w ha hw
  refine wpList_plain rfl fun K hK => ?_
  unfold Oper.wp
  rw [run_evCall (o := ⟨some d, op, ty, pos, af, none⟩) hc hs.body ha]
  refine (hs.run R w (hw.ent fr.ent)).mono ?_
  rintro e w' ⟨v, rfl, hw'⟩
  exact hK _ _ (k v _ _ (ha.put (dst := some d) hd v) hw')
/-- A call whose result is thrown away. -/
theorem PO.callh0 {f : FuncId} {vs : List Value} {pre : HProp} {post : Value → HProp} (hc : evCall env op = some (f, vs)) (hs : HSpec P w0 f vs pre post) [fr : Frame H pre R]
    (k : ∀ v, PO w0 n env (post v * R) (wpList P ops Q rest)) : PO w0 n env H (wpList P ops Q (⟨none, op, ty, pos, af, none⟩ :: rest)) := by
  intro a w ha hw
  refine wpList_plain rfl fun K hK => ?_
  unfold Oper.wp
  rw [run_evCall (o := ⟨none, op, ty, pos, af, none⟩) hc hs.body ha]
  refine (hs.run R w (hw.ent fr.ent)).mono ?_
  rintro e w' ⟨v, rfl, hw'⟩
  exact hK _ _ (k v _ _ ha hw')
theorem PO.callr {f : FuncId} {vs : List Value} (hc : evCall env op = some (f, vs)) (hs : RSpec P w0 f vs H v) (hd : Nat.blt d n = true)
    (k : PO w0 n ((d, v) :: env) H (wpList P ops Q rest)) : PO w0 n env H (wpList P ops Q (⟨some d, op, ty, pos, af, none⟩ :: rest)) := by
  intro a w ha hw
  refine wpList_plain rfl fun K hK => ?_
  unfold Oper.wp
  rw [run_evCall (o := ⟨some d, op, ty, pos, af, none⟩) hc hs.body ha]
  refine (hs.run w hw).mono ?_
  rintro e w' ⟨rfl, hw'⟩
  exact hK _ _ (k _ _ (ha.put (dst := some d) hd v) hw')
theorem PO.callm {f : FuncId} {vs : List Value} {post : Value → HProp} (hc : evCall env op = some (f, vs)) (hs : MSpec P w0 f vs H post) (hd : Nat.blt d n = true)
    (k : ∀ v, PO w0 n ((d, v) :: env) (post v * H) (wpList P ops Q rest)) : PO w0 n env H (wpList P ops Q (⟨some d, op, ty, pos, af, none⟩ :: rest)) := by
  intro a w ha hw
  refine wpList_plain rfl fun K hK => ?_
  unfold Oper.wp
  rw [run_evCall (o := ⟨some d, op, ty, pos, af, none⟩) hc hs.body ha]
  refine (hs.run w hw).mono ?_
  rintro e w' ⟨v, rfl, hw'⟩
  exact hK _ _ (k v _ _ (ha.put (dst := some d) hd v) hw')
theorem PQ.callr {K : Act → Prop} {f : FuncId} {vs : List Value} (hc : evCall env op = some (f, vs)) (hs : RSpec P w0 f vs H v) (hd : Nat.blt d n = true)
    (k : PQ n ((d, v) :: env) (wpQuiet P ops (Holds w0 H) K rest)) : PQ n env (wpQuiet P ops (Holds w0 H) K (⟨some d, op, ty, pos, af, none⟩ :: rest)) := by
  intro a ha
  unfold wpQuiet
  rw [if_pos (by simp [Region.wanted])]
  refine ⟨v, fun w hw => ?_, k _ (ha.put (dst := some d) hd v)⟩
  unfold Oper.quietAt
  rw [run_evCall (o := ⟨some d, op, ty, pos, af, none⟩) hc hs.body ha]
  exact ⟨rfl, (hs.run w hw).mono fun e w' h => h⟩

/-! ### Cells that can be read -/
section
variable [tb : Tabs P] {o : Oper}
theorem OpV.loadH {x : Operand} {t : Nat} {ad : Addr} {e : TE} (ho : o.op = .load t x) (hx : env.get x = some (.pointer (some ad))) (ht : tb.T t = some e) (ha' : TypeDesc.isAgg e.und = false)
    (hc : ∀ w, Holds w0 H w → w.cell? ad = some v) : OpV P w0 n env H o v := fun a w ha hw => by
  simp [execOp, ho, ha.eval hx, Instr.loadAt, Instr.sureAddr, loadVar, run_isAgg ht, ha', hc w hw]
theorem OpV.loadH_agg {x : Operand} {t b i : Nat} {e : TE} {vs : List Value} (ho : o.op = .load t x) (hx : env.get x = some (.pointer (some ⟨b, i, none⟩)))
    (ht : tb.T t = some e) (ha' : TypeDesc.isAgg e.und = true) (hlen : vs.length = e.size) (hc : ∀ w, Holds w0 H w → ∀ j v, vs[j]? = some v → w.cell? ⟨b, i + j, none⟩ = some v) : OpV P w0 n env H o (.agg vs.toArray) := fun a w ha hw => by
  have h1 : (loadCells ⟨b, i, none⟩ e.size).run P w = .ok vs.toArray w := by
    rw [← hlen]
    exact loadCells_run b i w vs fun j v hj => hc w hw j v hj
  simp [execOp, ho, ha.eval hx, Instr.loadAt, Instr.sureAddr, loadVar, run_isAgg ht, ha', run_size ht, h1]
end

/-- 'v' is a slice of elements of 'k' cells each that can be read wherever H holds: 'xs', laid as 'enc' says. -/
def Elems {α : Type} (w0 : World) (H : HProp) (k : Nat) (enc : α → List Value) (v : Value) (xs : List α) : Prop :=
  ∃ p c, v = .slice p xs.length c ∧ ∀ (j : Nat) x, xs[j]? = some x → ∃ b o, p = some ⟨b, o, none⟩ ∧ ∀ w, Holds w0 H w → ∀ (i : Nat) u, (enc x)[i]? = some u → w.cell? ⟨b, o + j * k + i, none⟩ = some u
abbrev encI (x : Int) : List Value := [.int .i64 x]
abbrev Ints (w0 : World) (H : HProp) (v : Value) (xs : List Int) : Prop := Elems w0 H 1 encI v xs
theorem Elems.ent {α : Type} {k : Nat} {enc : α → List Value} {xs : List α} (h : Elems w0 H k enc v xs) (e : Ent H' H) : Elems w0 H' k enc v xs := by
  obtain ⟨p, c, rfl, h⟩ := h
  refine ⟨p, c, rfl, fun j x hj => ?_⟩
  obtain ⟨b, o, hp, hc⟩ := h j x hj
  exact ⟨b, o, hp, fun w hw => hc w (hw.ent e)⟩
theorem Elems.nil {α : Type} {k : Nat} {enc : α → List Value} : Elems w0 H k enc (.slice none 0 0) ([] : List α) := ⟨none, 0, rfl, fun j x h => by simp at h⟩
theorem Elems.cell1 {α : Type} {enc : α → Value} {xs : List α} {p : Option Addr} {m c : Nat} (h : Elems w0 H 1 (fun x => [enc x]) (.slice p m c) xs) {j : Nat} {x : α} (hj : xs[j]? = some x) :
    ∃ b o, p = some ⟨b, o, none⟩ ∧ ∀ w, Holds w0 H w → w.cell? ⟨b, o + j, none⟩ = some (enc x) := by
  obtain ⟨p', c', e, h⟩ := h
  obtain ⟨rfl, rfl, rfl⟩ := Value.slice.inj e
  obtain ⟨b, o, hp, hc⟩ := h j x hj
  exact ⟨b, o, hp, fun w hw => by simpa using hc w hw 0 _ rfl⟩
theorem Elems.shape {α : Type} {k : Nat} {enc : α → List Value} {xs : List α} (h : Elems w0 H k enc v xs) : ∃ p c, v = .slice p xs.length c := by
  obtain ⟨p, c, e, _⟩ := h
  exact ⟨p, c, e⟩

/-- Runs a quiet region till something must be said. -/
theorem goQ {l : List Oper} {K : Act → Prop} {ψ : Prop} (h : ψ)
    (s : Box ψ → PQ n env (wpQuiet P ops (Holds w0 H) K l) := by
      intro h
      repeat (first
        | refine PQ.o rfl (OpV.ev rfl) ?_
        | refine PQ.gyes rfl rfl rfl ?_
        | refine PQ.gno rfl rfl rfl rfl rfl ?_
        | refine PQ.gskip rfl rfl rfl rfl ?_
        | refine PQ.o rfl (OpV.load rfl rfl rfl rfl rfl) ?_
        | refine PQ.o rfl (OpV.load_agg rfl rfl rfl rfl rfl) ?_
        | refine PQ.o rfl (OpV.add64 rfl rfl rfl (by omega)) ?_
        | refine PQ.o rfl (OpV.sub64 rfl rfl rfl (by omega)) ?_
        | refine PQ.o rfl (OpV.pick_bool rfl rfl rfl rfl) ?_
        | refine PQ.o rfl (OpV.len_map rfl rfl rfl rfl) ?_
        | refine PQ.o rfl (OpV.makeFunc rfl rfl rfl) ?_
        | refine PQ.o rfl (OpV.indexN1_slice rfl rfl rfl rfl rfl rfl rfl (by omega)) ?_
        | refine PQ.o rfl (OpV.indexN1_array rfl rfl rfl rfl rfl rfl rfl (by omega)) ?_
        | refine PQ.o rfl (OpV.indexN_slice rfl rfl rfl rfl rfl rfl (by omega)) ?_
        | refine PQ.o rfl (OpV.indexN_array rfl rfl rfl rfl rfl rfl (by omega)) ?_
        | refine PQ.o rfl (OpV.indexAddr_slice rfl rfl rfl rfl rfl rfl (by omega)) ?_
        | refine PQ.o rfl (OpV.indexAddr_array rfl rfl rfl rfl rfl rfl (by omega)) ?_
        | refine PQ.o rfl (OpV.mul64 rfl rfl rfl (by omega)) ?_
        | refine PQ.o rfl (OpV.rem rfl rfl rfl (by omega)) ?_
        | refine PQ.o rfl (OpV.quo64 rfl rfl rfl (by omega)) ?_
        | refine PQ.nil ?_)
      exact h.out) : PQ n env (wpQuiet P ops (Holds w0 H) K l) := s ⟨h⟩
end Go.Sl
