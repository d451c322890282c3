/- Operations on maps. -/
import Derived.Test.YtgphmpppekghbaaDoorSlMap
namespace Go.Sl
open Go.RowKit
variable {P : Program} [tb : Tabs P] {κ : Type} [DecidableEq κ] {enc : κ → Value} {w0 : World} {H R : HProp} {n : Nat} {env : Env} {o : Oper} {ops : Array Oper} {rest : List Oper} {Q : Exit → Act → World → Prop}
  {d : Tmp} {op : Op} {ty : TypeId} {pos : String} {af : Array Edge}

theorem OpV.lookup {x i : Operand} {t kt el b : Nat} {e e' : TE} {k : κ} {l : List (κ × Value)} {ok : Bool} (ho : o.op = .lookup t x i ok) (hx : env.get x = some (.map (some b))) (ht : tb.T t = some e) (hu : e.und = .map kt el) (he : tb.T el = some e')
    [p : PullMap b H enc l R] (hi : env.get i = some (enc k)) (law : KeyLaw P kt enc) : OpV P w0 n env H o (if ok then .tuple #[(mget l k).getD e'.zero, .bool (mget l k).isSome] else (mget l k).getD e'.zero) := fun a w ha hw => by
  obtain ⟨es, clock, h1, h2, h3, hb, _⟩ := (hw.ent p.ent).map
  have hk : es.map (·.key) = (l.map (·.1)).map enc := by
    have := congrArg (List.map Prod.fst) h1
    simpa [List.map_map, Function.comp_def] using this
  have hf := law.find k es (l.map (·.1)) w hk
  rw [find_mget k h1] at hf
  have hrun : (Instr.lookup t (.map (some b)) (enc k) ok).run P w = .ok (if ok then .tuple #[(mget l k).getD e'.zero, .bool (mget l k).isSome] else (mget l k).getD e'.zero) w := by
    unfold Instr.lookup
    simp only [Sem.run_bind, run_und ht, hu, Result.andThen_ok, getObj, Sem.run, hb, law.check, Sem.run_pure, hf]
    cases hm : mget l k with
    | none => cases ok <;> simp [run_zero he]
    | some v =>
      have : ∃ j, (l.map (·.1)).findIdx? (fun x => decide (x = k)) = some j := by
        have := mem_keys_of_mget hm
        cases hj : (l.map (·.1)).findIdx? (fun x => decide (x = k)) with
        | some j => exact ⟨j, rfl⟩
        | none =>
          rw [List.findIdx?_eq_none_iff] at hj
          have := hj k this
          simp at this
      obtain ⟨j, hj⟩ := this
      rw [hj]
      cases ok <;> simp
  simp [execOp, ho, ha.eval hx, ha.eval hi, hrun]

theorem OpV.lookup1 {x i : Operand} {t kt el b : Nat} {e e' : TE} {k : κ} {l : List (κ × Value)} {v : Value} (ho : o.op = .lookup t x i false) (hx : env.get x = some (.map (some b))) (ht : tb.T t = some e) (hu : e.und = .map kt el) (he : tb.T el = some e')
    [p : PullMap b H enc l R] (hi : env.get i = some (enc k)) (law : KeyLaw P kt enc) (hv : (mget l k).getD e'.zero = v) : OpV P w0 n env H o v := hv ▸ OpV.lookup (ok := false) ho hx ht hu he hi law
theorem OpV.lookup2 {x i : Operand} {t kt el b : Nat} {e e' : TE} {k : κ} {l : List (κ × Value)} {v : Value} {c : Bool} (ho : o.op = .lookup t x i true) (hx : env.get x = some (.map (some b))) (ht : tb.T t = some e) (hu : e.und = .map kt el) (he : tb.T el = some e')
    [p : PullMap b H enc l R] (hi : env.get i = some (enc k)) (law : KeyLaw P kt enc) (hv : (mget l k).getD e'.zero = v) (hc : (mget l k).isSome = c) : OpV P w0 n env H o (.tuple #[v, .bool c]) := by
  subst hv hc
  exact OpV.lookup (ok := true) ho hx ht hu he hi law
theorem born_modify {es : List MapEntry} {clock j : Nat} (k v : Value) (h : BornOk es clock) : BornOk (es.modify j fun e => { e with key := k, val := v }) clock := by
  refine ⟨?_, ?_⟩
  · have : (es.modify j fun e => { e with key := k, val := v }).map (·.born) = es.map (·.born) := by
      apply List.ext_getElem?
      intro i
      simp only [List.getElem?_map, List.getElem?_modify]
      by_cases hij : j = i
      · subst hij; cases es[j]? <;> simp
      · simp [hij]
    rw [this]; exact h.1
  · intro e he
    obtain ⟨i, hi, rfl⟩ := List.mem_iff_getElem.1 he
    simp only [List.length_modify] at hi
    rw [List.getElem_modify]
    split
    · show (es[i]).born < clock
      exact h.2 _ (List.getElem_mem _)
    · exact h.2 _ (List.getElem_mem _)
omit tb in
theorem mset_there : ∀ {es : List MapEntry} {l : List (κ × Value)} {k : κ} {j : Nat} (v : Value), es.map (fun e => (e.key, e.val)) = l.map (fun p => (enc p.1, p.2)) → (l.map (·.1)).findIdx? (fun x => decide (x = k)) = some j →
    (es.modify j fun e => { e with key := enc k, val := v }).map (fun e => (e.key, e.val)) = (mset l k v).map (fun p => (enc p.1, p.2))
  | [], l, k, j, v, h, hj => by
    have : l = [] := by simpa using h.symm
    subst this; simp at hj
  | e :: es, [], k, j, v, h, hj => by simp at h
  | e :: es, (q, u) :: l, k, j, v, h, hj => by
    simp only [List.map_cons, List.cons.injEq] at h
    simp only [List.map_cons, List.findIdx?_cons] at hj
    unfold mset
    by_cases hq : q = k
    · simp [hq] at hj
      subst hj
      simp [hq, h.2]
    · simp [hq] at hj
      obtain ⟨i, hi, rfl⟩ := hj
      simp only [if_neg hq, List.modify_succ_cons, List.map_cons, List.cons.injEq]
      exact ⟨h.1, mset_there v h.2 (by simpa using hi)⟩
omit tb in
theorem mset_new : ∀ {l : List (κ × Value)} {k : κ} (v : Value), (l.map (·.1)).findIdx? (fun x => decide (x = k)) = none → mset l k v = l ++ [(k, v)]
  | [], k, v, _ => rfl
  | (q, u) :: l, k, v, h => by
    simp only [List.map_cons, List.findIdx?_cons] at h
    by_cases hq : q = k
    · simp [hq] at h
    · simp [hq] at h
      unfold mset
      rw [if_neg hq, mset_new v (by simpa using h)]; rfl
omit tb in
theorem run_setObj_map {w : World} {b : Nat} {es : Array MapEntry} {c : Nat} (hb : w.heap[b]? = some (.map es c)) (o' : Obj) : (setObj b o').run P w = .ok () { w with heap := w.heap.setIfInBounds b o' } := by
  simp [setObj, Sem.run, hb]
/-- 'm[k] = v' (and in a literal). -/
theorem PO.mapUpdate {x i y : Operand} {t kt el b : Nat} {e : TE} {k : κ} {v : Value} {l : List (κ × Value)} (ho : op = .mapUpdate t x i y ∨ op = .insert t x i y) (hx : env.get x = some (.map (some b))) (ht : tb.T t = some e) (hu : e.und = .map kt el)
    [p : PullMap b H enc l R] (hi : env.get i = some (enc k)) (hy : env.get y = some v) (law : KeyLaw P kt enc)
    (kk : PO w0 n env (omap enc b (mset l k v) * R) (wpList P ops Q rest)) : PO w0 n env H (wpList P ops Q (⟨none, op, ty, pos, af, none⟩ :: rest)) := by
  intro a w ha hw
  obtain ⟨es, clock, h1, h2, h3, hb, hw'⟩ := (hw.ent p.ent).map
  have hk : es.map (·.key) = (l.map (·.1)).map enc := by
    have := congrArg (List.map Prod.fst) h1
    simpa [List.map_map, Function.comp_def] using this
  have hf := law.find k es (l.map (·.1)) w hk
  have hrun : ∃ w', (Instr.mapUpdate t (.map (some b)) (enc k) v).run P w = .ok () w' ∧ Holds w0 (omap enc b (mset l k v) * R) w' := by
    unfold Instr.mapUpdate
    simp only [Sem.run_bind, run_und ht, hu, Result.andThen_ok, getObj, Sem.run, hb, law.check]
    rw [hf]
    cases hj : (l.map (·.1)).findIdx? (fun x => decide (x = k)) with
    | none =>
      simp only [Option.bind_none, Result.andThen_ok, run_setObj_map hb]
      refine ⟨_, rfl, (hw'.setObj (o' := .map (es.toArray.push ⟨enc k, v, clock⟩) (clock + 1))).ent (Ent.star ?_ (Ent.refl _))⟩
      rw [mset_new v hj, List.push_toArray]
      refine omap_intro (by simp [h1]) ?_ ⟨?_, ?_⟩
      · rw [← mset_new v hj]; exact nodup_mset h2 k v
      · simp only [List.map_append, List.map_cons, List.map_nil]
        rw [List.nodup_append]
        refine ⟨h3.1, by simp, ?_⟩
        intro x hx' y hy'
        simp at hy'; subst hy'
        obtain ⟨e, he, rfl⟩ := List.mem_map.1 hx'
        exact Nat.ne_of_lt (h3.2 e he)
      · intro e he
        simp only [List.mem_append, List.mem_singleton] at he
        rcases he with he | rfl
        · exact Nat.lt_succ_of_lt (h3.2 e he)
        · exact Nat.lt_succ_self _
    | some j =>
      have hlt : j < es.length := by
        have h4 := (List.findIdx?_eq_some_iff_getElem.1 hj).1
        have h5 := congrArg List.length hk
        simp at h4 h5; omega
      have hkey : (es[j]).key = enc k := by
        have h4 := (List.findIdx?_eq_some_iff_getElem.1 hj).2.1
        have h6 : (es.map (·.key))[j]? = ((l.map (·.1)).map enc)[j]? := by rw [hk]
        have h7 : j < (l.map (·.1)).length := (List.findIdx?_eq_some_iff_getElem.1 hj).1
        simp [hlt] at h6
        have h7' : j < l.length := by simpa using h7
        have h8 : l[j]? = some l[j] := by simp [h7']
        rw [h8] at h6
        simp at h6
        have h9 : l[j].1 = k := by simpa using h4
        rw [h6, h9]
      have hge : es.toArray[j]? = some es[j] := by simp [hlt]
      simp only [Option.bind_some, Result.andThen_ok, hlt, List.getElem?_eq_getElem, Option.map_some, Option.getD_some, hge, hkey]
      have hst : (Instr.keyThatStays (enc k) (enc k)).run P w = .ok (enc k) w := by simp [Instr.keyThatStays, law.bits]
      simp only [Sem.run_bind, hst, Result.andThen_ok, run_setObj_map hb]
      refine ⟨_, rfl, (hw'.setObj (o' := .map (es.toArray.modify j fun e => { e with key := enc k, val := v }) clock)).ent (Ent.star ?_ (Ent.refl _))⟩
      rw [List.modify_toArray]
      exact omap_intro (mset_there v h1 hj) (nodup_mset h2 k v) (born_modify _ _ h3)
  obtain ⟨w', hr, hw2⟩ := hrun
  refine wpList_plain rfl fun K hK => ?_
  unfold Oper.wp
  have : (execOp a.eval ⟨none, op, ty, pos, af, none⟩).run P w = .ok .skip w' := by
    rcases ho with rfl | rfl <;> simp [execOp, ha.eval hx, ha.eval hi, ha.eval hy, hr]
  rw [this]
  exact hK _ _ (kk a w' ha hw2)
omit tb [DecidableEq κ] in
theorem PO.makeMap {t : TypeId} {r : Option Operand} (ho : op = .makeMap t r) (hr : r = none) (hd : Nat.blt d n = true) (enc : κ → Value)
    (k : ∀ b, PO w0 n ((d, .map (some b)) :: env) (omap enc b [] * H) (wpList P ops Q rest)) : PO w0 n env H (wpList P ops Q (⟨some d, op, ty, pos, af, none⟩ :: rest)) := by
  intro a w ha hw
  refine wpList_plain rfl fun K hK => ?_
  unfold Oper.wp
  subst hr ho
  have : (execOp a.eval ⟨some d, .makeMap t none, ty, pos, af, none⟩).run P w = .ok (.value (.map (some w.heap.size))) (w.alloc (.map #[] 0)) := by
    simp [execOp, Instr.makeMap]
  rw [this]
  refine hK _ _ (k w.heap.size _ _ (ha.put (dst := some d) hd _) ((hw.alloc _).ent (Ent.star ?_ (Ent.refl _))))
  exact omap_intro (es := []) rfl (by simp) ⟨by simp, by simp⟩
omit tb in
theorem mdel_there : ∀ {es : List MapEntry} {l : List (κ × Value)} {k : κ} {j : Nat}, es.map (fun e => (e.key, e.val)) = l.map (fun p => (enc p.1, p.2)) → (l.map (·.1)).findIdx? (fun x => decide (x = k)) = some j →
    (es.eraseIdx j).map (fun e => (e.key, e.val)) = (mdel l k).map (fun p => (enc p.1, p.2))
  | [], l, k, j, h, hj => by
    have : l = [] := by simpa using h.symm
    subst this; simp at hj
  | e :: es, [], k, j, h, hj => by simp at h
  | e :: es, (q, u) :: l, k, j, h, hj => by
    simp only [List.map_cons, List.cons.injEq] at h
    simp only [List.map_cons, List.findIdx?_cons] at hj
    unfold mdel
    by_cases hq : q = k
    · simp [hq] at hj
      subst hj
      simp [hq, h.2]
    · simp [hq] at hj
      obtain ⟨i, hi, rfl⟩ := hj
      simp only [if_neg hq, List.eraseIdx_cons_succ, List.map_cons, List.cons.injEq]
      exact ⟨h.1, mdel_there h.2 (by simpa using hi)⟩
omit tb in
theorem mdel_none : ∀ {l : List (κ × Value)} {k : κ}, (l.map (·.1)).findIdx? (fun x => decide (x = k)) = none → mdel l k = l
  | [], k, _ => rfl
  | (q, u) :: l, k, h => by
    simp only [List.map_cons, List.findIdx?_cons] at h
    by_cases hq : q = k
    · simp [hq] at h
    · simp [hq] at h
      unfold mdel
      rw [if_neg hq, mdel_none (by simpa using h)]
theorem PO.delete {x i : Operand} {t kt el b : Nat} {e : TE} {k : κ} {ts : List TypeId} {l : List (κ × Value)} (ho : op = .call { callee := .builtin .delete, args := #[x, i], argTypes := (t :: ts).toArray }) (hx : env.get x = some (.map (some b))) (ht : tb.T t = some e) (hu : e.und = .map kt el)
    [p : PullMap b H enc l R] (hi : env.get i = some (enc k)) (law : KeyLaw P kt enc) {dst : Option Tmp} (hd : dstOk n dst = true)
    (kk : PO w0 n (env.put dst (.tuple #[])) (omap enc b (mdel l k) * R) (wpList P ops Q rest)) : PO w0 n env H (wpList P ops Q (⟨dst, op, ty, pos, af, none⟩ :: rest)) := by
  intro a w ha hw
  obtain ⟨es, clock, h1, h2, h3, hb, hw'⟩ := (hw.ent p.ent).map
  have hk : es.map (·.key) = (l.map (·.1)).map enc := by
    have := congrArg (List.map Prod.fst) h1
    simpa [List.map_map, Function.comp_def] using this
  have hf := law.find k es (l.map (·.1)) w hk
  have hrun : ∃ w', (Builtin.delete_ (t :: ts).toArray ty #[.map (some b), enc k]).run P w = .ok (.tuple #[]) w' ∧ Holds w0 (omap enc b (mdel l k) * R) w' := by
    unfold Builtin.delete_
    simp only [List.getElem?_toArray, List.getElem?_cons_zero, getObj]
    simp only [List.getElem?_cons_zero, List.getElem?_cons_succ, run_und ht, hu, Result.andThen_ok, Sem.run_bind, Sem.run, hb, law.check]
    rw [hf]
    cases hj : (l.map (·.1)).findIdx? (fun x => decide (x = k)) with
    | none =>
      simp only [Option.bind_none, Result.andThen_ok, Sem.run_bind, run_setObj_map hb, Sem.run_pure]
      refine ⟨_, rfl, (hw'.setObj (o' := .map es.toArray clock)).ent (Ent.star ?_ (Ent.refl _))⟩
      rw [mdel_none hj]
      exact omap_intro h1 h2 h3
    | some j =>
      have hlt : j < es.length := by
        have h4 := (List.findIdx?_eq_some_iff_getElem.1 hj).1
        have h5 := congrArg List.length hk
        simp at h4 h5; omega
      simp only [Option.bind_some, Result.andThen_ok, hlt, List.getElem?_eq_getElem, Option.map_some, Sem.run_bind, run_setObj_map hb, Sem.run_pure]
      refine ⟨_, rfl, (hw'.setObj (o' := .map (es.toArray.eraseIdxIfInBounds j) clock)).ent (Ent.star ?_ (Ent.refl _))⟩
      have e1 : es.toArray.eraseIdxIfInBounds j = (es.eraseIdx j).toArray := by simp
      rw [e1]
      refine omap_intro (mdel_there h1 hj) (nodup_mdel h2 k) ⟨?_, fun e he => h3.2 e (List.mem_of_mem_eraseIdx he)⟩
      exact h3.1.sublist ((List.eraseIdx_sublist _ _).map _)
  obtain ⟨w', hr, hw2⟩ := hrun
  refine wpList_plain rfl fun K hK => ?_
  unfold Oper.wp
  have : (execOp a.eval ⟨dst, op, ty, pos, af, none⟩).run P w = .ok (.value (.tuple #[])) w' := by
    subst ho
    simp [execOp, resolve, invoke, builtin, ha.eval hx, ha.eval hi, hr]
  rw [this]
  exact hK _ _ (kk _ w' (ha.put hd _) hw2)
theorem OpV.len_omap {x : Operand} {t b kt el : Nat} {e : TE} {l : List (κ × Value)} (ho : o.op = .call { callee := .builtin .len, args := #[x], argTypes := #[t] }) (hx : env.get x = some (.map (some b)))
    (ht : tb.T t = some e) (hu : e.und = .map kt el) [p : PullMap b H enc l R] : OpV P w0 n env H o (.int .i64 l.length) := fun a w ha hw => by
  obtain ⟨es, clock, h1, h2, h3, hb, _⟩ := (hw.ent p.ent).map
  have : es.length = l.length := by simpa using congrArg List.length h1
  simp [execOp, ho, ha.eval hx, resolve, invoke, builtin, Builtin.len_, run_und ht, hu, goInt, getObj, Sem.run, hb, this]
end Go.Sl
