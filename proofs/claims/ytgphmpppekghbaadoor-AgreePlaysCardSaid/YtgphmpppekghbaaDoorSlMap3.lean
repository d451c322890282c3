/- 'm[k] op= v': the entry is found (or made) first, and stored behind. -/
import Derived.Test.YtgphmpppekghbaaDoorSlReg
namespace Go.Sl
open Go.RowKit
variable {P : Program} [tb : Tabs P] {κ : Type} [DecidableEq κ] {enc : κ → Value} {w0 : World} {H R : HProp} {n : Nat} {env : Env} {o : Oper} {ops : Array Oper} {rest : List Oper} {Q : Exit → Act → World → Prop}
  {d : Tmp} {op : Op} {ty : TypeId} {pos : String} {af : Array Edge}

/-- A map of which the entry at place 'j' has the stamp 's'. -/
def omapAt (enc : κ → Value) (b : Nat) (l : List (κ × Value)) (j : Nat) (s : Nat) : HProp :=
  ex fun es : List MapEntry => ex fun clock : Nat => pur (es.map (fun e => (e.key, e.val)) = l.map (fun p => (enc p.1, p.2)) ∧ (l.map (·.1)).Nodup ∧ BornOk es clock ∧ (es[j]?).map (·.born) = some s) * blk b (.map es.toArray clock)
omit tb [DecidableEq κ] in
theorem omapAt_intro {b j s : Nat} {l : List (κ × Value)} {es : List MapEntry} {clock : Nat} (h1 : es.map (fun e => (e.key, e.val)) = l.map (fun p => (enc p.1, p.2))) (h2 : (l.map (·.1)).Nodup) (h3 : BornOk es clock) (h4 : (es[j]?).map (·.born) = some s) : Ent (blk b (.map es.toArray clock)) (omapAt enc b l j s) :=
  fun h hb => ⟨es, clock, (Ent.frp (p := _ ∧ _ ∧ _ ∧ _) ⟨h1, h2, h3, h4⟩ (Ent.refl _)) h hb⟩
omit tb [DecidableEq κ] in
theorem omapAt_omap {b j s : Nat} {l : List (κ × Value)} : Ent (omapAt enc b l j s) (omap enc b l) := fun h ⟨es, clock, hh⟩ =>
  ⟨es, clock, (Ent.pur_star (p := _ ∧ _ ∧ _ ∧ _) fun hp => Ent.frp (p := _ ∧ _ ∧ _) ⟨hp.1, hp.2.1, hp.2.2.1⟩ (Ent.refl _)) h hh⟩
class PullMapAt (b : Nat) (H : HProp) {κ : outParam Type} (enc : outParam (κ → Value)) (l : outParam (List (κ × Value))) (j s : outParam Nat) (R : outParam HProp) : Prop where
  ent : Ent H (omapAt enc b l j s * R)
instance (priority := 2000) PullMapAt.hereL (b j s : Nat) (l : List (κ × Value)) (R : HProp) : PullMapAt b (omapAt enc b l j s * R) enc l j s R := ⟨Ent.refl _⟩
instance (priority := 1900) PullMapAt.hereR (b j s : Nat) (l : List (κ × Value)) (L : HProp) : PullMapAt b (L * omapAt enc b l j s) enc l j s L := ⟨Ent.comm _ _⟩
instance (priority := 1800) PullMapAt.here (b j s : Nat) (l : List (κ × Value)) : PullMapAt b (omapAt enc b l j s) enc l j s emp := ⟨Ent.star_emp _⟩
instance (priority := 1000) PullMapAt.goL (b j s : Nat) (l : List (κ × Value)) (L R L' : HProp) [p : PullMapAt b L enc l j s L'] : PullMapAt b (L * R) enc l j s (L' * R) :=
  ⟨(Ent.star p.ent (Ent.refl _)).trans (Ent.assoc _ _ _)⟩
instance (priority := 900) PullMapAt.goR (b j s : Nat) (l : List (κ × Value)) (L R R' : HProp) [p : PullMapAt b R enc l j s R'] : PullMapAt b (L * R) enc l j s (L * R') :=
  ⟨(Ent.star (Ent.refl _) p.ent).trans (Ent.swap _ _ _)⟩

/-- Where a key stands in what it was set in. -/
def mpos (l : List (κ × Value)) (k : κ) : Nat := l.findIdx fun p => decide (p.1 = k)
omit tb in
theorem mset_cons (q : κ) (x : Value) (l : List (κ × Value)) (k : κ) (v : Value) : mset ((q, x) :: l) k v = if q = k then (k, v) :: l else (q, x) :: mset l k v := rfl
omit tb in
theorem mpos_cons (q : κ) (x : Value) (l : List (κ × Value)) (k : κ) : mpos ((q, x) :: l) k = if q = k then 0 else mpos l k + 1 := by
  unfold mpos; by_cases h : q = k <;> simp [h, List.findIdx_cons]
omit tb in
theorem mset_mset (l : List (κ × Value)) (k : κ) (u v : Value) : mset (mset l k u) k v = mset l k v := by
  induction l with
  | nil => simp [mset]
  | cons p l ih =>
    obtain ⟨q, x⟩ := p
    by_cases h : q = k
    · simp [mset_cons, h]
    · simp [mset_cons, h, ih]
omit tb in
theorem mset_at : ∀ (l : List (κ × Value)) (k : κ) (u v : Value), (mset l k u).set (mpos l k) (k, v) = mset l k v
  | [], k, u, v => rfl
  | (q, x) :: l, k, u, v => by
    by_cases h : q = k
    · simp [mset_cons, mpos_cons, h]
    · simp [mset_cons, mpos_cons, h, mset_at l k u v]
omit tb in
theorem mset_keyAt : ∀ (l : List (κ × Value)) (k : κ) (u : Value), (mset l k u)[mpos l k]? = some (k, u)
  | [], k, u => rfl
  | (q, x) :: l, k, u => by
    by_cases h : q = k
    · simp [mset_cons, mpos_cons, h]
    · simp [mset_cons, mpos_cons, h, mset_keyAt l k u]
omit tb in
theorem findIdx?_mpos : ∀ {l : List (κ × Value)} {k : κ} {j : Nat}, (l.map (·.1)).findIdx? (fun x => decide (x = k)) = some j → mpos l k = j
  | [], k, j, h => by simp at h
  | (q, x) :: l, k, j, h => by
    simp only [List.map_cons, List.findIdx?_cons] at h
    rw [mpos_cons]
    by_cases hq : q = k
    · simp [hq] at h; subst h; simp [hq]
    · simp [hq] at h
      obtain ⟨i, hi, rfl⟩ := h
      rw [if_neg hq, findIdx?_mpos (l := l) (j := i) (by simpa using hi)]
omit tb in
theorem mpos_none : ∀ {l : List (κ × Value)} {k : κ}, (l.map (·.1)).findIdx? (fun x => decide (x = k)) = none → mpos l k = l.length
  | [], k, _ => rfl
  | (q, u) :: l, k, h => by
    simp only [List.map_cons, List.findIdx?_cons] at h
    rw [mpos_cons]
    by_cases hq : q = k
    · simp [hq] at h
    · simp [hq] at h
      rw [if_neg hq, mpos_none (by simpa using h)]; rfl

theorem PO.mapEntry {x i : Operand} {t kt el b : Nat} {e e' : TE} {k : κ} {l : List (κ × Value)} {u : Value} (ho : op = .mapEntry t x i) (hx : env.get x = some (.map (some b))) (ht : tb.T t = some e) (hu : e.und = .map kt el) (he : tb.T el = some e')
    [p : PullMap b H enc l R] (hi : env.get i = some (enc k)) (law : KeyLaw P kt enc) (hz : (mget l k).getD e'.zero = u) (hd : Nat.blt d n = true)
    (kk : ∀ s : Nat, PO w0 n ((d, .tuple #[u, .int .i64 s]) :: env) (omapAt enc b (mset l k u) (mpos l k) s * R) (wpList P ops Q rest)) : PO w0 n env H (wpList P ops Q (⟨some d, op, ty, pos, af, none⟩ :: rest)) := by
  intro a w ha hw
  obtain ⟨es, clock, h1, h2, h3, hb, hw'⟩ := (hw.ent p.ent).map
  have hk : es.map (·.key) = (l.map (·.1)).map enc := by
    have := congrArg (List.map Prod.fst) h1
    simpa [List.map_map, Function.comp_def] using this
  have hf := law.find k es (l.map (·.1)) w hk
  have hfm := find_mget (enc := enc) k h1
  have hrun : ∃ (s : Nat) (w' : World), (Instr.mapEntry t (.map (some b)) (enc k)).run P w = .ok (.tuple #[u, .int .i64 s]) w' ∧ Holds w0 (omapAt enc b (mset l k u) (mpos l k) s * R) w' := by
    unfold Instr.mapEntry
    simp only [Sem.run_bind, run_und ht, hu, Result.andThen_ok, getObj, Sem.run, hb, law.check]
    rw [hf]
    cases hj : (l.map (·.1)).findIdx? (fun x => decide (x = k)) with
    | none =>
      have hg : mget l k = none := by
        rw [mget_none]
        intro hm
        rw [List.findIdx?_eq_none_iff] at hj
        have := hj k hm
        simp at this
      rw [hg] at hz
      simp only [Option.getD_none] at hz
      simp only [Option.bind_none, Result.andThen_ok, Sem.run_bind, run_zero he, run_setObj_map hb, Sem.run_pure, hz]
      refine ⟨clock, _, rfl, (hw'.setObj (o' := .map (es.toArray.push ⟨enc k, u, clock⟩) (clock + 1))).ent (Ent.star ?_ (Ent.refl _))⟩
      have hlen : es.length = l.length := by simpa using congrArg List.length h1
      rw [mset_new u hj, List.push_toArray, mpos_none hj]
      refine omapAt_intro (by simp [h1]) ?_ ⟨?_, ?_⟩ ?_
      · rw [← mset_new u hj]; exact nodup_mset h2 k u
      · simp only [List.map_append, List.map_cons, List.map_nil]
        rw [List.nodup_append]
        refine ⟨h3.1, by simp, ?_⟩
        intro x hx' y hy'
        simp at hy'; subst hy'
        obtain ⟨e, he, rfl⟩ := List.mem_map.1 hx'
        exact Nat.ne_of_lt (h3.2 e he)
      · intro e he
        simp only [List.mem_append, List.mem_singleton] at he
        rcases he with he | rfl
        · exact Nat.lt_succ_of_lt (h3.2 e he)
        · exact Nat.lt_succ_self _
      · rw [← hlen]; simp
    | some j =>
      have hlt : j < es.length := by
        have h4 := (List.findIdx?_eq_some_iff_getElem.1 hj).1
        have h5 := congrArg List.length hk
        simp at h4 h5; omega
      have hkey : (es[j]).key = enc k := by
        have h4 := (List.findIdx?_eq_some_iff_getElem.1 hj).2.1
        have h6 : (es.map (·.key))[j]? = ((l.map (·.1)).map enc)[j]? := by rw [hk]
        have h7 : j < (l.map (·.1)).length := (List.findIdx?_eq_some_iff_getElem.1 hj).1
        simp [hlt] at h6
        have h7' : j < l.length := by simpa using h7
        have h8 : l[j]? = some l[j] := by simp [h7']
        rw [h8] at h6
        simp at h6
        have h9 : l[j].1 = k := by simpa using h4
        rw [h6, h9]
      have hge : es.toArray[j]? = some es[j] := by simp [hlt]
      have hval : (es[j]).val = u := by
        rw [hj] at hfm
        simp only [Option.bind_some, List.getElem?_eq_getElem hlt, Option.map_some] at hfm
        cases hm : mget l k with
        | none => rw [hm] at hfm; simp at hfm
        | some v' =>
          rw [hm] at hfm hz
          simp at hfm hz
          rw [hfm, hz]
      simp only [Option.bind_some, Result.andThen_ok, hlt, List.getElem?_eq_getElem, Option.map_some, Option.getD_some, hge, hkey]
      have hst : (Instr.keyThatStays (enc k) (enc k)).run P w = .ok (enc k) w := by simp [Instr.keyThatStays, law.bits]
      simp only [Sem.run_bind, hst, Result.andThen_ok, run_setObj_map hb, Sem.run_pure, hval, goInt]
      refine ⟨es[j].born, _, rfl, (hw'.setObj (o' := .map (es.toArray.modify j fun e => { e with key := enc k }) clock)).ent (Ent.star ?_ (Ent.refl _))⟩
      have heq : (es.toArray.modify j fun e => { e with key := enc k }) = (es.modify j fun e => { e with key := enc k, val := u }).toArray := by
        rw [List.modify_toArray]
        congr 1
        apply List.ext_getElem?
        intro i
        simp only [List.getElem?_modify]
        by_cases hij : j = i
        · subst hij
          simp [hlt, hval]
        · simp [hij]
      rw [heq, findIdx?_mpos hj]
      refine omapAt_intro (mset_there u h1 hj) (nodup_mset h2 k u) (born_modify _ _ h3) ?_
      simp [hlt]
  obtain ⟨s, w', hr, hw2⟩ := hrun
  refine wpList_plain rfl fun K hK => ?_
  unfold Oper.wp
  have : (execOp a.eval ⟨some d, op, ty, pos, af, none⟩).run P w = .ok (.value (.tuple #[u, .int .i64 s])) w' := by
    subst ho
    simp [execOp, ha.eval hx, ha.eval hi, hr]
  rw [this]
  exact hK _ _ (kk s _ w' (ha.put (dst := some d) hd _) hw2)

omit tb [DecidableEq κ] in
theorem PO.entryStore {x i y : Operand} {t b j s : Nat} {k : κ} {u v : Value} {l : List (κ × Value)} (ho : op = .entryStore t x i y) (hx : env.get x = some (.map (some b))) (hi : env.get i = some (.int .i64 s)) (hy : env.get y = some v)
    [p : PullMapAt b H enc l j s R] (hl : l[j]? = some (k, u)) (kk : PO w0 n env (omap enc b (l.set j (k, v)) * R) (wpList P ops Q rest)) : PO w0 n env H (wpList P ops Q (⟨none, op, ty, pos, af, none⟩ :: rest)) := by
  intro a w ha hw
  obtain ⟨es, hw1⟩ := (hw.ent p.ent).ex_star
  obtain ⟨clock, hw1⟩ := hw1.ex_star
  have hw2 := hw1.ent (Ent.assoc _ _ _)
  obtain ⟨h1, h2, h3, h4⟩ := hw2.pur
  have hw' := hw2.ent (Ent.right _ _)
  have hb := hw'.blk.2
  obtain ⟨ee, hee, hs⟩ := Option.map_eq_some_iff.1 h4
  have hjlt : j < es.length := by
    rcases Nat.lt_or_ge j es.length with h | h
    · exact h
    · simp [List.getElem?_eq_none h] at hee
  have hej : es[j] = ee := by simpa [hjlt] using hee
  have hfi : es.toArray.findIdx? (fun e => (e.born : Int) == (s : Int)) = some j := by
    rw [List.findIdx?_toArray, List.findIdx?_eq_some_iff_getElem]
    refine ⟨hjlt, by simp [hej, hs], fun i hi => ?_⟩
    have hne : (es.map (·.born))[i]? ≠ (es.map (·.born))[j]? := by
      intro heq
      have hi' : i < es.length := by omega
      have := (List.getElem?_inj (by simpa using hi') h3.1).1 heq
      omega
    have hi' : i < es.length := by omega
    simp [hi', hjlt, hej, hs] at hne
    simpa using fun e => hne (by omega)
  have hrun : ∃ w', (Instr.entryStore t (.map (some b)) (.int .i64 s) v).run P w = .ok () w' ∧ Holds w0 (omap enc b (l.set j (k, v)) * R) w' := by
    unfold Instr.entryStore
    simp only [Sem.run_bind, getObj, Sem.run, hb, asInt, asIntOf, Sem.run_pure, Result.andThen_ok, hfi]
    simp only [run_setObj_map hb]
    refine ⟨_, rfl, (hw'.setObj (o' := .map (es.toArray.modify j fun e => { e with val := v }) clock)).ent (Ent.star ?_ (Ent.refl _))⟩
    rw [List.modify_toArray]
    refine omap_intro ?_ ?_ ?_
    · apply List.ext_getElem?
      intro i
      have h1i : (es.map (fun e => (e.key, e.val)))[i]? = (l.map (fun p => (enc p.1, p.2)))[i]? := by rw [h1]
      simp only [List.getElem?_map, List.getElem?_modify, List.getElem?_set] at h1i ⊢
      by_cases hij : j = i
      · subst hij
        have hll : j < l.length := by
          rcases Nat.lt_or_ge j l.length with h | h
          · exact h
          · simp [List.getElem?_eq_none h] at hl
        simp only [hee, hl, Option.map_some, Option.some.injEq, Prod.mk.injEq] at h1i
        simp [hee, hll, h1i.1]
      · simp [hij, h1i]
    · have : (l.set j (k, v)).map (·.1) = l.map (·.1) := by
        apply List.ext_getElem?
        intro i
        simp only [List.getElem?_map, List.getElem?_set]
        by_cases hij : j = i
        · subst hij
          simp only [if_true, hl]
          split <;> simp_all
        · simp [hij]
      rw [this]; exact h2
    · refine ⟨?_, ?_⟩
      · have : (es.modify j fun e => { e with val := v }).map (·.born) = es.map (·.born) := by
          apply List.ext_getElem?
          intro i
          simp only [List.getElem?_map, List.getElem?_modify]
          by_cases hij : j = i
          · subst hij; cases es[j]? <;> simp
          · simp [hij]
        rw [this]; exact h3.1
      · intro e he
        obtain ⟨i, hi, rfl⟩ := List.mem_iff_getElem.1 he
        simp only [List.length_modify] at hi
        rw [List.getElem_modify]
        split
        · show (es[i]).born < clock
          exact h3.2 _ (List.getElem_mem _)
        · exact h3.2 _ (List.getElem_mem _)
  obtain ⟨w', hr, hw3⟩ := hrun
  refine wpList_plain rfl fun K hK => ?_
  unfold Oper.wp
  have : (execOp a.eval ⟨none, op, ty, pos, af, none⟩).run P w = .ok .skip w' := by
    subst ho
    simp [execOp, ha.eval hx, ha.eval hi, ha.eval hy, hr]
  rw [this]
  exact hK _ _ (kk a w' ha hw3)
end Go.Sl
