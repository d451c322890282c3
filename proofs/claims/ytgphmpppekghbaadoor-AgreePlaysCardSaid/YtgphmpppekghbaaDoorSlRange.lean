/- 'for k, v := range m' where the round lays nothing into the map. -/
import Derived.Test.YtgphmpppekghbaaDoorSlOwn
import Derived.Maps.RangeRun
namespace Go.Sl
open Go.RowKit
variable {P : Program} [tb : Tabs P] {κ : Type} {enc : κ → Value} {w0 w : World} {H R : HProp} {n : Nat} {env : Env} {o : Oper} {ops : Array Oper} {rest : List Oper} {Q : Exit → Act → World → Prop}
  {d : Tmp} {op : Op} {ty : TypeId} {pos : String} {af : Array Edge}

/-- The entries that have not been met. -/
def unmet (es : List MapEntry) (seen : Array Nat) : List MapEntry := es.filter fun e => !seen.contains e.born
/-- What an iteration under way is: 'l' is in the map at 'b', 'left' is still to come, 'last' came last. -/
def IterOk (enc : κ → Value) (l left : List (κ × Value)) (last : Option (κ × Value)) (es : List MapEntry) (clock since : Nat) (seen : Array Nat) (c0 : Nat) : Prop :=
  (es.map (fun e => (e.key, e.val)) = l.map (fun p => (enc p.1, p.2)) ∧ (l.map (·.1)).Nodup ∧ BornOk es clock) ∧ (∀ e ∈ es, e.born < since) ∧ since ≤ c0 ∧ since ≤ clock ∧
  (unmet es seen).map (fun e => (e.key, e.val)) = left.map (fun p => (enc p.1, p.2)) ∧
  (∀ p, last = some p → c0 = clock ∧ ∃ (e : MapEntry) (s : Array Nat), e ∈ es ∧ seen = s.push e.born ∧ e.key = enc p.1 ∧ e.val = p.2)
def iter (enc : κ → Value) (b r : Nat) (l left : List (κ × Value)) (last : Option (κ × Value)) : HProp :=
  ex fun es : List MapEntry => ex fun clock : Nat => ex fun since : Nat => ex fun seen : Array Nat => ex fun c0 : Nat =>
    pur (IterOk enc l left last es clock since seen c0) * (blk b (.map es.toArray clock) * blk r (.mapIter (some b) since seen c0))
omit tb in
theorem Holds.iter {b r : Nat} {l left : List (κ × Value)} {last : Option (κ × Value)} (h : Holds w0 (Sl.iter enc b r l left last * H) w) : ∃ es clock since seen c0, IterOk enc l left last es clock since seen c0 ∧ Holds w0 (Sl.blk r (.mapIter (some b) since seen c0) * (Sl.blk b (.map es.toArray clock) * H)) w := by
  obtain ⟨es, h⟩ := h.ex_star
  obtain ⟨clock, h⟩ := h.ex_star
  obtain ⟨since, h⟩ := h.ex_star
  obtain ⟨seen, h⟩ := h.ex_star
  obtain ⟨c0, h⟩ := h.ex_star
  have h' := h.ent (Ent.assoc _ _ _)
  exact ⟨es, clock, since, seen, c0, h'.pur, (h'.ent (Ent.right _ _)).ent ((Ent.star (Ent.comm _ _) (Ent.refl _)).trans (Ent.assoc _ _ _))⟩
omit tb in
theorem iter_intro {b r : Nat} {l left : List (κ × Value)} {last : Option (κ × Value)} {es : List MapEntry} {clock since : Nat} {seen : Array Nat} {c0 : Nat} (h : IterOk enc l left last es clock since seen c0) :
    Ent (blk r (.mapIter (some b) since seen c0) * (blk b (.map es.toArray clock) * R)) (iter enc b r l left last * R) :=
  (Ent.assoc' _ _ _).trans (Ent.star ((Ent.comm _ _).trans fun _ hb => ⟨es, clock, since, seen, c0, Ent.star_pur _ h _ hb⟩) (Ent.refl _))
omit tb in
theorem iter_omap {b r : Nat} {l left : List (κ × Value)} {last : Option (κ × Value)} : Ent (iter enc b r l left last) (omap enc b l) := fun h ⟨es, clock, _, _, _, hh⟩ =>
  ⟨es, clock, (Ent.pur_star (p := IterOk _ _ _ _ _ _ _ _ _) fun hp => Ent.frp (p := _ ∧ _ ∧ _) hp.1 (Ent.left _ _)) h hh⟩
class PullIter (r : Nat) (H : HProp) {κ : outParam Type} (enc : outParam (κ → Value)) (b : outParam Nat) (l left : outParam (List (κ × Value))) (last : outParam (Option (κ × Value))) (R : outParam HProp) : Prop where
  ent : Ent H (iter enc b r l left last * R)
instance (priority := 2000) PullIter.hereL (b r : Nat) (l left : List (κ × Value)) (last : Option (κ × Value)) (R : HProp) : PullIter r (iter enc b r l left last * R) enc b l left last R := ⟨Ent.refl _⟩
instance (priority := 1900) PullIter.hereR (b r : Nat) (l left : List (κ × Value)) (last : Option (κ × Value)) (L : HProp) : PullIter r (L * iter enc b r l left last) enc b l left last L := ⟨Ent.comm _ _⟩
instance (priority := 1800) PullIter.here (b r : Nat) (l left : List (κ × Value)) (last : Option (κ × Value)) : PullIter r (iter enc b r l left last) enc b l left last emp := ⟨Ent.star_emp _⟩
instance (priority := 1000) PullIter.goL (b r : Nat) (l left : List (κ × Value)) (last : Option (κ × Value)) (L R L' : HProp) [p : PullIter r L enc b l left last L'] : PullIter r (L * R) enc b l left last (L' * R) :=
  ⟨(Ent.star p.ent (Ent.refl _)).trans (Ent.assoc _ _ _)⟩
instance (priority := 900) PullIter.goR (b r : Nat) (l left : List (κ × Value)) (last : Option (κ × Value)) (L R R' : HProp) [p : PullIter r R enc b l left last R'] : PullIter r (L * R) enc b l left last (L * R') :=
  ⟨(Ent.star (Ent.refl _) p.ent).trans (Ent.swap _ _ _)⟩

theorem PO.range [DecidableEq κ] {x : Operand} {t kt el b : Nat} {e : TE} {l : List (κ × Value)} (ho : op = .range t x) (hx : env.get x = some (.map (some b))) (ht : tb.T t = some e) (hu : e.und = .map kt el) [p : PullMap b H enc l R] (hd : Nat.blt d n = true)
    (k : ∀ r, PO w0 n ((d, .pointer (some ⟨r, 0, none⟩)) :: env) (iter enc b r l l none * R) (wpList P ops Q rest)) : PO w0 n env H (wpList P ops Q (⟨some d, op, ty, pos, af, none⟩ :: rest)) := by
  intro a w ha hw
  obtain ⟨es, clock, h1, h2, h3, hb, hw'⟩ := (hw.ent p.ent).map
  refine wpList_plain rfl fun K hK => ?_
  unfold Oper.wp
  subst ho
  have : (execOp a.eval ⟨some d, .range t x, ty, pos, af, none⟩).run P w = .ok (.value (.pointer (some ⟨w.heap.size, 0, none⟩))) (w.alloc (.mapIter (some b) clock #[] clock)) := by
    simp [execOp, ha.eval hx, Instr.range, run_und ht, hu, getObj, Sem.run, hb, newObj]
  rw [this]
  refine hK _ _ (k w.heap.size _ _ (ha.put (dst := some d) hd _) ((hw'.alloc _).ent (iter_intro ⟨⟨h1, h2, h3⟩, h3.2, Nat.le_refl _, Nat.le_refl _, ?_, by simp⟩)))
  have : unmet es #[] = es := by unfold unmet; simp
  rw [this]; exact h1
omit tb in
theorem unmet_push {es : List MapEntry} {seen : Array Nat} {e : MapEntry} {L1 L2 : List MapEntry} (hn : (es.map (·.born)).Nodup) (h : unmet es seen = L1 ++ e :: L2) : unmet es (seen.push e.born) = L1 ++ L2 := by
  have h1 : unmet es (seen.push e.born) = (unmet es seen).filter fun x => decide (x.born ≠ e.born) := by
    unfold unmet
    rw [List.filter_filter]
    apply List.filter_congr
    intro x _
    by_cases hx : x.born = e.born <;> simp [hx]
  have hn2 : ((unmet es seen).map (·.born)).Nodup := hn.sublist ((List.filter_sublist).map _)
  rw [h1, h]
  rw [h] at hn2
  simp only [List.map_append, List.map_cons] at hn2
  rw [List.nodup_append] at hn2
  obtain ⟨_, n2, n3⟩ := hn2
  rw [List.nodup_cons] at n2
  rw [List.filter_append, List.filter_cons]
  have e1 : L1.filter (fun x => decide (x.born ≠ e.born)) = L1 := List.filter_eq_self.2 fun x hx => by
    have := n3 x.born (List.mem_map.2 ⟨x, hx, rfl⟩) e.born (by simp)
    simpa using this
  have e2 : L2.filter (fun x => decide (x.born ≠ e.born)) = L2 := List.filter_eq_self.2 fun x hx => by
    have : x.born ≠ e.born := fun hh => n2.1 (hh ▸ List.mem_map.2 ⟨x, hx, rfl⟩)
    simpa using this
  rw [e1, e2]; simp
omit tb in
theorem PO.next {x : Operand} {b r : Nat} {l left : List (κ × Value)} {last : Option (κ × Value)} (ho : op = .next x false) (hx : env.get x = some (.pointer (some ⟨r, 0, none⟩))) [p : PullIter r H enc b l left last R] (hd : Nat.blt d n = true)
    (done : left = [] → PO w0 n ((d, .tuple #[.bool false]) :: env) (omap enc b l * R) (wpList P ops Q rest))
    (more : ∀ l1 k v l2, left = l1 ++ (k, v) :: l2 → PO w0 n ((d, .tuple #[.bool true, enc k, v]) :: env) (iter enc b r l (l1 ++ l2) (some (k, v)) * R) (wpList P ops Q rest)) : PO w0 n env H (wpList P ops Q (⟨some d, op, ty, pos, af, none⟩ :: rest)) := by
  intro a w ha hw
  obtain ⟨es, clock, since, seen, c0, hI, hw'⟩ := (hw.ent p.ent).iter
  obtain ⟨hm, hold, hsc, hsk, hleft, hlast⟩ := hI
  have hr := hw'.blk.2
  have hb : w.heap[b]? = some (.map es.toArray clock) := (hw'.ent (Ent.right _ _)).blk.2
  have hlo : (leftOf es.toArray seen).toList = unmet es seen := by unfold leftOf unmet; simp
  refine wpList_plain rfl fun K hK => ?_
  unfold Oper.wp
  subst ho
  rcases run_next_at (P := P) w ty r b since c0 seen es.toArray clock hr hb (by simpa using hold) hsc with ⟨h0, hrun⟩ | ⟨e, he, w1, hal, hrun⟩
  · have : (execOp a.eval ⟨some d, .next x false, ty, pos, af, none⟩).run P w = .ok (.value (.tuple #[.bool false])) w := by
      simp [execOp, ha.eval hx, hrun]
    rw [this]
    have hl : left = [] := by
      have : unmet es seen = [] := by rw [← hlo]; exact List.length_eq_zero_iff.1 (by simpa using h0)
      rw [this] at hleft
      simpa using hleft.symm
    exact hK _ _ (done hl _ w (ha.put (dst := some d) hd _) ((hw.ent p.ent).ent (Ent.star iter_omap (Ent.refl _))))
  · have : (execOp a.eval ⟨some d, .next x false, ty, pos, af, none⟩).run P w = .ok (.value (.tuple #[.bool true, e.key, e.val])) (ChangeMaps.setBlock w1 r (.mapIter (some b) since (seen.push e.born) clock)) := by
      simp [execOp, ha.eval hx, hrun]
    rw [this]
    rw [hlo] at he
    obtain ⟨L1, L2, hL⟩ := List.append_of_mem he
    have hem : e ∈ es := (List.mem_filter.1 he).1
    rw [hL] at hleft
    rw [List.map_append, List.map_cons] at hleft
    obtain ⟨l1, r1, e1, e2, e3⟩ := List.map_eq_append_iff.1 hleft.symm
    obtain ⟨q, l2, e4, e5, e6⟩ := List.map_eq_cons_iff.1 e3
    obtain ⟨k, v⟩ := q
    simp only [Prod.mk.injEq] at e5
    have hw1 : Holds w0 (Sl.blk r (.mapIter (some b) since seen c0) * (Sl.blk b (.map es.toArray clock) * R)) w1 := by rcases hal with rfl | rfl; exact hw'; exact hw'.drew
    have key := more l1 k v l2 (by rw [e1, e4])
    rw [e5.1, e5.2] at key
    refine hK _ _ (key _ _ (ha.put (dst := some d) hd _) ((hw1.setObj (o' := .mapIter (some b) since (seen.push e.born) clock)).ent (iter_intro ⟨hm, hold, hsk, hsk, ?_, ?_⟩)))
    · rw [unmet_push hm.2.2.1 hL]
      simp [e2, e6]
    · intro p hp
      obtain rfl := Option.some.inj hp
      exact ⟨rfl, e, seen, hem, rfl, e5.1.symm, rfl⟩
omit tb in
theorem OpV.entry {x : Operand} {b r : Nat} {l left : List (κ × Value)} {k : κ} {v : Value} (ho : o.op = .entry x) (hx : env.get x = some (.pointer (some ⟨r, 0, none⟩))) [p : PullIter r H enc b l left (some (k, v)) R] : OpV P w0 n env H o (.tuple #[enc k, v]) := fun a w ha hw => by
  obtain ⟨es, clock, since, seen, c0, hI, hw'⟩ := (hw.ent p.ent).iter
  obtain ⟨hm, hold, hsc, hsk, hleft, hlast⟩ := hI
  obtain ⟨rfl, e, s, hem, rfl, e1, e2⟩ := hlast (k, v) rfl
  have hr := hw'.blk.2
  have hb : w.heap[b]? = some (.map es.toArray c0) := (hw'.ent (Ent.right _ _)).blk.2
  have := run_entry_at (P := P) w r b since s es.toArray c0 e hr hb (by simpa using hem) (by simpa using hm.2.2.1)
  simp [execOp, ho, ha.eval hx, this, e1, e2]

/-! ### Structs and arrays compared -/
omit tb in
theorem eqGuard_agg {op : BinOp} {t : TypeId} (x y : Operand) (u v : Array Value) (h : P.eqGuardType P.depth t = false) (w : World) : (eqGuard op t x y (.agg u) (.agg v)).run P w = .ok () w := by
  unfold eqGuard
  cases op <;> simp [program, Sem.run, h]
omit tb in
theorem OpV.eql_agg {x y : Operand} {t t' : TypeId} {u v : Array Value} {b : Bool} (ho : o.op = .binOp .eql t x y t') (hx : env.get x = some (.agg u)) (hy : env.get y = some (.agg v)) (hg : P.eqGuardType P.depth t = false)
    (hq : ∀ w, (Op.equal t (.agg u) (.agg v)).run P w = .ok b w) : OpV P w0 n env H o (.bool b) := fun a w ha _ => by
  have h2 : (binOp .eql t (.agg u) (.agg v)).run P w = .ok (.bool b) w := by
    unfold binOp
    split <;> simp_all
  simp [execOp, ho, ha.eval hx, ha.eval hy, eqGuard_agg x y u v hg w, h2]
omit tb in
theorem OpV.neq_agg {x y : Operand} {t t' : TypeId} {u v : Array Value} {b : Bool} (ho : o.op = .binOp .neq t x y t') (hx : env.get x = some (.agg u)) (hy : env.get y = some (.agg v)) (hg : P.eqGuardType P.depth t = false)
    (hq : ∀ w, (Op.equal t (.agg u) (.agg v)).run P w = .ok b w) : OpV P w0 n env H o (.bool !b) := fun a w ha _ => by
  have h2 : (binOp .neq t (.agg u) (.agg v)).run P w = .ok (.bool !b) w := by
    unfold binOp
    split <;> simp_all
  simp [execOp, ho, ha.eval hx, ha.eval hy, eqGuard_agg x y u v hg w, h2]
end Go.Sl
