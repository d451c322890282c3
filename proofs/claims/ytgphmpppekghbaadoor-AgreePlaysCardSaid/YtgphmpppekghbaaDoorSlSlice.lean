/- Slices that are owned; append. -/
import Derived.Test.YtgphmpppekghbaaDoorSlMap2
import Derived.Laws.AppendOwn
namespace Go.Sl
open Go.RowKit

def alt (A B : HProp) : HProp := ⟨fun h => A.sat h ∨ B.sat h, fun l h => h.imp (A.up l) (B.up l)⟩
theorem Ent.alt_l {A B C : HProp} (h : Ent C A) : Ent C (alt A B) := fun x e => .inl (h x e)
theorem Ent.alt_r {A B C : HProp} (h : Ent C B) : Ent C (alt A B) := fun x e => .inr (h x e)
theorem Ent.alt_elim {A B C : HProp} (h : Ent A C) (k : Ent B C) : Ent (alt A B) C := fun x e => e.elim (h x) (k x)
theorem Ent.alt_star {A B C : HProp} : Ent (alt A B * C) (alt (A * C) (B * C)) :=
  fun _ ⟨h1, h2, a, l1, l2, e1, e2⟩ => e1.elim (fun e => .inl ⟨h1, h2, a, l1, l2, e, e2⟩) (fun e => .inr ⟨h1, h2, a, l1, l2, e, e2⟩)
theorem Holds.alt {w0 w : World} {A B : HProp} (h : Holds w0 (Sl.alt A B) w) : Holds w0 A w ∨ Holds w0 B w := h.sat.imp (fun e => ⟨h.below, e⟩) (fun e => ⟨h.below, e⟩)

/-- How elements are laid: always in 'k' cells, each one cell. -/
structure Enc {α : Type} (k : Nat) (enc : α → List Value) : Prop where
  len : ∀ x, (enc x).length = k
  one : ∀ x, ∀ v ∈ enc x, v.oneCell' = true
theorem Enc.flat {α : Type} {k : Nat} {enc : α → List Value} (h : Enc k enc) (xs : List α) : (xs.flatMap enc).length = xs.length * k := by
  induction xs with
  | nil => simp
  | cons x xs ih => simp [h.len, ih, Nat.succ_mul, Nat.add_comm]
theorem Enc.ones {α : Type} {k : Nat} {enc : α → List Value} (h : Enc k enc) (xs : List α) : ∀ v ∈ xs.flatMap enc, v.oneCell' = true := by
  intro v hv
  obtain ⟨x, _, hx⟩ := List.mem_flatMap.1 hv
  exact h.one x v hx
theorem Enc.get {α : Type} {k : Nat} {enc : α → List Value} (h : Enc k enc) : ∀ {xs : List α} {j : Nat} {x : α} {i : Nat} {u : Value}, xs[j]? = some x → (enc x)[i]? = some u → (xs.flatMap enc)[j * k + i]? = some u
  | [], j, x, i, u, h1, _ => by simp at h1
  | y :: xs, 0, x, i, u, h1, h2 => by
    simp at h1; subst h1
    have hi : i < (enc y).length := by
      rcases Nat.lt_or_ge i (enc y).length with h | h
      · exact h
      · simp [List.getElem?_eq_none h] at h2
    simp only [Nat.zero_mul, Nat.zero_add, List.flatMap_cons]
    rw [List.getElem?_append_left hi]; exact h2
  | y :: xs, j + 1, x, i, u, h1, h2 => by
    have ih := Enc.get h (xs := xs) (j := j) (by simpa using h1) h2
    simp only [List.flatMap_cons]
    rw [List.getElem?_append_right (by rw [h.len, Nat.succ_mul]; omega), h.len]
    rw [show (j + 1) * k + i - k = j * k + i by rw [Nat.succ_mul]; omega]; exact ih
theorem encI_ok : Enc 1 encI := ⟨fun _ => rfl, fun x v h => by simp at h; subst h; rfl⟩

/-- A slice that is owned: 'v' has the elements 'xs', of type 'T', in 'k' cells each. -/
def osl {α : Type} (T : TypeId) (k : Nat) (enc : α → List Value) (v : Value) (xs : List α) : HProp :=
  alt (pur (v = .slice none 0 0 ∧ xs = []))
    (ex fun b : Nat => ex fun pre : List Value => ex fun post : List Value => ex fun m : Nat =>
      pur (v = .slice (some ⟨b, pre.length, none⟩) xs.length (xs.length + m) ∧ m * k ≤ post.length) * cels b (pre ++ xs.flatMap enc ++ post) T)
abbrev ints (v : Value) (T : TypeId) (xs : List Int) : HProp := osl T 1 encI v xs

variable {P : Program} {w0 w : World} {n : Nat} {env : Env} {H H' R : HProp} {v : Value} {α : Type} {T : TypeId} {k : Nat} {enc : α → List Value} {xs ys : List α}
theorem osl_nil : Ent H (osl T k enc (.slice none 0 0) ([] : List α)) := fun _ _ => .inl ⟨rfl, rfl⟩
theorem osl_intro {b : Nat} {pre post : List Value} {m : Nat} (hv : v = .slice (some ⟨b, pre.length, none⟩) xs.length (xs.length + m)) (hm : m * k ≤ post.length) : Ent (cels b (pre ++ xs.flatMap enc ++ post) T) (osl T k enc v xs) :=
  fun h hb => .inr ⟨b, pre, post, m, (Ent.frp (p := _ ∧ _) ⟨hv, hm⟩ (Ent.refl _)) h hb⟩
theorem Holds.osl (h : Holds w0 (osl T k enc v xs * R) w) : (v = .slice none 0 0 ∧ xs = []) ∨ ∃ b pre post m, v = .slice (some ⟨b, pre.length, none⟩) xs.length (xs.length + m) ∧ m * k ≤ post.length ∧ Holds w0 (cels b (pre ++ xs.flatMap enc ++ post) T * R) w := by
  rcases (h.ent Ent.alt_star).alt with h | h
  · exact .inl h.pur
  · obtain ⟨b, h⟩ := h.ex_star
    obtain ⟨pre, h⟩ := h.ex_star
    obtain ⟨post, h⟩ := h.ex_star
    obtain ⟨m, h⟩ := h.ex_star
    have h' := h.ent (Ent.assoc _ _ _)
    obtain ⟨h1, h2⟩ := h'.pur
    exact .inr ⟨b, pre, post, m, h1, h2, h'.ent (Ent.right _ _)⟩
/-- What is owned can be read. -/
theorem PO.osl_read {φ : Act → World → Prop} (he : Enc k enc) (p : Ent H (osl T k enc v xs * R)) (h : Elems w0 H k enc v xs → PO w0 n env H φ) : PO w0 n env H φ := by
  intro a w ha hw
  refine h ?_ a w ha hw
  rcases (hw.ent p).osl with ⟨h1, h2⟩ | ⟨b, pre, post, m, h1, h2, h3⟩
  · rw [h1, h2]; exact Elems.nil
  · refine ⟨_, _, h1, fun j x hj => ⟨b, pre.length, rfl, fun w' hw' i u hu => ?_⟩⟩
    rcases (hw'.ent p).osl with ⟨g1, g2⟩ | ⟨b', pre', post', m', g1, g2, g3⟩
    · rw [g1] at h1; cases h1
    · rw [g1] at h1
      simp only [Value.slice.injEq, Option.some.injEq, Addr.mk.injEq, and_true] at h1
      obtain ⟨⟨rfl, e⟩, _⟩ := h1
      rw [g3.cell, ← e]
      have := he.get hj hu
      have hlt : j * k + i < (xs.flatMap enc).length := by
        rcases Nat.lt_or_ge (j * k + i) (xs.flatMap enc).length with h | h
        · exact h
        · simp [List.getElem?_eq_none h] at this
      rw [List.getElem?_toArray, Nat.add_assoc, List.append_assoc, List.getElem?_append_right (by omega), Nat.add_sub_cancel_left, List.getElem?_append_left hlt]
      exact this

theorem nextslicecap_le {need cap : Nat} (h : cap < need) : Builtin.nextslicecap need cap ≤ 2 * need := by
  have key : ∀ r c, 256 ≤ c → c ≤ 2 * need → Builtin.growBy need r c ≤ 2 * need := by
    intro r
    induction r with
    | zero => intro c _ hc; simpa [Builtin.growBy] using hc
    | succ r ih =>
      intro c h1 h2
      unfold Builtin.growBy
      split
      · exact h2
      · exact ih _ (by omega) (by omega)
  unfold Builtin.nextslicecap
  split
  · omega
  · split
    · omega
    · exact key 4 cap (by omega) (by omega)
theorem zeroCells_toList (z : Array Value) (n : Nat) : (Builtin.zeroCells z n).toList.length = n * z.size := by simp [Builtin.zeroCells]

variable [tb : Tabs P]
/-- What append does. -/
theorem run_append_osl {t T : TypeId} {e e' : TE} {m c : Nat} {p : Option Addr} {news : List Value} {ty : TypeId} (ht : tb.T t = some e) (hu : e.und = .slice T) (he' : tb.T T = some e') (hk : e'.size = k) (hz : e'.zero.cells.size = k)
    (he : Enc k enc) (hn : ys.flatMap enc = news) (hm : ys.length = m) (hb : (xs.length + m) * (2 * e'.bytes) ≤ 281474976710656) (h63 : xs.length + m < 9223372036854775808)
    (hw : Holds w0 (osl T k enc v xs * R) w) (hr : ∀ j u, news[j]? = some u → ∃ b o, p = some ⟨b, o, none⟩ ∧ w.cell? ⟨b, o + j, none⟩ = some u) :
    ∃ v' w', (Builtin.append_ #[t, t] ty #[v, .slice p m c]).run P w = .ok v' w' ∧ Holds w0 (osl T k enc v' (xs ++ ys) * R) w' := by
  have hnl : news.length = m * k := by rw [← hn, he.flat, hm]
  have hfirst : ∀ (w' : World), (∀ j u, news[j]? = some u → ∃ b o, p = some ⟨b, o, none⟩ ∧ w'.cell? ⟨b, o + j, none⟩ = some u) → (Builtin.firstCells k m (.slice p m c)).run P w' = .ok news.toArray w' := by
    intro w' hr'
    cases p with
    | none =>
      have : news = [] := by
        cases news with
        | nil => rfl
        | cons u r => obtain ⟨b, o, h, _⟩ := hr' 0 u rfl; cases h
      subst this; simp [Builtin.firstCells]
    | some ad =>
      cases news with
      | nil =>
        have h0 : m * k = 0 := by simpa using hnl.symm
        simp [Builtin.firstCells, h0, loadCells, loadCellsFrom]
      | cons u r =>
        obtain ⟨b, o, h, _⟩ := hr' 0 u rfl
        obtain rfl := Option.some.inj h
        unfold Builtin.firstCells
        rw [← hnl]
        exact loadCells_run b o w' (u :: r) fun j x hj => by
          obtain ⟨b', o', h', hc⟩ := hr' j x hj
          obtain ⟨rfl, rfl, _⟩ := Addr.mk.inj (Option.some.inj h')
          exact hc
  obtain ⟨i', hi1, hi2, hi3, hi4⟩ := run_info (P := P) he' w
  have hinfo : ∀ w', (typeInfo T).run P w' = .ok i' w' := by
    intro w'
    obtain ⟨i2, g1, g2⟩ := (tb.ok T e' he').info
    have : i' = i2 := by simpa [typeInfo, g1] using hi1.symm
    simp [typeInfo, g1, this]
  have hnotint : ∀ kd, e.und ≠ .int kd := by intro kd h; rw [hu] at h; cases h
  -- the frame of the operation
  have step : ∀ (base : Option Addr) (sLen sCap : Nat), v = .slice base sLen sCap → sLen = xs.length → (Builtin.append_ #[t, t] ty #[v, .slice p m c]).run P w =
      if sLen + m ≤ sCap then
        ((Builtin.firstCells k m (.slice p m c)).run P w).andThen fun new w1 => ((match base with | some a => storeCells (a.add (sLen * k)) new.toList | none => pure ()).run P w1).andThen fun _ w2 => .ok (.slice base (sLen + m) sCap) w2
      else
        ((Builtin.firstCells k sLen v).run P w.drew).andThen fun old w1 => ((Builtin.firstCells k m (.slice p m c)).run P w1).andThen fun new w2 =>
          .ok (.slice (some ⟨w2.heap.size, 0, none⟩) (sLen + m) ((Question.appendCap (sLen + m) sCap T).cut (w.tape w.drawn (.appendCap (sLen + m) sCap T)))) (w2.alloc (.cells (old ++ new ++ Builtin.zeroCells e'.zero.cells ((Question.appendCap (sLen + m) sCap T).cut (w.tape w.drawn (.appendCap (sLen + m) sCap T)) - (sLen + m))) T)) := by
    intro base sLen sCap hv hsl
    subst hv
    unfold Builtin.append_
    simp only [List.getElem?_toArray, List.getElem?_cons_zero, List.getElem?_cons_succ, Sem.run_bind, run_und ht, hu, Result.andThen_ok, run_size he', hk, Sem.run_pure, Builtin.lenOf, if_false, Bool.false_eq_true]
    by_cases hle : sLen + m ≤ sCap
    · rw [if_pos hle, if_pos hle]
      simp only [Sem.run_bind, Bool.not_false, if_true, Result.andThen_ok]
      cases base <;> simp
    · rw [if_neg hle, if_neg hle]
      have hlt : sCap < sLen + m := by omega
      have hnx := nextslicecap_le hlt
      have hbig : ¬ ((sLen + m : Nat) : Int) > IntKind.i64.max := by
        have : IntKind.i64.max = 9223372036854775807 := by decide
        rw [this]; omega
      have hcap : ¬ Builtin.nextslicecap (sLen + m) sCap * i'.bytes > 2 ^ 48 := by
        rw [hi3]
        have : Builtin.nextslicecap (sLen + m) sCap * e'.bytes ≤ 2 * (sLen + m) * e'.bytes := Nat.mul_le_mul_right _ hnx
        have h2 : 2 * (sLen + m) * e'.bytes = (xs.length + m) * (2 * e'.bytes) := by rw [hsl]; simp [Nat.mul_comm, Nat.mul_left_comm, Nat.mul_assoc]
        omega
      have hforced : (Question.appendCap (sLen + m) sCap T).forced = false := rfl
      simp only [Sem.run_bind, Sem.run_ite, hinfo, Result.andThen_ok, Sem.run_pure, run_choose, hforced, if_false, Bool.false_eq_true, Bool.not_false, if_true, run_askRoom, hbig, false_and, if_neg hcap, World.drew_eq, run_zero he']
      simp [newRow, run_zero he', hcap]
  rcases hw.osl with ⟨h1, h2⟩ | ⟨b, pre, post, mm, h1, h2, h3⟩
  · subst h2
    rw [step none 0 0 h1 rfl]
    by_cases hm0 : 0 + m ≤ 0
    · rw [if_pos hm0]
      have : ys = [] := List.length_eq_zero_iff.1 (by omega)
      subst this
      have hn0 : news = [] := by rw [← hn]; rfl
      subst hn0
      refine ⟨_, w, by simp [hfirst w hr]; rfl, ?_⟩
      have hm' : m = 0 := by omega
      subst hm'
      exact hw.ent (Ent.star (osl_nil.trans (Ent.refl _)) (Ent.refl _))
    · rw [if_neg hm0]
      have hr' : ∀ j u, news[j]? = some u → ∃ b o, p = some ⟨b, o, none⟩ ∧ w.drew.cell? ⟨b, o + j, none⟩ = some u := hr
      subst h1
      simp only [Builtin.firstCells, Sem.run_pure, Result.andThen_ok]
      have := hfirst w.drew hr'
      simp only [Builtin.firstCells] at this
      rw [this]
      simp only [Result.andThen_ok]
      refine ⟨_, _, rfl, (hw.drew.alloc _).ent ?_⟩
      generalize hcap : (Question.appendCap (0 + m) 0 T).cut (w.tape w.drawn (.appendCap (0 + m) 0 T)) = cap
      have hge : m ≤ cap := by rw [← hcap]; simp [Question.cut]
      refine Ent.star ?_ (Ent.right _ _)
      have e1 : (#[] ++ news.toArray ++ Builtin.zeroCells e'.zero.cells (cap - (0 + m))) = ([] ++ (([] : List α) ++ ys).flatMap enc ++ (Builtin.zeroCells e'.zero.cells (cap - m)).toList).toArray := by
        apply Array.toList_inj.1
        simp [hn]
      rw [e1]
      refine osl_intro (m := cap - m) ?_ ?_
      · simp [hm]; omega
      · rw [zeroCells_toList, hz]; exact Nat.le_refl _
  · rw [step _ _ _ h1 rfl]
    by_cases hle : xs.length + m ≤ xs.length + mm
    · rw [if_pos hle]
      simp only [hfirst w hr, Result.andThen_ok]
      have hadd : (⟨b, pre.length, none⟩ : Addr).add (xs.length * k) = ⟨b, pre.length + xs.length * k, none⟩ := by
        unfold Addr.add; split <;> simp_all
      have hmk : m * k ≤ mm * k := Nat.mul_le_mul_right _ (by omega)
      have hlen : (pre ++ xs.flatMap enc ++ post).length = pre.length + xs.length * k + post.length := by simp [he.flat]; omega
      obtain ⟨w', hr1, hw'⟩ := storeCells_run (P := P) news (pre ++ xs.flatMap enc ++ post) (pre.length + xs.length * k) 0 w h3 (by rw [← hn]; exact he.ones ys) (by rw [hlen, hnl]; omega)
      refine ⟨_, w', by simp only [hadd]; rw [hr1]; rfl, hw'.ent (Ent.star ?_ (Ent.refl _))⟩
      have e1 : putCells (pre ++ xs.flatMap enc ++ post) (pre.length + xs.length * k + 0) news = pre ++ (xs ++ ys).flatMap enc ++ post.drop (m * k) := by
        unfold putCells
        have h5 : (pre ++ xs.flatMap enc).length = pre.length + xs.length * k := by simp [he.flat]
        rw [Nat.add_zero, ← h5, List.take_left, hnl, List.drop_append, List.drop_eq_nil_of_le (by omega)]
        simp [hn]
      rw [e1]
      refine osl_intro (m := mm - m) ?_ ?_
      · simp [hm]; omega
      · rw [List.length_drop, Nat.sub_mul]; omega
    · rw [if_neg hle]
      have hold : (Builtin.firstCells k xs.length v).run P w.drew = .ok (xs.flatMap enc).toArray w.drew := by
        rw [h1]
        unfold Builtin.firstCells
        have : xs.length * k = (xs.flatMap enc).length := (he.flat xs).symm
        rw [this]
        refine loadCells_run b pre.length w.drew _ fun j u hj => ?_
        rw [h3.drew.cell]
        have hlt : j < (xs.flatMap enc).length := by
          rcases Nat.lt_or_ge j (xs.flatMap enc).length with h | h
          · exact h
          · simp [List.getElem?_eq_none h] at hj
        rw [List.getElem?_toArray, List.append_assoc, List.getElem?_append_right (by omega), Nat.add_sub_cancel_left, List.getElem?_append_left hlt]
        exact hj
      simp only [hold, Result.andThen_ok]
      have hr' : ∀ j u, news[j]? = some u → ∃ b o, p = some ⟨b, o, none⟩ ∧ w.drew.cell? ⟨b, o + j, none⟩ = some u := hr
      rw [hfirst w.drew hr']
      simp only [Result.andThen_ok]
      refine ⟨_, _, rfl, (h3.drew.alloc _).ent ?_⟩
      generalize hcap : (Question.appendCap (xs.length + m) (xs.length + mm) T).cut (w.tape w.drawn (.appendCap (xs.length + m) (xs.length + mm) T)) = cap
      have hge : xs.length + m ≤ cap := by rw [← hcap]; simp [Question.cut]
      refine Ent.star ?_ (Ent.right _ _)
      have e1 : ((xs.flatMap enc).toArray ++ news.toArray ++ Builtin.zeroCells e'.zero.cells (cap - (xs.length + m))) = ([] ++ (xs ++ ys).flatMap enc ++ (Builtin.zeroCells e'.zero.cells (cap - (xs.length + m))).toList).toArray := by
        apply Array.toList_inj.1
        simp [hn]
      rw [e1]
      refine osl_intro (m := cap - (xs.length + m)) ?_ ?_
      · simp [hm]; omega
      · rw [zeroCells_toList, hz]; exact Nat.le_refl _
end Go.Sl
