/- Maps. -/
import Derived.Test.YtgphmpppekghbaaDoorSlRd
import Derived.Laws.StructEq
namespace Go.Sl
open Go.RowKit

/-- What a key's type must give: 'enc' lays a key as a value. -/
structure KeyLaw (P : Program) (kt : TypeId) {κ : Type} [DecidableEq κ] (enc : κ → Value) : Prop where
  find : ∀ (k : κ) (es : List MapEntry) (ks : List κ) (w : World), es.map (·.key) = ks.map enc → (Instr.findKey kt (enc k) es).run P w = .ok ((ks.findIdx? (fun x => decide (x = k))).bind fun i => (es[i]?).map fun e => (i, e.val)) w
  check : ∀ (e : Bool) (k : κ) (w : World), (Instr.checkKey e 10000 kt (enc k)).run P w = .ok () w
  bits : ∀ k, Instr.sameBits 10000 (enc k) (enc k) = true

variable {P : Program}
theorem findAsking_run {kt : TypeId} {κ : Type} [DecidableEq κ] {enc : κ → Value} (hq : ∀ k k' w, (Op.equal kt (enc k) (enc k')).run P w = .ok (decide (k' = k)) w) (k : κ) (w : World) :
    ∀ (es : List MapEntry) (ks : List κ) (i : Nat), es.map (·.key) = ks.map enc → (Instr.findAsking kt (enc k) es i).run P w = .ok ((ks.findIdx? (fun x => decide (x = k))).bind fun j => (es[j]?).map fun e => (i + j, e.val)) w
  | [], ks, i, h => by
    have : ks = [] := by simpa using h.symm
    subst this; simp [Instr.findAsking]
  | e :: es, [], i, h => by simp at h
  | e :: es, x :: ks, i, h => by
    simp only [List.map_cons, List.cons.injEq] at h
    unfold Instr.findAsking
    simp only [Sem.run_bind, h.1, hq, Result.andThen_ok]
    by_cases hx : x = k
    · simp [hx, List.findIdx?_cons]
    · rw [if_neg (by simp [hx]), findAsking_run hq k w es ks (i + 1) h.2]
      simp [List.findIdx?_cons, hx]
      cases ks.findIdx? fun x => decide (x = k) with
      | none => rfl
      | some j => simp [Nat.add_assoc, Nat.add_comm 1]
theorem findNow_int (kd : IntKind) (k : Int) : ∀ (es : List MapEntry) (ks : List Int) (i : Nat), es.map (·.key) = ks.map (Value.int kd) →
    Instr.findNow (.int kd) (.int kd k) es i = some ((ks.findIdx? (fun x => decide (x = k))).bind fun j => (es[j]?).map fun e => (i + j, e.val))
  | [], ks, i, h => by
    have : ks = [] := by simpa using h.symm
    subst this; simp [Instr.findNow]
  | e :: es, [], i, h => by simp at h
  | e :: es, x :: ks, i, h => by
    simp only [List.map_cons, List.cons.injEq] at h
    unfold Instr.findNow
    simp only [h.1, Instr.sameNow, if_true]
    by_cases hx : x = k
    · simp [hx, List.findIdx?_cons]
    · have : (k == x) = false := by simpa using fun e => hx e.symm
      rw [this]
      simp only [findNow_int kd k es ks (i + 1) h.2]
      simp [List.findIdx?_cons, hx]
      cases ks.findIdx? fun x => decide (x = k) with
      | none => rfl
      | some j => simp [Nat.add_assoc, Nat.add_comm 1]

variable [tb : Tabs P]
theorem keyLaw_int {kt : TypeId} {e : TE} (ht : tb.T kt = some e) (hu : e.und = .int .i64) : KeyLaw P kt (fun x : Int => Value.int .i64 x) where
  find k es ks w h := by
    unfold Instr.findKey
    simp only [Sem.run_bind, run_und ht, hu, Result.andThen_ok, findNow_int .i64 k es ks 0 h]
    simp
  check b k w := by
    show (Instr.checkKey b (9999 + 1) kt (.int .i64 k)).run P w = _
    unfold Instr.checkKey
    simp [run_und ht, hu]
  bits k := by
    show Instr.sameBits 10000 (.int .i64 k) (.int .i64 k) = true
    simp [Instr.sameBits]
theorem keyLaw_struct {kt : TypeId} {e : TE} {fs : Array Field} {κ : Type} [DecidableEq κ] {enc : κ → Value} (ht : tb.T kt = some e) (hu : e.und = .struct fs)
    (hq : ∀ k k' w, (Op.equal kt (enc k) (enc k')).run P w = .ok (decide (k' = k)) w) (hc : ∀ (b : Bool) k w, (Instr.checkKey b 10000 kt (enc k)).run P w = .ok () w) (hb : ∀ k, Instr.sameBits 10000 (enc k) (enc k) = true) : KeyLaw P kt enc where
  find k es ks w h := by
    unfold Instr.findKey
    simp only [Sem.run_bind, run_und ht, hu, Result.andThen_ok]
    cases es with
    | nil =>
      have : ks = [] := by simpa using h.symm
      subst this; simp [Instr.findNow]
    | cons x es =>
      have : Instr.findNow (.struct fs) (enc k) (x :: es) 0 = none := by
        unfold Instr.findNow Instr.sameNow
        rfl
      rw [this]
      simp only []
      rw [findAsking_run hq k w (x :: es) ks 0 h]
      simp
  check := hc
  bits := hb
/-- A key of two integers. -/
abbrev enc2 (p : Int × Int) : Value := .agg #[.int .i64 p.1, .int .i64 p.2]

/-! ### What a map holds: a list of keys and values -/
section
variable {κ : Type} [DecidableEq κ]
def mget (l : List (κ × Value)) (k : κ) : Option Value := (l.find? fun p => decide (p.1 = k)).map (·.2)
def mset : List (κ × Value) → κ → Value → List (κ × Value)
  | [], k, v => [(k, v)]
  | (k', u) :: l, k, v => if k' = k then (k, v) :: l else (k', u) :: mset l k v
def mdel : List (κ × Value) → κ → List (κ × Value)
  | [], _ => []
  | (k', u) :: l, k => if k' = k then l else (k', u) :: mdel l k
theorem mget_nil (k : κ) : mget [] k = none := rfl
theorem mget_cons (k k' : κ) (u : Value) (l : List (κ × Value)) : mget ((k', u) :: l) k = if k' = k then some u else mget l k := by
  unfold mget; by_cases h : k' = k <;> simp [h]
theorem mget_mset (l : List (κ × Value)) (k k' : κ) (v : Value) : mget (mset l k v) k' = if k = k' then some v else mget l k' := by
  induction l with
  | nil => simp [mset, mget_cons, mget_nil]
  | cons p l ih =>
    obtain ⟨q, u⟩ := p
    unfold mset
    by_cases h : q = k
    · subst h; simp only [if_true, mget_cons]; split <;> rfl
    · simp only [if_neg h, mget_cons, ih]
      by_cases h2 : q = k'
      · subst h2; rw [if_pos rfl, if_neg (fun e => h e.symm), if_pos rfl]
      · simp [h2]
theorem mkeys_mset (l : List (κ × Value)) (k : κ) (v : Value) : (mset l k v).map (·.1) = if k ∈ l.map (·.1) then l.map (·.1) else l.map (·.1) ++ [k] := by
  induction l with
  | nil => simp [mset]
  | cons p l ih =>
    obtain ⟨q, u⟩ := p
    unfold mset
    by_cases h : q = k
    · subst h; simp
    · have h' : ¬ k = q := fun e => h e.symm
      simp only [if_neg h, List.map_cons, ih, List.mem_cons, h', false_or]
      split <;> simp
theorem nodup_mset {l : List (κ × Value)} (hn : (l.map (·.1)).Nodup) (k : κ) (v : Value) : ((mset l k v).map (·.1)).Nodup := by
  rw [mkeys_mset]
  split
  · exact hn
  · rename_i h
    rw [List.nodup_append]
    refine ⟨hn, by simp, ?_⟩
    intro a ha b hb
    simp at hb; subst hb
    exact fun e => h (e ▸ ha)
theorem mem_keys_of_mget {l : List (κ × Value)} {k : κ} {v : Value} (h : mget l k = some v) : k ∈ l.map (·.1) := by
  unfold mget at h
  cases hf : l.find? fun p => decide (p.1 = k) with
  | none => rw [hf] at h; cases h
  | some p =>
    have h1 := List.find?_some hf
    have h2 := List.mem_of_find?_eq_some hf
    have : p.1 = k := by simpa using h1
    exact List.mem_map.2 ⟨p, h2, this⟩
theorem mget_none {l : List (κ × Value)} {k : κ} : mget l k = none ↔ k ∉ l.map (·.1) := by
  constructor
  · intro h hm
    obtain ⟨p, hp, rfl⟩ := List.mem_map.1 hm
    unfold mget at h
    have := List.find?_eq_none.1 (Option.map_eq_none_iff.1 h) p hp
    simp at this
  · intro h
    cases hg : mget l k with
    | none => rfl
    | some v => exact absurd (mem_keys_of_mget hg) h
theorem mkeys_mdel (l : List (κ × Value)) (k : κ) : (mdel l k).map (·.1) = (l.map (·.1)).erase k := by
  induction l with
  | nil => rfl
  | cons p l ih =>
    obtain ⟨q, u⟩ := p
    unfold mdel
    by_cases h : q = k
    · subst h; simp
    · have : (q == k) = false := by simpa using h
      simp [h, ih]
theorem nodup_mdel {l : List (κ × Value)} (hn : (l.map (·.1)).Nodup) (k : κ) : ((mdel l k).map (·.1)).Nodup := by
  rw [mkeys_mdel]; exact hn.erase k
theorem mget_mdel {l : List (κ × Value)} (hn : (l.map (·.1)).Nodup) (k k' : κ) : mget (mdel l k) k' = if k = k' then none else mget l k' := by
  induction l with
  | nil => simp [mdel, mget_nil]
  | cons p l ih =>
    obtain ⟨q, u⟩ := p
    simp only [List.map_cons, List.nodup_cons] at hn
    unfold mdel
    by_cases h : q = k
    · subst h
      rw [if_pos rfl, mget_cons]
      by_cases h2 : q = k'
      · subst h2; rw [if_pos rfl, mget_none.2 hn.1]
      · simp [h2]
    · rw [if_neg h, mget_cons, mget_cons, ih hn.2]
      by_cases h2 : q = k'
      · subst h2; rw [if_pos rfl, if_neg (fun e => h e.symm), if_pos rfl]
      · simp [h2]

def BornOk (es : List MapEntry) (clock : Nat) : Prop := (es.map (·.born)).Nodup ∧ ∀ e ∈ es, e.born < clock
/-- Block 'b' is a map that holds 'l'. -/
def omap (enc : κ → Value) (b : Nat) (l : List (κ × Value)) : HProp :=
  ex fun es : List MapEntry => ex fun clock : Nat => pur (es.map (fun e => (e.key, e.val)) = l.map (fun p => (enc p.1, p.2)) ∧ (l.map (·.1)).Nodup ∧ BornOk es clock) * blk b (.map es.toArray clock)
class PullMap (b : Nat) (H : HProp) {κ : outParam Type} [i : outParam (DecidableEq κ)] (enc : outParam (κ → Value)) (l : outParam (List (κ × Value))) (R : outParam HProp) : Prop where
  ent : Ent H (omap enc b l * R)
variable {enc : κ → Value} {w0 : World} {H R : HProp} {n : Nat} {env : Env} {o : Oper}
instance (priority := 2000) PullMap.hereL (b : Nat) (l : List (κ × Value)) (R : HProp) : PullMap b (omap enc b l * R) enc l R := ⟨Ent.refl _⟩
instance (priority := 1900) PullMap.hereR (b : Nat) (l : List (κ × Value)) (L : HProp) : PullMap b (L * omap enc b l) enc l L := ⟨Ent.comm _ _⟩
instance (priority := 1800) PullMap.here (b : Nat) (l : List (κ × Value)) : PullMap b (omap enc b l) enc l emp := ⟨Ent.star_emp _⟩
instance (priority := 1000) PullMap.goL (b : Nat) (l : List (κ × Value)) (L R L' : HProp) [p : PullMap b L enc l L'] : PullMap b (L * R) enc l (L' * R) :=
  ⟨(Ent.star p.ent (Ent.refl _)).trans (Ent.assoc _ _ _)⟩
instance (priority := 900) PullMap.goR (b : Nat) (l : List (κ × Value)) (L R R' : HProp) [p : PullMap b R enc l R'] : PullMap b (L * R) enc l (L * R') :=
  ⟨(Ent.star (Ent.refl _) p.ent).trans (Ent.swap _ _ _)⟩

omit tb [DecidableEq κ] in
theorem Holds.map {w : World} {b : Nat} {l : List (κ × Value)} (h : Holds w0 (omap enc b l * H) w) : ∃ (es : List MapEntry) (clock : Nat), es.map (fun e => (e.key, e.val)) = l.map (fun p => (enc p.1, p.2)) ∧ (l.map (·.1)).Nodup ∧ BornOk es clock ∧
    w.heap[b]? = some (.map es.toArray clock) ∧ Holds w0 (Sl.blk b (.map es.toArray clock) * H) w := by
  obtain ⟨es, h⟩ := h.ex_star
  obtain ⟨clock, h⟩ := h.ex_star
  have h' := h.ent (Ent.assoc _ _ _)
  obtain ⟨p1, p2, p3⟩ := h'.pur
  have h2 := h'.ent (Ent.right _ _)
  exact ⟨es, clock, p1, p2, p3, h2.blk.2, h2⟩
omit tb [DecidableEq κ] in
theorem omap_intro {b : Nat} {l : List (κ × Value)} {es : List MapEntry} {clock : Nat} (h1 : es.map (fun e => (e.key, e.val)) = l.map (fun p => (enc p.1, p.2))) (h2 : (l.map (·.1)).Nodup) (h3 : BornOk es clock) : Ent (blk b (.map es.toArray clock)) (omap enc b l) :=
  fun h hb => ⟨es, clock, (Ent.frp (p := _ ∧ _ ∧ _) ⟨h1, h2, h3⟩ (Ent.refl _)) h hb⟩
omit tb in
/-- The entry that a search finds. -/
theorem find_mget : ∀ {es : List MapEntry} {l : List (κ × Value)} (k : κ), es.map (fun e => (e.key, e.val)) = l.map (fun p => (enc p.1, p.2)) →
    ((l.map (·.1)).findIdx? (fun x => decide (x = k))).bind (fun i => (es[i]?).map fun e => (i, e.val)) = (mget l k).bind fun v => ((l.map (·.1)).findIdx? (fun x => decide (x = k))).map fun i => (i, v)
  | [], l, k, h => by
    have : l = [] := by simpa using h.symm
    subst this; rfl
  | e :: es, [], k, h => by simp at h
  | e :: es, (q, u) :: l, k, h => by
    simp only [List.map_cons, List.cons.injEq, Prod.mk.injEq] at h
    have ih := find_mget k h.2
    simp only [List.map_cons, List.findIdx?_cons, mget_cons]
    by_cases hq : q = k
    · simp [hq, h.1.2]
    · simp only [hq, decide_false, if_false]
      cases hf : (l.map (·.1)).findIdx? fun x => decide (x = k) with
      | none => simp
      | some j =>
        rw [hf] at ih
        cases hm : mget l k with
        | none => rw [hm] at ih; simp at ih; simpa using ih
        | some v =>
          rw [hm] at ih
          simp only [Option.bind_some, Option.map_some] at ih ⊢
          obtain ⟨e', he', hv⟩ := Option.map_eq_some_iff.1 ih
          simp at hv
          simp [he', hv]
end
end Go.Sl
