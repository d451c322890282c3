/- A group that agrees: what it is, what each step does; no program in sight. -/
import Derived.Test.YtgphmpppekghbaaDoorErr
namespace Go.Proofs.Tryd
open Go.Sl
set_option maxHeartbeats 400000
structure AS where
  n : Nat
  was : Int → Bool
  has : Int → Int → Bool
  gN : Int → Int → Int
  knew : Int → Int → Bool
  most : Int → Int
  heard : Int → List Int
abbrev Stp := Int × Int
def lessS (a b : Stp) : Bool := decide (a.1 < b.1) || (decide (a.1 = b.1) && decide (a.2 < b.2))
theorem lessS_iff {a b : Stp} : lessS a b = true ↔ a.1 < b.1 ∨ (a.1 = b.1 ∧ a.2 < b.2) := by simp [lessS]
theorem lessS_not {a b : Stp} : lessS a b = false ↔ ¬ (a.1 < b.1 ∨ (a.1 = b.1 ∧ a.2 < b.2)) := by rw [← lessS_iff]; simp
theorem lessS_anti {a b : Stp} (h : lessS a b = false) (k : lessS b a = false) : a = b := by
  rw [lessS_not] at h k
  obtain ⟨a1, a2⟩ := a
  obtain ⟨b1, b2⟩ := b
  simp only at h k
  have h1 : a1 = b1 := by omega
  have h2 : a2 = b2 := by omega
  rw [h1, h2]
variable {S : AS} {i : Nat} {x w : Int}
abbrev stp (S : AS) (w x : Int) : Stp := (S.gN w x, x)
/-- The greatest of the stamps that were given. -/
def IsFin (S : AS) (w : Int) (m : Stp) : Prop := (∃ x : Int, 0 ≤ x ∧ x < S.n ∧ m = stp S w x) ∧ ∀ x : Int, 0 ≤ x → x < S.n → lessS m (stp S w x) = false
theorem IsFin.unique {m m' : Stp} (h : IsFin S w m) (h' : IsFin S w m') : m = m' := by
  obtain ⟨⟨x, x0, x1, rfl⟩, h2⟩ := h
  obtain ⟨⟨y, y0, y1, rfl⟩, k2⟩ := h'
  exact lessS_anti (h2 y y0 y1) (k2 x x0 x1)
open Classical in
noncomputable def pickS (p : Stp → Prop) : Stp := if h : ∃ m, p m then h.choose else (0, 0)
noncomputable def final (S : AS) (w : Int) : Stp := pickS (IsFin S w)
theorem IsFin.final {m : Stp} (h : IsFin S w m) : final S w = m := by
  have hx : ∃ m, IsFin S w m := ⟨m, h⟩
  unfold Proofs.Tryd.final pickS
  rw [dif_pos hx]
  exact hx.choose_spec.unique h
theorem isFin_exists (hn : 0 < S.n) : ∃ m, IsFin S w m := by
  have key : ∀ k : Nat, 0 < k → k ≤ S.n → ∃ m, (∃ x : Int, 0 ≤ x ∧ x < k ∧ m = stp S w x) ∧ ∀ x : Int, 0 ≤ x → x < k → lessS m (stp S w x) = false := by
    intro k
    induction k with
    | zero => intro h _; omega
    | succ k ih =>
      intro _ hk
      rcases Nat.eq_zero_or_pos k with rfl | h0
      · refine ⟨stp S w 0, ⟨0, by omega, by omega, rfl⟩, fun x h1 h2 => ?_⟩
        have : x = 0 := by omega
        subst this; rw [lessS_not]; simp only; omega
      · obtain ⟨m, ⟨y, y0, y1, hm⟩, h2⟩ := ih h0 (by omega)
        cases hl : lessS m (stp S w k)
        · refine ⟨m, ⟨y, y0, by omega, hm⟩, fun x h1 h3 => ?_⟩
          by_cases e : x = k
          · rw [e]; exact hl
          · exact h2 x h1 (by omega)
        · refine ⟨stp S w k, ⟨k, by omega, by omega, rfl⟩, fun x h1 h3 => ?_⟩
          by_cases e : x = k
          · rw [e, lessS_not]; simp only; omega
          · have := h2 x h1 (by omega)
            rw [lessS_not] at this ⊢
            rw [lessS_iff] at hl
            simp only at hl this ⊢
            omega
  obtain ⟨m, ⟨x, h1, h2, h3⟩, h4⟩ := key S.n hn (Nat.le_refl _)
  exact ⟨m, ⟨x, h1, h2, h3⟩, h4⟩
theorem isFin_final (hn : 0 < S.n) : IsFin S w (final S w) := by
  obtain ⟨m, h⟩ := isFin_exists (S := S) (w := w) hn
  rw [h.final]; exact h
/-- What counts for a member's word. -/
noncomputable def tS (S : AS) (x w : Int) : Stp := if S.knew w x then final S w else stp S w x
def waitS (S : AS) (x w : Int) : Bool := S.has w x && !(S.heard x).contains w
theorem waitS_iff : waitS S x w = true ↔ S.has w x = true ∧ w ∉ S.heard x := by simp [waitS]
/-- The least that waits; 0: none does. -/
def IsBest (S : AS) (x b : Int) : Prop := (b = 0 ∧ ∀ w, waitS S x w = false) ∨ (b ≠ 0 ∧ waitS S x b = true ∧ ∀ w, waitS S x w = true → w ≠ b → lessS (tS S x b) (tS S x w) = true)
theorem IsBest.unique {b b' : Int} (h : IsBest S x b) (h' : IsBest S x b') : b = b' := by
  rcases h with ⟨rfl, h⟩ | ⟨h0, h1, h2⟩ <;> rcases h' with ⟨rfl, k⟩ | ⟨k0, k1, k2⟩
  · rfl
  · rw [h b'] at k1; cases k1
  · rw [k b] at h1; cases h1
  · by_cases e : b = b'
    · exact e
    · have a1 := h2 b' k1 (fun g => e g.symm)
      have a2 := k2 b h1 e
      rw [lessS_iff] at a1 a2
      omega
open Classical in
noncomputable def best (S : AS) (x : Int) : Int := if h : ∃ b, IsBest S x b then h.choose else 0
theorem IsBest.best {b : Int} (h : IsBest S x b) : best S x = b := by
  have hx : ∃ b, IsBest S x b := ⟨b, h⟩
  unfold Proofs.Tryd.best
  rw [dif_pos hx]
  exact hx.choose_spec.unique h
def heardS (S : AS) (x b : Int) : AS := { S with heard := fun y => if y = x then S.heard x ++ [b] else S.heard y }
def cntS (S : AS) (x : Int) : Nat := ((List.range 31).filter fun w : Nat => waitS S x w).length
noncomputable def hearL : Nat → AS → Int → List Int × AS
  | 0, S, _ => ([], S)
  | k + 1, S, x => if best S x = 0 ∨ S.knew (best S x) x = false then ([], S) else ((best S x) :: (hearL k (heardS S x (best S x)) x).1, (hearL k (heardS S x (best S x)) x).2)
noncomputable def hearS (S : AS) (x : Int) : List Int × AS := hearL (cntS S x + 1) S x
/-- What holds of it after 'i' steps. -/
structure AInv (S : AS) (i : Nat) : Prop where
  n2 : 2 ≤ S.n
  n5 : S.n ≤ 5
  wasr : ∀ w, S.was w = true → 1 ≤ w ∧ w ≤ 30
  hasr : ∀ w x, S.has w x = true → S.was w = true ∧ 0 ≤ x ∧ x < S.n
  gNr : ∀ w x, S.has w x = true → 1 ≤ S.gN w x ∧ S.gN w x ≤ S.most x
  one : ∀ w w' x, S.has w x = true → S.has w' x = true → S.gN w x = S.gN w' x → w = w'
  knewr : ∀ w x, S.knew w x = true → 0 ≤ x ∧ x < S.n ∧ ∀ y : Int, 0 ≤ y → y < S.n → S.has w y = true
  mostr : ∀ x, 0 ≤ S.most x ∧ S.most x ≤ i
  nod : ∀ x, (S.heard x).Nodup
  heardr : ∀ x, ∀ w ∈ S.heard x, S.knew w x = true
theorem AInv.pos (h : AInv S i) : 0 < S.n := by have := h.n2; omega
theorem AInv.fin (h : AInv S i) (w : Int) : ∃ y : Int, 0 ≤ y ∧ y < S.n ∧ final S w = (S.gN w y, y) := (isFin_final (S := S) (w := w) h.pos).1
theorem AInv.tWho (h : AInv S i) {x w : Int} (hw : S.has w x = true) : ∃ y : Int, 0 ≤ y ∧ y < S.n ∧ S.has w y = true ∧ tS S x w = (S.gN w y, y) := by
  unfold tS
  split
  · rename_i hk
    obtain ⟨y, y0, y1, hy⟩ := h.fin w
    exact ⟨y, y0, y1, (h.knewr w x hk).2.2 y y0 y1, hy⟩
  · exact ⟨x, (h.hasr w x hw).2.1, (h.hasr w x hw).2.2, hw, rfl⟩
theorem AInv.tInj (h : AInv S i) {x w w' : Int} (hw : S.has w x = true) (hw' : S.has w' x = true) (e : tS S x w = tS S x w') : w = w' := by
  obtain ⟨y, _, _, h1, h2⟩ := h.tWho hw
  obtain ⟨y', _, _, k1, k2⟩ := h.tWho hw'
  rw [h2, k2] at e
  obtain ⟨e1, e2⟩ := Prod.mk.inj e
  subst e2
  exact h.one w w' y h1 k1 e1
theorem AInv.word (h : AInv S i) {x w : Int} (hw : S.has w x = true) : 1 ≤ w ∧ w ≤ 30 := h.wasr w (h.hasr w x hw).1
/-- Out of what no other is below. -/
theorem AInv.best_of (h : AInv S i) {b : Int} (h0 : b ≠ 0) (h1 : waitS S x b = true) (h2 : ∀ w, waitS S x w = true → lessS (tS S x w) (tS S x b) = false) : best S x = b :=
  IsBest.best (.inr ⟨h0, h1, fun w hw hne => by
    cases hl : lessS (tS S x b) (tS S x w)
    · have e := lessS_anti hl (h2 w hw)
      exact absurd (h.tInj (waitS_iff.1 h1).1 (waitS_iff.1 hw).1 e).symm hne
    · rfl⟩)
theorem best_none (h : ∀ w, waitS S x w = false) : best S x = 0 := IsBest.best (.inl ⟨rfl, h⟩)
theorem cnt_heard (h : AInv S i) {b : Int} (hb : waitS S x b = true) : cntS S x = cntS (heardS S x b) x + 1 := by
  have hr := h.word (waitS_iff.1 hb).1
  obtain ⟨bn, rfl⟩ := Int.eq_ofNat_of_zero_le (show 0 ≤ b by omega)
  have hmem : bn ∈ List.range 31 := List.mem_range.2 (by omega)
  have hd : ∀ w : Nat, waitS (heardS S x bn) x w = (waitS S x w && !decide (w = bn)) := by
    intro w
    unfold waitS heardS
    simp only [if_true, List.contains_append, List.contains_cons, List.contains_nil, Bool.or_false]
    have : ((w : Int) == (bn : Int)) = decide (w = bn) := by
      by_cases e : w = bn
      · simp [e]
      · have e2 : ¬ (w : Int) = (bn : Int) := by omega
        simp [e, e2]
    rw [this]
    cases S.has (w : Int) x <;> cases (S.heard x).contains (w : Int) <;> cases decide (w = bn) <;> rfl
  have key : ∀ l : List Nat, l.Nodup → bn ∈ l → (l.filter fun w : Nat => waitS S x w).length = (l.filter fun w : Nat => waitS (heardS S x bn) x w).length + 1 := by
    intro l
    induction l with
    | nil => intro _ h; cases h
    | cons a l ih =>
      intro hn hm
      rw [List.nodup_cons] at hn
      by_cases e : a = bn
      · subst e
        have h2 : (l.filter fun w : Nat => waitS (heardS S x a) x w) = l.filter fun w : Nat => waitS S x w := List.filter_congr fun w hw => by
          have : w ≠ a := fun g => hn.1 (g ▸ hw)
          rw [hd]; simp [this]
        rw [List.filter_cons, List.filter_cons, h2, hd, hb]; simp
      · have hm' : bn ∈ l := (List.mem_cons.1 hm).resolve_left (fun g => e g.symm)
        have ih := ih hn.2 hm'
        rw [List.filter_cons, List.filter_cons, hd]
        simp only [e, decide_false, Bool.not_false, Bool.and_true]
        split <;> simp [ih]
  exact key _ List.nodup_range hmem
theorem hear_stop (h : best S x = 0 ∨ S.knew (best S x) x = false) : hearS S x = ([], S) := by
  unfold hearS hearL; rw [if_pos h]
theorem hear_step (hS : AInv S i) {b : Int} (e : best S x = b) (h0 : b ≠ 0) (hk : S.knew b x = true) (hb : waitS S x b = true) : hearS S x = (b :: (hearS (heardS S x b) x).1, (hearS (heardS S x b) x).2) := by
  subst e
  unfold hearS
  rw [cnt_heard hS hb]
  conv => lhs; unfold hearL
  rw [if_neg (by rintro (g | g) <;> simp_all)]
theorem AInv.heard' (h : AInv S i) {b : Int} (hk : S.knew b x = true) (hb : waitS S x b = true) : AInv (heardS S x b) i := by
  refine { h with nod := ?_, heardr := ?_ }
  · intro y
    simp only [heardS]
    split
    · rw [List.nodup_append]
      refine ⟨h.nod x, by simp, ?_⟩
      intro a ha c hc
      simp at hc; subst hc
      exact fun e => (waitS_iff.1 hb).2 (e ▸ ha)
    · exact h.nod y
  · intro y w hw
    simp only [heardS] at hw
    split at hw
    · rename_i e
      subst e
      rcases List.mem_append.1 hw with hw | hw
      · exact h.heardr y w hw
      · simp at hw; subst hw; exact hk
    · exact h.heardr y w hw
theorem nodup_le : ∀ (m : Nat) {l : List Int}, l.Nodup → (∀ w ∈ l, 1 ≤ w ∧ w ≤ m) → l.length ≤ m
  | 0, l, _, hr => by
    cases l with
    | nil => exact Nat.le_refl _
    | cons a l => have := hr a List.mem_cons_self; omega
  | m + 1, l, hl, hr => by
    have h1 := nodup_le m (hl.erase ((m + 1 : Nat) : Int)) fun w hw => by
      have h2 := (hl.mem_erase_iff).1 hw
      have := hr w h2.2
      have h3 := h2.1
      omega
    have h2 := List.length_erase (a := ((m + 1 : Nat) : Int)) (l := l)
    split at h2 <;> omega
theorem AInv.heard30 (h : AInv S i) (x : Int) : (S.heard x).length ≤ 30 := nodup_le 30 (h.nod x) fun w hw => by
  have hk := h.knewr w x (h.heardr x w hw)
  exact h.word (hk.2.2 x hk.1 hk.2.1)

/-! ### The steps -/
def agrE (m x w : Int) (was : Bool) : Int := if ¬ (0 ≤ x ∧ x < m ∧ 1 ≤ w ∧ w ≤ 30) then 1 else if was then 0 else 5
def sayA (S : AS) (w : Int) : AS × Int := if ¬ (1 ≤ w ∧ w ≤ 30) then (S, 1) else if S.was w then (S, 7) else ({ S with was := fun y => if y = w then true else S.was y }, 0)
def propA (S : AS) (x w : Int) : AS :=
  { S with most := fun y => if y = x then S.most x + 1 else S.most y, gN := fun v y => if v = w ∧ y = x then S.most x + 1 else S.gN v y, has := fun v y => if v = w ∧ y = x then true else S.has v y }
def proposeA (S : AS) (x w : Int) : AS × Stp × Int :=
  if agrE S.n x w (S.was w) ≠ 0 then (S, (0, 0), agrE S.n x w (S.was w))
  else if S.has w x then (S, (0, 0), 7)
  else (propA S x w, (S.most x + 1, x), 0)
def allA (S : AS) (w : Int) : Prop := ∀ y : Int, 0 ≤ y → y < S.n → S.has w y = true
noncomputable def knowA (S : AS) (x w : Int) : AS :=
  { S with knew := fun v y => if v = w ∧ y = x then true else S.knew v y, most := fun y => if y = x then max (S.most x) (final S w).1 else S.most y }
open Classical in
noncomputable def settleA (S : AS) (x w : Int) : AS × List Int × Int :=
  if agrE S.n x w (S.was w) ≠ 0 then (S, [], agrE S.n x w (S.was w))
  else if ¬ allA S w then (S, [], 6)
  else if S.knew w x then (S, [], 7)
  else ((hearS (knowA S x w) x).2, (hearS (knowA S x w) x).1, 0)
theorem agrE_0 {m x w : Int} {was : Bool} (h : agrE m x w was = 0) : 0 ≤ x ∧ x < m ∧ 1 ≤ w ∧ w ≤ 30 ∧ was = true := by
  unfold agrE at h
  split at h
  · cases h
  · split at h
    · rename_i h1 h2; simp at h1; exact ⟨h1.1, h1.2.1, h1.2.2.1, h1.2.2.2, h2⟩
    · cases h
theorem AInv.mono (h : AInv S i) : AInv S (i + 1) := { h with mostr := fun x => by have := h.mostr x; omega }
theorem AInv.say (h : AInv S i) (w : Int) : AInv (sayA S w).1 (i + 1) := by
  unfold sayA
  split
  · exact h.mono
  · split
    · exact h.mono
    · rename_i hr _
      refine { h.mono with wasr := ?_, hasr := ?_ }
      · intro y hy
        simp only at hy
        split at hy
        · omega
        · exact h.wasr y hy
      · intro y x hy
        have := h.hasr y x hy
        refine ⟨?_, this.2⟩
        simp only
        split
        · rfl
        · exact this.1
theorem AInv.prop' (h : AInv S i) (he : agrE S.n x w (S.was w) = 0) (hh : S.has w x = false) : AInv (propA S x w) (i + 1) := by
  obtain ⟨h1, h2, h3, h4, h5⟩ := agrE_0 he
  have hm := h.mostr x
  have hknew : ∀ v y, S.knew v y = true → v ≠ w := fun v y hk e => by
    have := (h.knewr v y hk).2.2 x h1 h2
    rw [e, hh] at this; cases this
  refine { h with hasr := ?_, gNr := ?_, one := ?_, knewr := ?_, mostr := ?_ }
  · intro v y hv
    simp only [propA] at hv
    split at hv
    · rename_i e; rw [e.1, e.2]; exact ⟨h5, h1, h2⟩
    · exact h.hasr v y hv
  · intro v y hv
    simp only [propA] at hv ⊢
    split
    · rename_i e; rw [if_pos e.2]; omega
    · rename_i e
      rw [if_neg e] at hv
      have := h.gNr v y hv
      split
      · rename_i e2; subst e2; omega
      · exact this
  · intro v v' y hv hv' hg
    simp only [propA] at hv hv' hg
    by_cases e : v = w ∧ y = x <;> by_cases e' : v' = w ∧ y = x
    · rw [e.1, e'.1]
    · rw [if_neg e'] at hv' hg; rw [if_pos e] at hg
      have := (h.gNr v' y hv').2
      rw [e.2] at this hg; omega
    · rw [if_neg e] at hv hg; rw [if_pos e'] at hg
      have := (h.gNr v y hv).2
      rw [e'.2] at this hg; omega
    · rw [if_neg e] at hv hg; rw [if_neg e'] at hv' hg
      exact h.one v v' y hv hv' hg
  · intro v y hv
    obtain ⟨k1, k2, k3⟩ := h.knewr v y hv
    refine ⟨k1, k2, fun z z0 z1 => ?_⟩
    simp only [propA]
    split
    · rfl
    · exact k3 z z0 z1
  · intro y
    have := h.mostr y
    simp only [propA]
    split <;> omega
theorem AInv.propose (h : AInv S i) (x w : Int) : AInv (proposeA S x w).1 (i + 1) := by
  unfold proposeA
  split
  · exact h.mono
  · split
    · exact h.mono
    · rename_i h1 h2; exact h.prop' (by simpa using h1) (by simpa using h2)
theorem AInv.know (h : AInv S i) (he : agrE S.n x w (S.was w) = 0) (ha : allA S w) (hk : S.knew w x = false) : AInv (knowA S x w) (i + 1) := by
  obtain ⟨h1, h2, h3, h4, h5⟩ := agrE_0 he
  obtain ⟨y, y0, y1, hy⟩ := h.fin w
  have hg := h.gNr w y (ha y y0 y1)
  have hm := h.mostr y
  have hmx := h.mostr x
  refine { h with gNr := ?_, knewr := ?_, mostr := ?_, heardr := ?_ }
  · intro v z hv
    have := h.gNr v z hv
    simp only [knowA]
    split
    · rename_i e; subst e; omega
    · exact this
  · intro v z hv
    simp only [knowA] at hv
    split at hv
    · rename_i e; rw [e.1, e.2]; exact ⟨h1, h2, ha⟩
    · exact h.knewr v z hv
  · intro z
    have := h.mostr z
    simp only [knowA]
    rw [hy]
    split <;> omega
  · intro z v hv
    have := h.heardr z v hv
    simp only [knowA]
    split
    · rfl
    · exact this
theorem AInv.hear (h : AInv S i) (x : Int) : AInv (hearS S x).2 i := by
  have key : ∀ k S, AInv S i → AInv (hearL k S x).2 i := by
    intro k
    induction k with
    | zero => intro S h; exact h
    | succ k ih =>
      intro S h
      unfold hearL
      split
      · exact h
      · rename_i hn
        have h0 : best S x ≠ 0 := fun e => hn (.inl e)
        have hk : S.knew (best S x) x = true := by
          cases e : S.knew (best S x) x
          · exact absurd (.inr e) hn
          · rfl
        refine ih _ (h.heard' hk ?_)
        unfold best at h0 ⊢
        split at h0
        · rename_i hx
          rw [dif_pos hx]
          rcases hx.choose_spec with ⟨e, _⟩ | ⟨_, e, _⟩
          · exact absurd e h0
          · exact e
        · exact absurd rfl h0
  exact key _ S h
theorem AInv.settle (h : AInv S i) (x w : Int) : AInv (settleA S x w).1 (i + 1) := by
  unfold settleA
  split
  · exact h.mono
  · split
    · exact h.mono
    · split
      · exact h.mono
      · rename_i h1 h2 h3
        exact (h.know (by simpa using h1) (Classical.not_not.1 h2) (by simpa using h3)).hear x
def agrS (n : Nat) : AS := { n := n, was := fun _ => false, has := fun _ _ => false, gN := fun _ _ => 0, knew := fun _ _ => false, most := fun _ => 0, heard := fun _ => [] }
theorem AInv.new {n : Nat} (h2 : 2 ≤ n) (h5 : n ≤ 5) : AInv (agrS n) 0 where
  n2 := h2
  n5 := h5
  wasr _ h := by cases h
  hasr _ _ h := by cases h
  gNr _ _ h := by cases h
  one _ _ _ h := by cases h
  knewr _ _ h := by cases h
  mostr _ := ⟨Int.le_refl _, Int.le_refl _⟩
  nod _ := List.nodup_nil
  heardr _ _ h := by cases h
end Go.Proofs.Tryd
