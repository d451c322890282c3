/- Slices that are owned: stores, cuts; maps of slices. -/
import Derived.Test.YtgphmpppekghbaaDoorSlRange
namespace Go.Sl
open Go.RowKit
variable {P : Program} [tb : Tabs P] {w0 : World} {H R : HProp} {n : Nat} {env : Env} {o : Oper} {ops : Array Oper} {rest : List Oper} {Q : Exit → Act → World → Prop}
  {d : Tmp} {op : Op} {ty : TypeId} {pos : String} {af : Array Edge} {v : Value} {α : Type} {T : TypeId} {k : Nat} {enc : α → List Value} {xs ys : List α}

omit tb in
theorem PO.osl_shape {φ : Act → World → Prop} [p : PullOsl v H T k enc xs R] (h : ∀ q c, v = .slice q xs.length c → xs.length ≤ c → (xs ≠ [] → ∃ b o, q = some ⟨b, o, none⟩) → PO w0 n env H φ) : PO w0 n env H φ := by
  intro a w ha hw
  rcases (hw.ent p.ent).osl with ⟨h1, h2⟩ | ⟨b, pre, post, m, h1, h2, h3⟩
  · exact h none 0 (by rw [h1, h2]; rfl) (by rw [h2]; exact Nat.le_refl _) (fun e => absurd h2 e) a w ha hw
  · exact h _ _ h1 (by omega) (fun _ => ⟨_, _, rfl⟩) a w ha hw
omit tb in
theorem PO.osl_some {φ : Act → World → Prop} [p : PullOsl v H T k enc xs R] (hne : 0 < xs.length) (h : ∀ b o c, v = .slice (some ⟨b, o, none⟩) xs.length c → xs.length ≤ c → PO w0 n env H φ) : PO w0 n env H φ :=
  PO.osl_shape (p := p) fun q c hv hc hq => by
    obtain ⟨b, o, rfl⟩ := hq (fun e => by simp [e] at hne)
    exact h b o c hv hc
omit tb in
/-- What is owned can be read. -/
theorem PO.rd {φ : Act → World → Prop} [p : PullOsl v H T k enc xs R] (he : Enc k enc) (h : Elems w0 (osl T k enc v xs) k enc v xs → PO w0 n env H φ) : PO w0 n env H φ := by
  intro a w ha hw
  have h2 := PO.osl_read (w0 := w0) (n := n) (env := env) (H := osl T k enc v xs) (R := emp) (φ := fun _ _ => Elems w0 (osl T k enc v xs) k enc v xs) he (Ent.star_emp _) (fun e _ _ _ _ => e) a w ha ((hw.ent p.ent).ent (Ent.left _ _))
  exact h h2 a w ha hw
theorem OpV.loadF {x : Operand} {t : Nat} {ad : Addr} {e : TE} {A : HProp} (hc : ∀ w, Holds w0 A w → w.cell? ad = some v) [f : Frame H A R] (ho : o.op = .load t x) (hx : env.get x = some (.pointer (some ad))) (ht : tb.T t = some e) (ha' : TypeDesc.isAgg e.und = false) : OpV P w0 n env H o v :=
  OpV.loadH ho hx ht ha' fun w hw => hc w (hw.ent (f.ent.trans (Ent.left _ _)))
omit tb in
theorem putAt_mid (pre post : List Value) (x y : Value) : putCells (pre ++ x :: post) pre.length [y] = pre ++ y :: post := by
  unfold putCells
  simp [List.drop_append]
omit tb in
theorem flat_set {enc1 : α → Value} : ∀ (xs : List α) (j : Nat) (z : α), j < xs.length → (xs.set j z).flatMap (fun x => [enc1 x]) = (xs.flatMap fun x => [enc1 x]).set j (enc1 z)
  | [], j, z, h => by simp at h
  | x :: xs, 0, z, _ => by simp
  | x :: xs, j + 1, z, h => by
    have ih := flat_set (enc1 := enc1) xs j z (by simpa using h)
    simp only [List.set_cons_succ, List.flatMap_cons, ih]
    rfl
theorem flat_len {enc1 : α → Value} (xs : List α) : (xs.flatMap fun x => [enc1 x]).length = xs.length := by
  induction xs with
  | nil => rfl
  | cons x xs ih => simp only [List.flatMap_cons, List.length_append, ih, List.length_cons, List.length_nil]; omega
omit tb in
theorem put_one (pre L post : List Value) (j : Nat) (u : Value) (hj : j < L.length) : putCells (pre ++ L ++ post) (pre.length + j) [u] = pre ++ L.set j u ++ post := by
  have h1 : (pre ++ L ++ post).take (pre.length + j) = pre ++ L.take j := by
    rw [List.append_assoc, List.take_append, List.take_of_length_le (by omega), Nat.add_sub_cancel_left, List.take_append_of_le_length (by omega)]
  have h2 : (pre ++ L ++ post).drop (pre.length + j + 1) = L.drop (j + 1) ++ post := by
    rw [List.append_assoc, Nat.add_assoc, List.drop_append, List.drop_eq_nil_of_le (by omega), Nat.add_sub_cancel_left, List.drop_append_of_le_length (by omega)]
    rfl
  unfold putCells
  rw [h1, List.length_singleton, h2, List.set_eq_take_append_cons_drop, if_pos hj]
  simp
theorem PO.storeOsl {x y : Operand} {t b m off len c j : Nat} {e : TE} {enc1 : α → Value} {u : Value} {z : α} (ho : op = .store t x y) (hx : env.get x = some (.pointer (some ⟨b, m, none⟩))) (hy : env.get y = some u) (hu : enc1 z = u) (ht : tb.T t = some e) (hsz : e.size = 1)
    (h1 : u.oneCell' = true) (h2 : u.cells = #[u]) (p : PullOsl (.slice (some ⟨b, off, none⟩) len c) H T 1 (fun x => [enc1 x]) xs R) (hm : m = off + j) (hj : j < xs.length)
    (kk : PO w0 n env (osl T 1 (fun x => [enc1 x]) (.slice (some ⟨b, off, none⟩) len c) (xs.set j z) * R) (wpList P ops Q rest)) : PO w0 n env H (wpList P ops Q (⟨none, op, ty, pos, af, none⟩ :: rest)) := by
  intro a w ha hw
  rcases (hw.ent p.ent).osl with ⟨g1, _⟩ | ⟨b', pre, post, mm, g1, g2, g3⟩
  · cases g1
  · simp only [Value.slice.injEq, Option.some.injEq, Addr.mk.injEq, and_true] at g1
    obtain ⟨⟨rfl, rfl⟩, rfl, rfl⟩ := g1
    have hlen := flat_len (enc1 := enc1) xs
    obtain ⟨w', hr, hw'⟩ := storeCells_run (P := P) [u] (pre ++ (xs.flatMap fun x => [enc1 x]) ++ post) m 0 w g3 (by simpa using h1) (by rw [List.length_append, List.length_append, hlen]; simp; omega)
    refine wpList_plain rfl fun K hK => ?_
    unfold Oper.wp
    subst ho
    have : (execOp a.eval ⟨none, .store t x y, ty, pos, af, none⟩).run P w = .ok .skip w' := by
      simp [execOp, ha.eval hx, ha.eval hy, Instr.storeAt, Instr.sureAddr, storeVar, run_size ht, hsz, h2, hr]
    rw [this]
    refine hK _ _ (kk a w' ha (hw'.ent (Ent.star ?_ (Ent.refl _))))
    rw [Nat.add_zero, hm, put_one pre _ post j u (by rw [hlen]; exact hj), ← hu, ← flat_set xs j z hj]
    refine osl_intro (m := mm) ?_ g2
    rw [List.length_set]
omit tb in
/-- A slice cut at its front. -/
theorem osl_drop (he : Enc k enc) {q : Option Addr} {cap l : Nat} (hl : l ≤ xs.length) : Ent (osl T k enc (.slice q xs.length cap) xs) (osl T k enc (.slice (if cap = l then q else q.map (·.add (l * k))) (xs.length - l) (cap - l)) (xs.drop l)) := by
  intro h hh
  rcases hh with ⟨h1, h2⟩ | ⟨b, pre, post, m, hh⟩
  · subst h2
    obtain ⟨rfl, _, rfl⟩ := Value.slice.inj h1
    have : l = 0 := by simpa using hl
    subst this
    exact .inl ⟨rfl, rfl⟩
  · refine Ent.pur_star (fun hp => ?_) h hh
    obtain ⟨h1, h2⟩ := hp
    obtain ⟨rfl, _, rfl⟩ := Value.slice.inj h1
    have hsplit : pre ++ xs.flatMap enc ++ post = pre ++ (xs.take l).flatMap enc ++ ((xs.drop l).flatMap enc ++ post) := by
      conv => lhs; rw [← List.take_append_drop l xs, List.flatMap_append]
      simp
    by_cases hc : xs.length + m = l
    · have hx : xs.length = l := by omega
      have hm : m = 0 := by omega
      rw [if_pos hc]
      have hd : xs.drop l = [] := List.drop_eq_nil_of_le (by omega)
      rw [hd]
      have e1 : pre ++ xs.flatMap enc ++ post = pre ++ ([] : List α).flatMap enc ++ (xs.flatMap enc ++ post) := by simp
      rw [e1]
      refine osl_intro (m := 0) ?_ (by simp)
      congr 1 <;> simp <;> omega
    · rw [if_neg hc]
      have e1 : pre ++ xs.flatMap enc ++ post = (pre ++ (xs.take l).flatMap enc) ++ (xs.drop l).flatMap enc ++ post := by rw [hsplit]; simp
      rw [e1]
      refine osl_intro (m := m) ?_ h2
      have hlen : ((xs.take l).flatMap enc).length = l * k := by rw [he.flat, List.length_take, Nat.min_eq_left hl]
      simp only [Option.map_some, Addr.add, List.length_append, hlen, List.length_drop]
      rw [show xs.length + m - l = xs.length - l + m by omega]
      simp

/-! ### Blocks of which some cells are known -/
def Fits : List (Option Value) → List Value → Prop
  | [], [] => True
  | none :: g, _ :: l => Fits g l
  | some v :: g, u :: l => v = u ∧ Fits g l
  | _, _ => False
omit tb in
theorem Fits.get : ∀ {g : List (Option Value)} {l : List Value} {i : Nat} {v : Value}, Fits g l → g[i]? = some (some v) → l[i]? = some v
  | [], [], i, v, _, h => by simp at h
  | none :: g, u :: l, 0, v, _, h => by simp at h
  | none :: g, u :: l, i + 1, v, hf, h => by simpa using Fits.get (g := g) (l := l) hf (by simpa using h)
  | some x :: g, u :: l, 0, v, hf, h => by
    simp at h ⊢
    exact hf.1.symm.trans h
  | some x :: g, u :: l, i + 1, v, hf, h => by simpa using Fits.get (g := g) (l := l) hf.2 (by simpa using h)
  | [], _ :: _, _, _, hf, _ => hf.elim
  | none :: _, [], _, _, hf, _ => hf.elim
  | some _ :: _, [], _, _, hf, _ => hf.elim
def celo (b : Nat) (g : List (Option Value)) (t : TypeId) : HProp := ex fun l : List Value => pur (Fits g l) * cels b l t
omit tb in
theorem celo_of {b : Nat} {g : List (Option Value)} {l : List Value} {t : TypeId} (h : Fits g l) : Ent (cels b l t) (celo b g t) := fun _ hh => ⟨l, Ent.star_pur _ h _ hh⟩
class PullCelo (b : Nat) (H : HProp) (g : outParam (List (Option Value))) (t : outParam TypeId) (R : outParam HProp) : Prop where
  ent : Ent H (celo b g t * R)
instance (priority := 2000) PullCelo.hereL (b : Nat) (g : List (Option Value)) (t : TypeId) (R : HProp) : PullCelo b (celo b g t * R) g t R := ⟨Ent.refl _⟩
instance (priority := 1900) PullCelo.hereR (b : Nat) (g : List (Option Value)) (t : TypeId) (L : HProp) : PullCelo b (L * celo b g t) g t L := ⟨Ent.comm _ _⟩
instance (priority := 1800) PullCelo.here (b : Nat) (g : List (Option Value)) (t : TypeId) : PullCelo b (celo b g t) g t emp := ⟨Ent.star_emp _⟩
instance (priority := 1000) PullCelo.goL (b : Nat) (g : List (Option Value)) (t : TypeId) (L R L' : HProp) [p : PullCelo b L g t L'] : PullCelo b (L * R) g t (L' * R) :=
  ⟨(Ent.star p.ent (Ent.refl _)).trans (Ent.assoc _ _ _)⟩
instance (priority := 900) PullCelo.goR (b : Nat) (g : List (Option Value)) (t : TypeId) (L R R' : HProp) [p : PullCelo b R g t R'] : PullCelo b (L * R) g t (L * R') :=
  ⟨(Ent.star (Ent.refl _) p.ent).trans (Ent.swap _ _ _)⟩
theorem OpV.loadO {x : Operand} {t b i : Nat} {e : TE} {g : List (Option Value)} {t' : TypeId} (ho : o.op = .load t x) (hx : env.get x = some (.pointer (some ⟨b, i, none⟩))) (ht : tb.T t = some e) (ha' : TypeDesc.isAgg e.und = false)
    [p : PullCelo b H g t' R] (hg : g[i]? = some (some v)) : OpV P w0 n env H o v := OpV.loadH ho hx ht ha' fun w hw => by
  obtain ⟨l, hw⟩ := (hw.ent p.ent).ex_star
  have hw' := hw.ent (Ent.assoc _ _ _)
  have hf := hw'.pur
  have h2 := hw'.ent (Ent.right _ _)
  rw [h2.cell]
  simpa using hf.get hg
-- A region that turns a part, and keeps something of it.
omit tb in
theorem PO.regionO {R' A2 : HProp} {id : Nat} (A : HProp) (_ : Ent A A2) [f : Frame H A R'] (hm : P.follows .mixedOrders = true) (h : PO w0 n env (A * R') (AnyH P w0 ops Q (A2 * R') ops.size (Array.replicate ops.size false))) : PO w0 n env H ((Code.region id ops true).wp P Q) :=
  PO.ent f.ent (PO.regionH _ hm h)
section
variable {fuel : Nat} {listed : Array Bool} {Hs : HProp}
omit tb in
/-- Number 'i' is taken first; it reads a cell that is known. -/
theorem tkO (i : Nat) (k : PO w0 n ((d, v) :: env) H (AnyH P w0 ops Q Hs fuel (listed.setIfInBounds i true))) (hH : Ent H Hs) (hi : ops[i]? = some ⟨some d, op, ty, pos, af, none⟩ := by exact rfl) (hs : Region.noSelect ops = true := by kernel_rfl)
    (hf : Region.free .any ops listed i = true := by kernel_rfl) (hr : (Region.ready .any ops listed).contains i = true := by kernel_rfl) (hd : Nat.blt d n = true := by exact rfl)
    (hv : OpV P w0 n env Hs ⟨some d, op, ty, pos, af, none⟩ v := by
      first
        | exact OpV.ev rfl
        | exact OpV.loadO rfl rfl rfl rfl rfl
        | exact OpV.load rfl rfl rfl rfl rfl
        | exact OpV.load_agg rfl rfl rfl rfl rfl
        | exact OpV.add64 rfl rfl rfl (by omega)
        | exact OpV.sub64 rfl rfl rfl (by omega)) : PO w0 n env H (AnyH P w0 ops Q Hs (fuel + 1) listed) :=
  PO.take i hi hs hf hr hd hH hv k
end
/-! ### Turns of phrase -/
omit tb in
theorem Ent.purL {p : Prop} {A : HProp} (hp : p) (h : Ent H (A * R)) : Ent H (pur p * A * R) := h.trans (Ent.star (Ent.star_pur _ hp) (Ent.refl _))
omit tb in
theorem PO.nodup {κ : Type} [DecidableEq κ] {ek : κ → Value} {φ : Act → World → Prop} (b : Nat) {l : List (κ × Value)} [p : PullMap b H ek l R] (h : (l.map (·.1)).Nodup → PO w0 n env H φ) : PO w0 n env H φ := fun a w ha hw => by
  obtain ⟨_, _, _, h2, _⟩ := (hw.ent p.ent).map
  exact h h2 a w ha hw
omit tb in
/-- A part of what holds, turned. -/
theorem PO.fold {φ : Act → World → Prop} {A B : HProp} (e : Ent A B) [f : Frame H A R] (h : PO w0 n env (B * R) φ) : PO w0 n env H φ := PO.ent (f.ent.trans (Ent.star e (Ent.refl _))) h
omit tb in
theorem PO.entrySet {κ : Type} [DecidableEq κ] {ek : κ → Value} {x i y : Operand} {t b j s : Nat} {q : κ} {u : Value} {l l' : List (κ × Value)} (ho : op = .entryStore t x i y) (hx : env.get x = some (.map (some b))) (hi : env.get i = some (.int .i64 s)) (hy : env.get y = some v)
    [p : PullMapAt b H ek l j s R] (hl : l[j]? = some (q, u)) (hl' : l.set j (q, v) = l') (kk : PO w0 n env (omap ek b l' * R) (wpList P ops Q rest)) : PO w0 n env H (wpList P ops Q (⟨none, op, ty, pos, af, none⟩ :: rest)) := by
  subst hl'
  exact PO.entryStore ho hx hi hy hl kk
section
variable {β γ δ : Type}
def Again2 (w0 : World) (n : Nat) (I : β → γ → Prop) (E : β → γ → Env) (Hs : β → γ → HProp) (μ : β → γ → Nat) (x : β) (y : γ) : Act → World → Prop :=
  Again w0 n (fun p : β × γ => I p.1 p.2) (fun p => E p.1 p.2) (fun p => Hs p.1 p.2) (fun p => μ p.1 p.2) (x, y)
def Again3 (w0 : World) (n : Nat) (I : β → γ → δ → Prop) (E : β → γ → δ → Env) (Hs : β → γ → δ → HProp) (μ : β → γ → δ → Nat) (x : β) (y : γ) (z : δ) : Act → World → Prop :=
  Again w0 n (fun p : β × γ × δ => I p.1 p.2.1 p.2.2) (fun p => E p.1 p.2.1 p.2.2) (fun p => Hs p.1 p.2.1 p.2.2) (fun p => μ p.1 p.2.1 p.2.2) (x, y, z)
omit tb in
theorem PO.while2 (I : β → γ → Prop) (E : β → γ → Env) (Hs : β → γ → HProp) (μ : β → γ → Nat) (x0 : β) (y0 : γ) {c : Code} (hI : I x0 y0) (hH : Ent H (Hs x0 y0))
    (round : ∀ x y, I x y → PO w0 n (E x y) (Hs x y) (c.wp P (Exit.then (Again2 w0 n I E Hs μ x y) Q))) (hE : EnvSub env (E x0 y0) := by
      repeat (first
        | exact EnvSub.nil
        | refine EnvSub.cons rfl ?_
        | refine EnvSub.cons (lookI rfl (by omega)) ?_
        | refine EnvSub.cons (lookV rfl (by assumption)) ?_)) : PO w0 n env H ((Code.loop c).wp P Q) :=
  PO.loop (fun p : β × γ => I p.1 p.2) (fun p => E p.1 p.2) (fun p => Hs p.1 p.2) (fun p => μ p.1 p.2) (x0, y0) hI hE hH (fun p h => round p.1 p.2 h)
omit tb in
theorem PO.again2 {I : β → γ → Prop} {E : β → γ → Env} {Hs : β → γ → HProp} {μ : β → γ → Nat} {x : β} {x' : γ} (y : β) (z : γ) (hI : I y z) (hm : μ y z < μ x x') (hH : Ent H (Hs y z)) (hE : EnvSub env (E y z) := by
      repeat (first
        | exact EnvSub.nil
        | refine EnvSub.cons rfl ?_
        | refine EnvSub.cons (lookI rfl (by omega)) ?_
        | refine EnvSub.cons (lookV rfl (by assumption)) ?_)) : PO w0 n env H (Again2 w0 n I E Hs μ x x') :=
  fun _ _ ha hw => ⟨(y, z), hI, hm, ha.sub hE, hw.ent hH⟩
omit tb in
theorem PO.while3 (I : β → γ → δ → Prop) (E : β → γ → δ → Env) (Hs : β → γ → δ → HProp) (μ : β → γ → δ → Nat) (x0 : β) (y0 : γ) (z0 : δ) {c : Code} (hI : I x0 y0 z0) (hH : Ent H (Hs x0 y0 z0))
    (round : ∀ x y z, I x y z → PO w0 n (E x y z) (Hs x y z) (c.wp P (Exit.then (Again3 w0 n I E Hs μ x y z) Q))) (hE : EnvSub env (E x0 y0 z0) := by
      repeat (first
        | exact EnvSub.nil
        | refine EnvSub.cons rfl ?_
        | refine EnvSub.cons (lookI rfl (by omega)) ?_
        | refine EnvSub.cons (lookV rfl (by assumption)) ?_)) : PO w0 n env H ((Code.loop c).wp P Q) :=
  PO.loop (fun p : β × γ × δ => I p.1 p.2.1 p.2.2) (fun p => E p.1 p.2.1 p.2.2) (fun p => Hs p.1 p.2.1 p.2.2) (fun p => μ p.1 p.2.1 p.2.2) (x0, y0, z0) hI hE hH (fun p h => round p.1 p.2.1 p.2.2 h)
omit tb in
theorem PO.again3 {I : β → γ → δ → Prop} {E : β → γ → δ → Env} {Hs : β → γ → δ → HProp} {μ : β → γ → δ → Nat} {x : β} {x' : γ} {x'' : δ} (y : β) (z : γ) (z' : δ) (hI : I y z z') (hm : μ y z z' < μ x x' x'') (hH : Ent H (Hs y z z')) (hE : EnvSub env (E y z z') := by
      repeat (first
        | exact EnvSub.nil
        | refine EnvSub.cons rfl ?_
        | refine EnvSub.cons (lookI rfl (by omega)) ?_
        | refine EnvSub.cons (lookV rfl (by assumption)) ?_)) : PO w0 n env H (Again3 w0 n I E Hs μ x x' x'') :=
  fun _ _ ha hw => ⟨(y, z, z'), hI, hm, ha.sub hE, hw.ent hH⟩
end
/-! ### A map whose values are slices -/
section
variable {κ : Type} [DecidableEq κ] {W : OM κ (List α)}
abbrev nilS : Value := .slice none 0 0
/-- What a key has. -/
def oxs (W : OM κ (List α)) (q : κ) : List α := ((oget W q).map (·.2)).getD []
omit tb in
theorem pays_way (q : κ) : Ent (pays (fun v xs => osl T k enc v xs) W) (osl T k enc ((mget (omv W) q).getD nilS) (oxs W q) * pays (fun v xs => osl T k enc v xs) (odel W q)) := by
  unfold oxs
  rw [mget_omv]
  cases h : oget W q with
  | none =>
    rw [odel_none h]
    exact (Ent.emp_star _).trans (Ent.star osl_nil (Ent.refl _))
  | some p => exact pays_take h
omit tb in
theorem pays_back (W : OM κ (List α)) (q : κ) (v : Value) (ys : List α) : Ent (osl T k enc v ys * pays (fun v xs => osl T k enc v xs) (odel W q)) (pays (fun v xs => osl T k enc v xs) (oset W q (v, ys))) := pays_put
omit tb in
theorem oxs_oset (q q' : κ) (v : Value) (ys : List α) : oxs (oset W q (v, ys)) q' = if q = q' then ys else oxs W q' := by
  unfold oxs
  rw [oget_oset]
  split <;> rfl
end
end Go.Sl
