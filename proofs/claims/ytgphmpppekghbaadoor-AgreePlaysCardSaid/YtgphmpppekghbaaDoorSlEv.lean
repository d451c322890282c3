/- One evaluator for the operations that need no memory and no bounds. -/
import Derived.Test.YtgphmpppekghbaaDoorSlMem
namespace Go.Sl
open Go.RowKit

def evCmp (op : BinOp) (p q : Int) : Option Value :=
  match op with
  | .eql => some (.bool (decide (p = q)))
  | .neq => some (.bool (decide (p ≠ q)))
  | .lss => some (.bool (decide (p < q)))
  | .leq => some (.bool (decide (p ≤ q)))
  | .gtr => some (.bool (decide (q < p)))
  | .geq => some (.bool (decide (q ≤ p)))
  | _ => none
def Operand.isConst : Operand → Bool | .const _ => true | _ => false
def TE.isIface (e : TE) : Bool := match e.und with | .interface _ => true | _ => false
def TE.isSlice (e : TE) : Bool := match e.und with | .slice _ => true | _ => false
def TE.isString (e : TE) : Bool := match e.und with | .string => true | _ => false
def TE.isBool (e : TE) : Bool := match e.und with | .bool => true | _ => false
def TE.isPtr (e : TE) : Bool := match e.und with | .pointer _ => true | _ => false
def TE.fields (e : TE) : Option (Array Field) := match e.und with | .struct fs => some fs | _ => none
/-- '==' with nil, and on bools: the answer. -/
def evEql (T : TypeId → Option TE) (t : TypeId) (yc : Bool) (u v : Value) : Option Bool :=
  match u, v with
  | .nilIface, .nilIface => match T t with | some e => bif e.isIface && yc then some true else none | none => none
  | .iface _ _, .nilIface => match T t with | some e => bif e.isIface then some false else none | none => none
  | .bool a, .bool b => match T t with | some e => bif e.isBool then some (a == b) else none | none => none
  | .slice none _ _, .slice none _ _ => match T t with | some e => bif e.isSlice then some true else none | none => none
  | .slice (some _) _ _, .slice none _ _ => match T t with | some e => bif e.isSlice then some false else none | none => none
  | .pointer (some _), .pointer none => match T t with | some e => bif e.isPtr then some false else none | none => none
  | .pointer none, .pointer none => match T t with | some e => bif e.isPtr then some true else none | none => none
  | _, _ => none
def evBin (T : TypeId → Option TE) (op : BinOp) (t : TypeId) (yc : Bool) (u v : Value) : Option Value :=
  match u, v with
  | .int k p, .int k' q => bif decide (k = k') then evCmp op p q else none
  | .string a, .string b => match op with
    | .eql => some (.bool (a.toList == b.toList))
    | .neq => some (.bool (!(a.toList == b.toList)))
    | _ => none
  | u, v => match op with
    | .eql => match evEql T t yc u v with | some b => some (.bool b) | none => none
    | .neq => match evEql T t yc u v with | some b => some (.bool !b) | none => none
    | _ => none
def evLen (T : TypeId → Option TE) (env : Env) (as : Array Operand) (ts : Array TypeId) : Option Value :=
  match as[0]?, ts[0]?, as[1]?, ts[1]? with
    | some x, some t, none, none => match env.get x, T t with
      | some (.slice _ l _), some e => bif e.isSlice then some (.int .i64 l) else none
      | some (.string s), some e => bif e.isString then some (.int .i64 s.size) else none
      | _, _ => none
    | _, _, _, _ => none
def evMax (env : Env) (as : Array Operand) : Option Value :=
  match as[0]?, as[1]?, as[2]? with
    | some x, some y, none => match env.get x, env.get y with
      | some (.int .i64 p), some (.int .i64 q) => some (.int .i64 (max p q))
      | _, _ => none
    | _, _, _ => none
def evMin (env : Env) (as : Array Operand) : Option Value :=
  match as[0]?, as[1]?, as[2]? with
    | some x, some y, none => match env.get x, env.get y with
      | some (.int .i64 p), some (.int .i64 q) => some (.int .i64 (min p q))
      | _, _ => none
    | _, _, _ => none
def nthV : List Value → Nat → Option Value
  | [], _ => none
  | v :: _, 0 => some v
  | _ :: r, i + 1 => nthV r i
theorem nthV_ok : ∀ {l : List Value} {i : Nat} {v : Value}, nthV l i = some v → l[i]? = some v
  | [], i, v, h => by cases h
  | u :: r, 0, v, h => by simpa [nthV] using h
  | u :: r, i + 1, v, h => by
    have := nthV_ok (l := r) (i := i) h
    simpa using this
/-- A field: its place and its type. -/
def fieldAt : List Field → Nat → Option (Nat × TypeId)
  | [], _ => none
  | ⟨_, ty, off, _, _, _, _⟩ :: _, 0 => some (off, ty)
  | _ :: r, i + 1 => fieldAt r i
theorem fieldAt_ok : ∀ {l : List Field} {i off ty : Nat}, fieldAt l i = some (off, ty) → ∃ f, l[i]? = some f ∧ f.offset = off ∧ f.type = ty
  | [], i, off, ty, h => by cases h
  | f :: r, 0, off, ty, h => by
    simp only [fieldAt, Option.some.injEq, Prod.mk.injEq] at h
    exact ⟨f, rfl, h.1, h.2⟩
  | f :: r, i + 1, off, ty, h => by
    obtain ⟨g, h1, h2⟩ := fieldAt_ok (l := r) (i := i) h
    exact ⟨g, by simpa using h1, h2⟩
/-- The parts of a struct put in their places. -/
def evParts (T : TypeId → Option TE) (env : Env) (fs : Array Field) : List (Nat × Operand) → List Value → Option (List Value)
  | [], z => some z
  | (i, x) :: r, z => match env.get x, fs[i]? with
    | some v, some f => match T f.type with
      | some e => bif Nat.beq v.cells.size e.size && Nat.blt 0 e.size then match putAt z f.offset v.cells.toList with
        | some z' => evParts T env fs r z'
        | none => none else none
      | none => none
    | _, _ => none
def evBuild (T : TypeId → Option TE) (env : Env) (t : TypeId) (ps : List (Nat × Operand)) : Option Value :=
  match T t with
  | some e => match e.fields, e.zero with
    | some fs, .agg z => bif fs.toList.all (fun f => (T f.type).isSome) then match evParts T env fs ps z.toList with
      | some cs => some (.agg cs.toArray)
      | none => none else none
    | _, _ => none
  | none => none
def ev (T : TypeId → Option TE) (env : Env) : Op → Option Value
  | .build t ps => evBuild T env t ps.toList
  | .move x => env.get x
  | .assign x => env.get x
  | .pick c x y => match env.get c with
    | some (.bool t) => match t with | true => env.get x | false => env.get y
    | _ => none
  | .unOp .not _ x => match env.get x with | some (.bool b) => some (.bool !b) | _ => none
  | .extract t i => match env.get t with | some (.tuple vs) => nthV vs.toList i | _ => none
  | .binOp op t x y _ => match env.get x, env.get y with
    | some u, some v => evBin T op t (Operand.isConst y) u v
    | _, _ => none
  | .nilCheck x => match env.get x with
    | some (.pointer (some a)) => some (.pointer (some a))
    | some (.func (.func f) a b) => some (.func (.func f) a b)
    | _ => none
  | .makeInterface t x => match env.get x, T t with
    | some v, some e => bif e.isIface then none else some (.iface t v)
    | _, _ => none
  | .fieldAddr t x i => match env.get x, T t with
    | some (.pointer (some ⟨b, k, none⟩)), some e => match e.fields with
      | some fs => match fieldAt fs.toList i with
        | some (off, ty) => match T ty with
          | some e' => bif Nat.beq e'.size 0 then none else some (.pointer (some ⟨b, k + off, none⟩))
          | none => none
        | none => none
      | none => none
    | _, _ => none
  | .field t x i => match env.get x, T t with
    | some (.agg cs), some e => match e.fields with
      | some fs => match fieldAt fs.toList i with
        | some (off, ty) => match T ty with
          | some e' => bif TypeDesc.isAgg e'.und then (match takeAt cs.toList off e'.size with | some vs => some (.agg vs.toArray) | none => none) else nthV cs.toList off
          | none => none
        | none => none
      | none => none
    | _, _ => none
  | .call ⟨.builtin .len, as, ts⟩ => evLen T env as ts
  | .call ⟨.builtin .max, as, _⟩ => evMax env as
  | .call ⟨.builtin .min, as, _⟩ => evMin env as
  | _ => none

variable {P : Program} [tb : Tabs P] {w0 : World} {n : Nat} {env : Env} {H R : HProp} {o : Oper}

omit tb in
theorem eqGuard_ok (op : BinOp) (t : TypeId) (x y : Operand) (u v : Value) (w : World) (h1 : u = .nilIface → v = .nilIface → Operand.isConst y = true) (h2 : ∀ a, u ≠ .agg a) : (eqGuard op t x y u v).run P w = .ok () w := by
  by_cases hn : u = .nilIface ∧ v = .nilIface
  · obtain ⟨rfl, rfl⟩ := hn
    have hy := h1 rfl rfl
    cases y <;> simp [Operand.isConst] at hy
    unfold eqGuard
    cases op <;> simp
  · unfold eqGuard
    cases op <;> simp <;> (split <;> simp_all)

theorem isIface_und {e : TE} (h : e.isIface = true) : ∃ ms, e.und = .interface ms := by
  unfold TE.isIface at h; split at h <;> simp_all
theorem isSlice_und {e : TE} (h : e.isSlice = true) : ∃ ms, e.und = .slice ms := by
  unfold TE.isSlice at h; split at h <;> simp_all
theorem isString_und {e : TE} (h : e.isString = true) : e.und = .string := by
  unfold TE.isString at h; split at h <;> simp_all
theorem isBool_und {e : TE} (h : e.isBool = true) : e.und = .bool := by
  unfold TE.isBool at h; split at h <;> simp_all
theorem isPtr_und {e : TE} (h : e.isPtr = true) : ∃ ms, e.und = .pointer ms := by
  unfold TE.isPtr at h; split at h <;> simp_all
theorem fields_und {e : TE} {fs : Array Field} (h : e.fields = some fs) : e.und = .struct fs := by
  unfold TE.fields at h; split at h <;> simp_all

omit tb in
/-- What '==' comes to at any depth but 0. -/
theorem run_equal_of {t : TypeId} {u v : Value} {b : Bool} {w : World} (h : ∀ d, (Op.equalIn (d + 1) t u v).run P w = .ok b w) : (Op.equal t u v).run P w = .ok b w := h 9999
theorem run_evEql {t : TypeId} {u v : Value} {b : Bool} {yc : Bool} (h : evEql tb.T t yc u v = some b) (w : World) :
    (Op.equal t u v).run P w = .ok b w ∧ (u = .nilIface → v = .nilIface → yc = true) ∧ (∀ a, u ≠ .agg a) ∧ (∀ k p, u ≠ .int k p) ∧ (∀ s, u ≠ .string s) ∧ (∀ k p, u ≠ .float k p) ∧ (∀ k p q, u ≠ .complex k p q) := by
  unfold evEql at h
  split at h
  · split at h
    · rename_i e ht
      cases hb : e.isIface <;> cases yc <;> rw [hb] at h <;> simp at h
      subst h
      obtain ⟨ms, hu⟩ := isIface_und hb
      refine ⟨run_equal_of fun d => by simp [Op.equalIn, run_und ht, hu], ?_⟩
      simp
    · cases h
  · split at h
    · rename_i e ht
      cases hb : e.isIface <;> rw [hb] at h <;> simp at h
      subst h
      obtain ⟨ms, hu⟩ := isIface_und hb
      refine ⟨run_equal_of fun d => by simp [Op.equalIn, run_und ht, hu], ?_⟩
      simp
    · cases h
  · split at h
    · rename_i e ht
      cases hb : e.isBool <;> rw [hb] at h <;> simp at h
      subst h
      have hu := isBool_und hb
      refine ⟨run_equal_of fun d => by simp [Op.equalIn, run_und ht, hu], ?_⟩
      simp
    · cases h
  · split at h
    · rename_i e ht
      cases hb : e.isSlice <;> rw [hb] at h <;> simp at h
      subst h
      obtain ⟨ms, hu⟩ := isSlice_und hb
      refine ⟨run_equal_of fun d => by simp [Op.equalIn, run_und ht, hu], ?_⟩
      simp
    · cases h
  · split at h
    · rename_i e ht
      cases hb : e.isSlice <;> rw [hb] at h <;> simp at h
      subst h
      obtain ⟨ms, hu⟩ := isSlice_und hb
      refine ⟨run_equal_of fun d => by simp [Op.equalIn, run_und ht, hu], ?_⟩
      simp
    · cases h
  · split at h
    · rename_i e ht
      cases hb : e.isPtr <;> rw [hb] at h <;> simp at h
      subst h
      obtain ⟨ms, hu⟩ := isPtr_und hb
      refine ⟨run_equal_of fun d => by simp [Op.equalIn, run_und ht, hu], ?_⟩
      simp
    · cases h
  · split at h
    · rename_i e ht
      cases hb : e.isPtr <;> rw [hb] at h <;> simp at h
      subst h
      obtain ⟨ms, hu⟩ := isPtr_und hb
      refine ⟨run_equal_of fun d => by simp [Op.equalIn, run_und ht, hu], ?_⟩
      simp
    · cases h
  · cases h

theorem run_evBin {op : BinOp} {t : TypeId} {x y : Operand} {u v r : Value} (h : evBin tb.T op t (Operand.isConst y) u v = some r) (w : World) :
    (eqGuard op t x y u v).run P w = .ok () w ∧ (binOp op t u v).run P w = .ok r w := by
  unfold evBin at h
  split at h
  · rename_i k p k' q
    cases hk : decide (k = k') <;> rw [hk] at h
    · cases h
    · have hk' : k = k' := by simpa using hk
      subst hk'
      refine ⟨eqGuard_int op t x y p q k k w, ?_⟩
      unfold evCmp at h
      simp only [cond_true] at h
      cases op <;> simp at h <;> subst h <;> simp [binOp, Op.intCmp, bne] <;> rfl
  · rename_i a b
    refine ⟨eqGuard_ok op t x y _ _ w (by simp) (by simp), ?_⟩
    split at h <;> simp at h <;> subst h <;> simp [binOp, Op.stringOp]
  · rename_i hn1 hn2
    split at h
    · split at h
      · rename_i b hb
        obtain ⟨h1, h2, h3, h4, h5, h6, h7⟩ := run_evEql hb w
        simp at h; subst h
        refine ⟨eqGuard_ok _ t x y _ _ w h2 h3, ?_⟩
        unfold binOp
        split <;> simp_all
      · cases h
    · split at h
      · rename_i b hb
        obtain ⟨h1, h2, h3, h4, h5, h6, h7⟩ := run_evEql hb w
        simp at h; subst h
        refine ⟨eqGuard_ok _ t x y _ _ w h2 h3, ?_⟩
        unfold binOp
        split <;> simp_all
      · cases h
    · cases h

omit tb in
theorem fold_put : ∀ (vs l : List Value) (off k : Nat), off + k + vs.length ≤ l.length → (vs.zipIdx k).foldl (fun (cs : Array Value) (x : Value × Nat) => cs.setIfInBounds (off + x.2) x.1) l.toArray = (putCells l (off + k) vs).toArray
  | [], l, off, k, _ => by simp [putCells]
  | v :: vs, l, off, k, h => by
    simp only [List.length_cons] at h
    simp only [List.zipIdx_cons, List.foldl_cons, List.setIfInBounds_toArray]
    rw [fold_put vs (l.set (off + k) v) off (k + 1) (by simp; omega)]
    unfold putCells
    simp only [List.length_cons]
    have h2 : (l.set (off + k) v).take (off + (k + 1)) = l.take (off + k) ++ [v] := by
      rw [← Nat.add_assoc, List.take_succ_eq_append_getElem (by simp; omega)]
      simp [List.take_set_of_le]
    rw [h2, List.drop_set_of_lt (by omega)]
    simp [Nat.add_assoc, Nat.add_comm 1]
theorem evParts_fill {fs : Array Field} {a : Act} (ha : Agree n env a) {sz : TypeId → Nat} (hsz : ∀ t e, tb.T t = some e → sz t = e.size) : ∀ {ps : List (Nat × Operand)} {z cs : List Value}, evParts tb.T env fs ps z = some cs →
    Instr.fill (fun i => fs[i]?.map fun f => (f.offset, sz f.type)) z.toArray (ps.map fun p => (p.1, a.eval p.2)) = some cs.toArray
  | [], z, cs, h => by simp [evParts] at h; simp [Instr.fill, h]
  | (i, x) :: r, z, cs, h => by
    unfold evParts at h
    split at h
    · rename_i v f hx hf
      split at h
      · rename_i e he
        cases hs : Nat.beq v.cells.size e.size && Nat.blt 0 e.size <;> rw [hs] at h
        · cases h
        · simp only [Bool.and_eq_true] at hs
          have hs' := Nat.eq_of_beq_eq_true hs.1
          have hpos : 0 < e.size := by simpa using hs.2
          simp only [cond_true] at h
          split at h
          · rename_i z' hz'
            obtain ⟨h1, h2⟩ := putAt_ok hz'
            have ih := evParts_fill ha hsz h
            have h1' : f.offset + v.cells.toList.length ≤ z.length := by
              rcases h1 with h1 | h1
              · have h0 : v.cells.size = 0 := by have := congrArg List.length h1; simpa using this
                omega
              · exact h1
            have hgt : ¬ (v.cells.size ≠ sz f.type ∨ f.offset + v.cells.size > z.toArray.size) := by
              rw [hsz _ _ he, hs']
              simp at h1' ⊢; omega
            have hfold : (v.cells.zipIdx.foldl (fun (cs : Array Value) (x : Value × Nat) => cs.setIfInBounds (f.offset + x.2) x.1) z.toArray) = z'.toArray := by
              rw [← Array.foldl_toList, Array.toList_zipIdx, fold_put _ _ _ _ (by simpa using h1'), Nat.add_zero, h2]
            have hfold' : (v.cells.zipIdx.foldl (fun (cs : Array Value) x => match x with | (c, j) => cs.setIfInBounds (f.offset + j) c) z.toArray) = z'.toArray := hfold
            simp only [List.map_cons]
            unfold Instr.fill
            simp only [hf, Option.map_some, ha.eval hx, Bool.or_eq_true, decide_eq_true_eq, if_neg hgt, hfold', ih]
          · cases h
      · cases h
    · cases h
theorem run_evBuild {t : TypeId} {ps : List (Nat × Operand)} {v : Value} {a : Act} (ha : Agree n env a) (h : evBuild tb.T env t ps = some v) (w : World) : (Instr.build t (ps.toArray.map fun (i, x) => (i, a.eval x))).run P w = .ok v w := by
  unfold evBuild at h
  split at h
  · rename_i e ht
    split at h
    · rename_i fs z hfs hz
      cases hall : fs.toList.all (fun f => (tb.T f.type).isSome) <;> rw [hall] at h
      · cases h
      · simp only [cond_true] at h
        split at h
        · rename_i cs hcs
          obtain rfl := Option.some.inj h
          have hu := fields_und hfs
          have hplaces : ∀ (l : List Field), l.all (fun f => (tb.T f.type).isSome) = true → (l.mapM fun f => Prod.mk f.offset <$> sizeOf f.type).run P w = .ok (l.map fun f => (f.offset, ((tb.T f.type).map TE.size).getD 0)) w := by
            intro l
            induction l with
            | nil => intro _; simp
            | cons f l ih =>
              intro hl
              simp only [List.all_cons, Bool.and_eq_true] at hl
              obtain ⟨e', he'⟩ := Option.isSome_iff_exists.1 hl.1
              simp [List.mapM_cons, run_size he', ih hl.2, he']
          have hfill := evParts_fill ha (sz := fun t => ((tb.T t).map TE.size).getD 0) (fun t e he => by simp [he]) hcs
          have hp := hplaces fs.toList hall
          have hparts : (ps.toArray.map fun (i, x) => (i, a.eval x)).toList = ps.map fun p => (p.1, a.eval p.2) := by simp
          unfold Instr.build
          simp only [Sem.run_bind, run_zero ht, hz, Result.andThen_ok, run_und ht, hu, hparts, bind_pure_comp, Array.mapM_eq_mapM_toList, Sem.run_map, hp]
          have hmap : (fs.toList.map fun f => (f.offset, ((tb.T f.type).map TE.size).getD 0)).toArray = fs.map fun f => (f.offset, ((tb.T f.type).map TE.size).getD 0) := by
            apply Array.toList_inj.1; simp
          rw [hmap]
          have hcells : (Value.agg z).cells = z.toList.toArray := by simp [Value.cells]
          have hpl : (fun x : Nat => (fs.map fun f : Field => (f.offset, ((tb.T f.type).map TE.size).getD 0))[x]?) = fun i : Nat => fs[i]?.map fun f : Field => (f.offset, ((tb.T f.type).map TE.size).getD 0) := by
            funext i; simp
          rw [hcells, hpl, hfill]
          simp
        · cases h
    · cases h
  · cases h

omit tb in
theorem two_of {as : Array Operand} {x y : Operand} (h0 : as[0]? = some x) (h1 : as[1]? = some y) (h2 : as[2]? = none) : as = #[x, y] := by
  apply Array.ext_getElem?
  intro i
  match i with
  | 0 => simpa using h0
  | 1 => simpa using h1
  | i + 2 =>
    have : as.size ≤ 2 := by simpa using h2
    rw [Array.getElem?_eq_none (by omega)]; simp
theorem OpV.ev {v : Value} (h : Sl.ev tb.T env o.op = some v) : OpV P w0 n env H o v := by
  cases ho : o.op <;> rw [ho] at h <;> simp only [Sl.ev] at h <;> try (cases h; done)
  case move x => exact OpV.move ho h
  case assign x => exact OpV.assign ho h
  case pick c x y =>
    split at h
    · rename_i t hc
      split at h
      · exact OpV.pick_true ho hc h
      · exact OpV.pick_false ho hc h
    · cases h
  case unOp op t x =>
    cases op <;> simp at h
    split at h
    · rename_i b hb; simp at h; subst h; exact OpV.not ho hb
    · cases h
  case extract t i =>
    split at h
    · rename_i vs hv; exact OpV.extract ho hv (by simpa using nthV_ok h)
    · cases h
  case binOp op t x y t' =>
    split at h
    · rename_i u v' hu hv
      intro a w ha _
      obtain ⟨h1, h2⟩ := run_evBin (P := P) (x := x) h w
      simp [execOp, ho, ha.eval hu, ha.eval hv, h1, h2]
    · cases h
  case nilCheck x =>
    split at h
    · rename_i a hx; simp at h; subst h; exact OpV.nilCheck_ptr ho hx
    · rename_i f a b hx; simp at h; subst h; exact OpV.nilCheck_func ho hx
    · cases h
  case makeInterface t x =>
    split at h
    · rename_i u e hx ht
      cases hi : e.isIface <;> rw [hi] at h <;> simp at h
      subst h
      refine OpV.makeInterface ho hx ht ?_
      unfold TE.isIface at hi
      split <;> simp_all
    · cases h
  case fieldAddr t x i =>
    split at h
    · rename_i b k e hx ht
      split at h
      · rename_i fs hfs
        split at h
        · rename_i off ty hf
          obtain ⟨f, hf1, rfl, rfl⟩ := fieldAt_ok hf
          split at h
          · rename_i e' ht'
            cases hz : Nat.beq e'.size 0 <;> rw [hz] at h <;> simp at h
            subst h
            exact OpV.fieldAddr ho hx ht (fields_und hfs) (by simpa using hf1) ht' hz
          · cases h
        · cases h
      · cases h
    · cases h
  case build t ps =>
    intro a w ha hw
    have := run_evBuild (P := P) ha h w
    simp only [execOp, ho, Sem.run_bind]
    simp only [Array.toArray_toList] at this
    rw [this]
    simp
  case field t x i =>
    split at h
    · rename_i cs e hx ht
      split at h
      · rename_i fs hfs
        split at h
        · rename_i off ty hf
          obtain ⟨f, hf1, rfl, rfl⟩ := fieldAt_ok hf
          split at h
          · rename_i e' ht'
            cases hz : TypeDesc.isAgg e'.und <;> rw [hz] at h <;> simp only [cond_true, cond_false] at h
            · exact OpV.field ho hx ht (fields_und hfs) (by simpa using hf1) ht' hz (by simpa using nthV_ok h)
            · split at h
              · rename_i vs hvs
                simp at h; subst h
                obtain ⟨_, h4⟩ := takeAt_ok hvs
                have := OpV.field_agg (H := H) (P := P) (w0 := w0) (n := n) ho hx ht (fields_und hfs) (by simpa using hf1) ht' hz
                have e1 : cs.extract f.offset (f.offset + e'.size) = vs.toArray := by
                  apply Array.toList_inj.1
                  rw [Array.toList_extract, List.extract_eq_take_drop, Nat.add_sub_cancel_left]
                  exact h4
                rw [e1] at this; exact this
              · cases h
          · cases h
        · cases h
      · cases h
    · cases h
  case call c =>
    obtain ⟨ce, as, ts⟩ := c
    cases ce <;> try (cases h; done)
    rename_i b
    cases b <;> try (cases h; done)
    case max =>
      replace h : evMax env as = some v := h
      unfold evMax at h
      split at h
      · rename_i x y h0 h1 h2
        have hs := two_of h0 h1 h2
        subst hs
        split at h
        · rename_i p q hx hy
          simp at h; subst h
          intro a w ha hw
          have hm : (if q > p then q else p) = max p q := by omega
          simp [execOp, ho, ha.eval hx, ha.eval hy, resolve, invoke, builtin, Builtin.max_, Builtin.max2, hm]
        · cases h
      · cases h
    case min =>
      replace h : evMin env as = some v := h
      unfold evMin at h
      split at h
      · rename_i x y h0 h1 h2
        have hs := two_of h0 h1 h2
        subst hs
        split at h
        · rename_i p q hx hy
          simp at h; subst h
          intro a w ha hw
          have hm : (if q < p then q else p) = min p q := by omega
          simp [execOp, ho, ha.eval hx, ha.eval hy, resolve, invoke, builtin, Builtin.min_, Builtin.min2, hm]
        · cases h
      · cases h
    replace h : evLen tb.T env as ts = some v := h
    unfold evLen at h
    split at h
    · rename_i x t h0 h1 h2 h3
      have hs : as = #[x] := by
        apply Array.ext_getElem?
        intro i
        match i with
        | 0 => simpa using h0
        | 1 => simpa using h2
        | i + 2 =>
          have : as.size ≤ 1 := by simpa using h2
          rw [Array.getElem?_eq_none (by omega)]; simp
      have hs' : ts = #[t] := by
        apply Array.ext_getElem?
        intro i
        match i with
        | 0 => simpa using h1
        | 1 => simpa using h3
        | i + 2 =>
          have : ts.size ≤ 1 := by simpa using h3
          rw [Array.getElem?_eq_none (by omega)]; simp
      subst hs hs'
      split at h
      · rename_i a l c e hx ht
        cases hi : e.isSlice <;> rw [hi] at h <;> simp at h
        subst h
        obtain ⟨el, hu⟩ := isSlice_und hi
        exact OpV.len_slice ho hx ht hu
      · rename_i s e hx ht
        cases hi : e.isString <;> rw [hi] at h <;> simp at h
        subst h
        exact OpV.len_string ho hx ht (isString_und hi)
      · cases h
    · cases h
end Go.Sl
