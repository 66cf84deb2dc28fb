import Derived.Test.YtjbcafbeafhdpaaGreatDoorSL
set_option maxRecDepth 10000
set_option linter.unusedVariables false
set_option linter.unusedSimpArgs false
namespace Go.SL
open Go.RowKit

/-! ### 3. A table of types -/
inductive Und where
  | int (k : IntKind) | bool | string | ptr (e : TypeId) | slice (e : TypeId) | struct (fs : List (TypeId × Nat)) | map (k e : TypeId) | func | other
  deriving DecidableEq
def Und.of : TypeDesc → Und
  | .int k => .int k
  | .bool => .bool
  | .string => .string
  | .pointer e => .ptr e
  | .slice e => .slice e
  | .struct fs => .struct (fs.toList.map fun f => (f.type, f.offset))
  | .map k e => .map k e
  | .func .. => .func
  | _ => .other
structure TI where
  und : Und
  size : Nat
  bytes : Nat
  zero : List Value
abbrev Lay := List (Nat × TI)
def lay : Lay → Nat → Option TI
  | [], _ => none
  | (k, i) :: r, t => bif Nat.beq k t then some i else lay r t
def TI.agg (i : TI) : Bool := match i.und with | .struct _ => true | _ => false
structure OkTI (P : Program) (t : Nat) (i : TI) : Prop where
  und : (P.underlying t).map Und.of = some i.und
  info : (P.info? t).map (fun x => (x.size, x.bytes, x.zero.map (·.cells.toList))) = some (i.size, i.bytes, some i.zero)
def OkLay (P : Program) (Λ : Lay) : Prop := ∀ t i, lay Λ t = some i → OkTI P t i
theorem okLay_nil (P : Program) : OkLay P [] := fun _ _ h => by cases h
theorem okLay_cons {P : Program} {t : Nat} {i : TI} {Λ : Lay} (h : OkTI P t i) (hl : OkLay P Λ) : OkLay P ((t, i) :: Λ) := fun u j hj => by
  simp only [lay] at hj
  cases hb : Nat.beq t u with
  | true =>
    rw [hb] at hj
    simp only [cond_true, Option.some.injEq] at hj
    subst hj
    exact (Nat.eq_of_beq_eq_true hb) ▸ h
  | false =>
    rw [hb] at hj
    exact hl u j hj

section
variable {P : Program} {t : Nat} {i : TI}
theorem OkTI.desc (h : OkTI P t i) : ∃ d, P.underlying t = some d ∧ Und.of d = i.und := by
  have := h.und
  cases hd : P.underlying t with
  | none => rw [hd] at this; cases this
  | some d => rw [hd] at this; exact ⟨d, rfl, by simpa using this⟩
theorem OkTI.infos (h : OkTI P t i) : ∃ x z, P.info? t = some x ∧ x.size = i.size ∧ x.bytes = i.bytes ∧ x.zero = some z ∧ z.cells.toList = i.zero := by
  have := h.info
  cases hd : P.info? t with
  | none => rw [hd] at this; cases this
  | some x =>
    rw [hd] at this
    simp only [Option.map_some, Option.some.injEq, Prod.mk.injEq, Option.map_eq_some_iff] at this
    obtain ⟨h1, h2, z, hz, h3⟩ := this
    exact ⟨x, z, rfl, h1, h2, hz, h3⟩
theorem und_int {d : TypeDesc} {k : IntKind} (h : Und.of d = .int k) : d = .int k := by cases d <;> simp [Und.of] at h; subst h; rfl
theorem und_bool {d : TypeDesc} (h : Und.of d = .bool) : d = .bool := by cases d <;> simp [Und.of] at h; rfl
theorem und_string {d : TypeDesc} (h : Und.of d = .string) : d = .string := by cases d <;> simp [Und.of] at h; rfl
theorem und_ptr {d : TypeDesc} {e : TypeId} (h : Und.of d = .ptr e) : d = .pointer e := by cases d <;> simp [Und.of] at h; subst h; rfl
theorem und_slice {d : TypeDesc} {e : TypeId} (h : Und.of d = .slice e) : d = .slice e := by cases d <;> simp [Und.of] at h; subst h; rfl
theorem und_map {d : TypeDesc} {k e : TypeId} (h : Und.of d = .map k e) : d = .map k e := by cases d <;> simp [Und.of] at h; obtain ⟨rfl, rfl⟩ := h; rfl
theorem und_struct {d : TypeDesc} {l : List (TypeId × Nat)} (h : Und.of d = .struct l) : ∃ fs, d = .struct fs ∧ fs.toList.map (fun f => (f.type, f.offset)) = l := by
  cases d <;> simp [Und.of] at h
  rename_i fs
  exact ⟨fs, rfl, by simpa using h⟩
theorem OkTI.und_eq (h : OkTI P t i) {d : TypeDesc} (hd : P.underlying t = some d) : Und.of d = i.und := by
  obtain ⟨e, he, hu⟩ := h.desc
  rw [hd] at he
  injection he with he
  exact he ▸ hu
theorem OkTI.slice (h : OkTI P t i) {e : TypeId} (hu : i.und = .slice e) : P.underlying t = some (.slice e) := by
  obtain ⟨d, hd, he⟩ := h.desc; rw [hd, und_slice (he.trans hu)]
theorem OkTI.int (h : OkTI P t i) {k : IntKind} (hu : i.und = .int k) : P.underlying t = some (.int k) := by
  obtain ⟨d, hd, he⟩ := h.desc; rw [hd, und_int (he.trans hu)]
theorem OkTI.bool (h : OkTI P t i) (hu : i.und = .bool) : P.underlying t = some .bool := by
  obtain ⟨d, hd, he⟩ := h.desc; rw [hd, und_bool (he.trans hu)]
theorem OkTI.string (h : OkTI P t i) (hu : i.und = .string) : P.underlying t = some .string := by
  obtain ⟨d, hd, he⟩ := h.desc; rw [hd, und_string (he.trans hu)]
theorem OkTI.ptr (h : OkTI P t i) {e : TypeId} (hu : i.und = .ptr e) : P.underlying t = some (.pointer e) := by
  obtain ⟨d, hd, he⟩ := h.desc; rw [hd, und_ptr (he.trans hu)]
theorem OkTI.map (h : OkTI P t i) {k e : TypeId} (hu : i.und = .map k e) : P.underlying t = some (.map k e) := by
  obtain ⟨d, hd, he⟩ := h.desc; rw [hd, und_map (he.trans hu)]
theorem OkTI.struct (h : OkTI P t i) {l : List (TypeId × Nat)} (hu : i.und = .struct l) : ∃ fs, P.underlying t = some (.struct fs) ∧ fs.toList.map (fun f => (f.type, f.offset)) = l := by
  obtain ⟨d, hd, he⟩ := h.desc
  obtain ⟨fs, h1, h2⟩ := und_struct (he.trans hu)
  exact ⟨fs, h1 ▸ hd, h2⟩
theorem OkTI.sizeOf (h : OkTI P t i) (w : World) : (Go.sizeOf t).run P w = .ok i.size w := by
  obtain ⟨x, z, hx, h1, _⟩ := h.infos
  simp [Go.sizeOf, typeInfo, hx, h1]
theorem OkTI.isAgg (h : OkTI P t i) (hn : i.und ≠ .other) (w : World) : (Go.isAgg t).run P w = .ok i.agg w := by
  obtain ⟨d, hd, he⟩ := h.desc
  obtain ⟨u, s, b, z⟩ := i
  simp only at he hn
  subst he
  cases d <;> first | (exact absurd rfl hn) | (simp [Go.isAgg, run_underlying hd, Und.of, TI.agg]; done)
theorem OkTI.zeroValue (h : OkTI P t i) (w : World) : ∃ z, (Go.zeroValue t).run P w = .ok z w ∧ z.cells.toList = i.zero := by
  obtain ⟨x, z, hx, _, _, hz, hl⟩ := h.infos
  exact ⟨z, by simp [Go.zeroValue, typeInfo, hx, hz], hl⟩
end

/-! ### 4. Operations that only reckon -/
def fieldOff (Λ : Lay) (t i : Nat) : Option (TI × Nat) :=
  match lay Λ t with
  | some j => match j.und with
    | .struct fs => match fs[i]? with
      | some (ft, off) => match lay Λ ft with
        | some fi => some (fi, off)
        | none => none
      | none => none
    | _ => none
  | none => none
theorem fieldOff_spec {P : Program} {Λ : Lay} (hΛ : OkLay P Λ) {t i : Nat} {fi : TI} {off : Nat} (h : fieldOff Λ t i = some (fi, off)) :
    ∃ fs f, P.underlying t = some (.struct fs) ∧ fs[i]? = some f ∧ f.offset = off ∧ OkTI P f.type fi := by
  unfold fieldOff at h
  split at h
  · rename_i j hj
    split at h
    · rename_i l hl
      split at h
      · rename_i ft o ho
        split at h
        · rename_i fi' hfi
          simp only [Option.some.injEq, Prod.mk.injEq] at h
          obtain ⟨rfl, rfl⟩ := h
          obtain ⟨fs, h1, h2⟩ := (hΛ t j hj).struct hl
          rw [← h2, List.getElem?_map, Option.map_eq_some_iff] at ho
          obtain ⟨f, hf, he⟩ := ho
          simp only [Prod.mk.injEq] at he
          obtain ⟨rfl, rfl⟩ := he
          exact ⟨fs, f, h1, by simpa using hf, rfl, hΛ _ _ hfi⟩
        · cases h
      · cases h
    · cases h
  · cases h

/-- A proposition as a Bool that nothing reckons. -/
noncomputable def B (p : Prop) : Bool := @decide p (Classical.propDecidable p)
theorem B_true {p : Prop} : B p = true ↔ p := by unfold B; exact @decide_eq_true_iff p (Classical.propDecidable p)
theorem B_false {p : Prop} : B p = false ↔ ¬ p := by unfold B; exact @decide_eq_false_iff_not p (Classical.propDecidable p)
theorem B_eq (p : Prop) [h : Decidable p] : B p = decide p := by
  by_cases hp : p
  · rw [B_true.2 hp, decide_eq_true hp]
  · rw [B_false.2 hp, decide_eq_false hp]
theorem beq_B (a b : Int) : (a == b) = B (a = b) := by
  by_cases h : a = b
  · rw [B_true.2 h]; simp [h]
  · rw [B_false.2 h]; simp [h]
theorem bne_B (a b : Int) : (a != b) = B (a ≠ b) := by
  by_cases h : a = b
  · rw [B_false.2 (by simp [h])]; simp [h]
  · rw [B_true.2 h]; simp [h]
theorem bytes_beq (a b : ByteArray) : (a.toList == b.toList) = B (a = b) := by
  rw [ByteArray.toList_eq, ByteArray.toList_eq]
  by_cases h : a = b
  · subst h; rw [B_true.2 rfl]; simp
  · rw [B_false.2 h]
    have : ¬ a.data.toList = b.data.toList := fun e => h (by
      cases a; cases b
      simp only at e
      congr 1
      exact Array.ext' e)
    simpa using this
def undOf (Λ : Lay) (t : Nat) : Option Und := match lay Λ t with
  | some i => some i.und
  | none => none
theorem undOf_spec {P : Program} {Λ : Lay} (hΛ : OkLay P Λ) {t : Nat} {u : Und} (h : undOf Λ t = some u) : ∃ i, OkTI P t i ∧ i.und = u := by
  unfold undOf at h
  split at h
  · rename_i i hi
    simp only [Option.some.injEq] at h
    exact ⟨i, hΛ t i hi, h⟩
  · cases h
noncomputable def bval (op : BinOp) (ti : Option Und) : Value → Value → Option Value
  | .int k a, .int k' b => bif (decide (k = k')) then
      (match op with
       | .add => some (.int k (k.wrap (a + b)))
       | .sub => some (.int k (k.wrap (a - b)))
       | .mul => some (.int k (k.wrap (a * b)))
       | .eql => some (.bool (B (a = b)))
       | .neq => some (.bool (B (a ≠ b)))
       | .lss => some (.bool (B (a < b)))
       | .leq => some (.bool (B (a ≤ b)))
       | .gtr => some (.bool (B (b < a)))
       | .geq => some (.bool (B (b ≤ a)))
       | _ => none) else none
  | .string a, .string b =>
      (match op with
       | .eql => some (.bool (B (a = b)))
       | .neq => some (.bool !(B (a = b)))
       | _ => none)
  | .bool a, .bool b =>
      (match op, ti with
       | .eql, some .bool => some (.bool (a == b))
       | .neq, some .bool => some (.bool !(a == b))
       | _, _ => none)
  | .pointer none, .pointer b =>
      (match op, ti with
       | .eql, some (.ptr _) => some (.bool b.isNone)
       | .neq, some (.ptr _) => some (.bool !b.isNone)
       | _, _ => none)
  | .pointer (some a), .pointer none =>
      (match op, ti with
       | .eql, some (.ptr _) => some (.bool false)
       | .neq, some (.ptr _) => some (.bool true)
       | _, _ => none)
  | .slice none _ _, .slice b _ _ =>
      (match op, ti with
       | .eql, some (.slice _) => some (.bool b.isNone)
       | .neq, some (.slice _) => some (.bool !b.isNone)
       | _, _ => none)
  | .slice (some _) _ _, .slice none _ _ =>
      (match op, ti with
       | .eql, some (.slice _) => some (.bool false)
       | .neq, some (.slice _) => some (.bool true)
       | _, _ => none)
  | _, _ => none
section
variable {P : Program} {t : Nat} {i : TI} (w : World)
theorem eq_bool (hi : OkTI P t i) (hu : i.und = .bool) (a b : Bool) : (Op.equal t (.bool a) (.bool b)).run P w = .ok (a == b) w := by
  have h : ∀ d, (Op.equalIn (d + 1) t (.bool a) (.bool b)).run P w = .ok (a == b) w := fun d => by simp [Op.equalIn, run_underlying (hi.bool hu)]
  exact h 9999
theorem eq_ptr_nil (hi : OkTI P t i) {e : TypeId} (hu : i.und = .ptr e) (b : Option Addr) : (Op.equal t (.pointer none) (.pointer b)).run P w = .ok b.isNone w := by
  have h : ∀ d, (Op.equalIn (d + 1) t (.pointer none) (.pointer b)).run P w = .ok b.isNone w := fun d => by simp [Op.equalIn, run_underlying (hi.ptr hu)]
  exact h 9999
theorem eq_ptr_nil' (hi : OkTI P t i) {e : TypeId} (hu : i.und = .ptr e) (a : Addr) : (Op.equal t (.pointer (some a)) (.pointer none)).run P w = .ok false w := by
  have h : ∀ d, (Op.equalIn (d + 1) t (.pointer (some a)) (.pointer none)).run P w = .ok false w := fun d => by simp [Op.equalIn, run_underlying (hi.ptr hu)]
  exact h 9999
theorem eq_slice_nil (hi : OkTI P t i) {e : TypeId} (hu : i.und = .slice e) (n c m d : Nat) (b : Option Addr) : (Op.equal t (.slice none n c) (.slice b m d)).run P w = .ok b.isNone w := by
  have h : ∀ k, (Op.equalIn (k + 1) t (.slice none n c) (.slice b m d)).run P w = .ok b.isNone w := fun k => by simp [Op.equalIn, run_underlying (hi.slice hu)]
  exact h 9999
theorem eq_slice_nil' (hi : OkTI P t i) {e : TypeId} (hu : i.und = .slice e) (a : Addr) (n c m d : Nat) : (Op.equal t (.slice (some a) n c) (.slice none m d)).run P w = .ok false w := by
  have h : ∀ k, (Op.equalIn (k + 1) t (.slice (some a) n c) (.slice none m d)).run P w = .ok false w := fun k => by simp [Op.equalIn, run_underlying (hi.slice hu)]
  exact h 9999
end
theorem binOp_eql_of {P : Program} {t : Nat} {x y : Value} {w : World} {b : Bool} (h1 : binOp .eql t x y = (do pure (.bool (← Op.equal t x y)) : Sem Value)) (h : (Op.equal t x y).run P w = .ok b w) :
    (binOp .eql t x y).run P w = .ok (.bool b) w := by rw [h1]; simp [h]
theorem binOp_neq_of {P : Program} {t : Nat} {x y : Value} {w : World} {b : Bool} (h1 : binOp .neq t x y = (do pure (.bool (!(← Op.equal t x y))) : Sem Value)) (h : (Op.equal t x y).run P w = .ok b w) :
    (binOp .neq t x y).run P w = .ok (.bool !b) w := by rw [h1]; simp [h]
theorem guard_pure {P : Program} {op : BinOp} {t : Nat} {x y : Value} {X Y : Operand} {w : World} {r : Result Value} (hg : eqGuard op t X Y x y = pure ()) (h : (binOp op t x y).run P w = r) :
    (do eqGuard op t X Y x y; binOp op t x y : Sem Value).run P w = r := by rw [hg]; simpa using h
theorem bval_spec {P : Program} {Λ : Lay} (hΛ : OkLay P Λ) {op : BinOp} {t : Nat} {x y v : Value} (h : bval op (undOf Λ t) x y = some v) (X Y : Operand) (w : World) :
    (do eqGuard op t X Y x y; binOp op t x y : Sem Value).run P w = .ok v w := by
  have hT : ∀ u, undOf Λ t = some u → ∃ i, OkTI P t i ∧ i.und = u := fun u hu => undOf_spec hΛ hu
  generalize undOf Λ t = U at *
  unfold bval at h
  split at h
  · rename_i k a k' b
    by_cases hk : k = k'
    · subst hk
      simp only [decide_true, cond_true] at h
      refine guard_pure (by apply eqGuard_at_int) ?_
      cases op <;> simp only [Option.some.injEq] at h <;> first | (subst h; simp [binOp_add, binOp_sub, binOp_mul, binOp_eql, binOp_neq, binOp_lss, binOp_leq, binOp_gtr, binOp_geq, Op.intArith, beq_B, bne_B, ← B_eq]; done) | (cases h; done)
    · simp [hk] at h
  · rename_i a b
    refine guard_pure (by apply eqGuard_at_string) ?_
    cases op <;> simp only [Option.some.injEq] at h <;> first | (subst h; simp [binOp, Op.stringOp, bytes_beq]; done) | (cases h; done)
  · rename_i a b
    refine guard_pure (by apply eqGuard_at_bool) ?_
    split at h
    · obtain ⟨i, hi, hu⟩ := hT _ rfl
      simp only [Option.some.injEq] at h; subst h
      exact binOp_eql_of rfl (eq_bool w hi hu a b)
    · obtain ⟨i, hi, hu⟩ := hT _ rfl
      simp only [Option.some.injEq] at h; subst h
      exact binOp_neq_of rfl (eq_bool w hi hu a b)
    · cases h
  · rename_i b
    refine guard_pure (by apply eqGuard_at_pointer) ?_
    split at h
    · obtain ⟨i, hi, hu⟩ := hT _ rfl
      simp only [Option.some.injEq] at h; subst h
      exact binOp_eql_of (by cases b <;> rfl) (eq_ptr_nil w hi hu b)
    · obtain ⟨i, hi, hu⟩ := hT _ rfl
      simp only [Option.some.injEq] at h; subst h
      exact binOp_neq_of (by cases b <;> rfl) (eq_ptr_nil w hi hu b)
    · cases h
  · rename_i a
    refine guard_pure (by apply eqGuard_at_pointer) ?_
    split at h
    · obtain ⟨i, hi, hu⟩ := hT _ rfl
      simp only [Option.some.injEq] at h; subst h
      exact binOp_eql_of rfl (eq_ptr_nil' w hi hu a)
    · obtain ⟨i, hi, hu⟩ := hT _ rfl
      simp only [Option.some.injEq] at h; subst h
      exact binOp_neq_of rfl (eq_ptr_nil' w hi hu a)
    · cases h
  · rename_i n c b m d
    refine guard_pure (by apply eqGuard_at_slice) ?_
    split at h
    · obtain ⟨i, hi, hu⟩ := hT _ rfl
      simp only [Option.some.injEq] at h; subst h
      exact binOp_eql_of rfl (eq_slice_nil w hi hu n c m d b)
    · obtain ⟨i, hi, hu⟩ := hT _ rfl
      simp only [Option.some.injEq] at h; subst h
      exact binOp_neq_of rfl (eq_slice_nil w hi hu n c m d b)
    · cases h
  · rename_i a n c m d
    refine guard_pure (by apply eqGuard_at_slice) ?_
    split at h
    · obtain ⟨i, hi, hu⟩ := hT _ rfl
      simp only [Option.some.injEq] at h; subst h
      exact binOp_eql_of rfl (eq_slice_nil' w hi hu a n c m d)
    · obtain ⟨i, hi, hu⟩ := hT _ rfl
      simp only [Option.some.injEq] at h; subst h
      exact binOp_neq_of rfl (eq_slice_nil' w hi hu a n c m d)
    · cases h
  · cases h

/-- The values of operations that only reckon. -/
noncomputable def peval (Λ : Lay) (E : Env) : Op → Option Value
  | .move x => ev E x
  | .assign x => ev E x
  | .pick c a b => match ev E c with
    | some (.bool true) => ev E a
    | some (.bool false) => ev E b
    | _ => none
  | .nilCheck x => match ev E x with
    | some (.pointer (some a)) => some (.pointer (some a))
    | _ => none
  | .fieldAddr t x i => match ev E x with
    | some (.pointer (some ⟨b, o, none⟩)) => match fieldOff Λ t i with
      | some (fi, off) => bif Nat.beq fi.size 0 then none else some (.pointer (some ⟨b, o + off, none⟩))
      | none => none
    | _ => none
  | .field t x i => match ev E x with
    | some (.agg cs) => match fieldOff Λ t i with
      | some (fi, off) => match fi.und with
        | .other => none
        | .struct _ => some (.agg (cs.extract off (off + fi.size)))
        | _ => cs[off]?
      | none => none
    | _ => none
  | .extract x i => match ev E x with
    | some (.tuple vs) => vs[i]?
    | _ => none
  | .unOp op _ x => match op, ev E x with
    | .not, some (.bool b) => some (.bool (!b))
    | .neg, some (.int k n) => some (.int k (k.wrap (0 - n)))
    | _, _ => none
  | .binOp op t x y _ => match ev E x, ev E y with
    | some u, some v => bval op (undOf Λ t) u v
    | _, _ => none
  | .convert s t x => match ev E x with
    | some (.int _ n) => match lay Λ s, lay Λ t with
      | some _, some j => match j.und with
        | .int k => some (.int k (k.wrap n))
        | _ => none
      | _, _ => none
    | some (.string b) => match undOf Λ s, undOf Λ t with
      | some .string, some .string => some (.string b)
      | _, _ => none
    | _ => none
  | .makeFunc fn first captured => match evs E first.toList, evs E captured.toList with
    | some f, some c => some (.func fn f.toArray c.toArray)
    | _, _ => none
  | .call c => match c.callee, c.args.toList, c.argTypes.toList with
    | .builtin .len, [x], [t] => match ev E x, undOf Λ t with
      | some (.string s), some .string => some (.int .i64 s.size)
      | some (.slice _ n _), some (.slice _) => some (.int .i64 n)
      | _, _ => none
    | _, _, _ => none
  | _ => none

theorem Ag.evs_arr {n : Nat} {E : Env} {a : Act} (h : Ag n E a) {xs : Array Operand} {vs : List Value} (hx : SL.evs E xs.toList = some vs) : xs.map a.eval = vs.toArray := by
  have := h.evs hx
  apply Array.ext'
  simpa using this
theorem peval_spec {P : Program} {Λ : Lay} (hΛ : OkLay P Λ) {n : Nat} {E : Env} {o : Oper} {v : Value} (h : peval Λ E o.op = some v) {a : Act} (ha : Ag n E a) (w : World) :
    (execOp a.eval o).run P w = .ok (.value v) w := by
  unfold execOp
  generalize o.op = op at *
  cases op <;> simp only [peval] at h <;> try (cases h; done)
  case move x => simp [ha.ev h]
  case assign x => simp [ha.ev h]
  case pick c x y =>
    split at h
    · rename_i hc; simp [ha.ev hc, ha.ev h, asBool]
    · rename_i hc; simp [ha.ev hc, ha.ev h, asBool]
    · cases h
  case nilCheck x =>
    split at h
    · rename_i hx; simp only [Option.some.injEq] at h; subst h; simp [ha.ev hx]
    · cases h
  case fieldAddr t x i =>
    split at h
    · rename_i b o hx
      split at h
      · rename_i fi off hf
        obtain ⟨fs, f, h1, h2, h3, h4⟩ := fieldOff_spec hΛ hf
        cases hz : Nat.beq fi.size 0 with
        | true => rw [hz] at h; cases h
        | false =>
          rw [hz] at h
          simp only [cond_false, Option.some.injEq] at h
          subst h
          have hne : fi.size ≠ 0 := fun e => by rw [e] at hz; cases hz
          have hr := h4.sizeOf w
          simp [ha.ev hx, Instr.fieldAt, run_underlying h1, h2, Instr.sureAddr, fieldPlace, hr, hne, h3, Addr.add_lit]
      · cases h
    · cases h
  case field t x i =>
    split at h
    · rename_i cs hx
      split at h
      · rename_i fi off hf
        obtain ⟨fs, f, h1, h2, h3, h4⟩ := fieldOff_spec hΛ hf
        by_cases ho : fi.und = .other
        · rw [ho] at h; cases h
        · have hr := h4.sizeOf w
          have hg := h4.isAgg ho w
          split at h
          · exact absurd (by assumption) ho
          · rename_i l hl
            simp only [Option.some.injEq] at h
            subst h
            have : fi.agg = true := by simp [TI.agg, hl]
            rw [this] at hg
            simp [ha.ev hx, Instr.field, run_underlying h1, h2, asAgg, part, hg, hr, h3]
          · rename_i hns _
            have : fi.agg = false := by unfold TI.agg; split <;> simp_all
            rw [this] at hg
            simp [ha.ev hx, Instr.field, run_underlying h1, h2, asAgg, part, hg, hr, h3, h]
      · cases h
    · cases h
  case extract x i =>
    split at h
    · rename_i vs hx
      simp [ha.ev hx, Instr.extract, h]
    · cases h
  case unOp op t x =>
    split at h
    · rename_i b hx; simp only [Option.some.injEq] at h; subst h; simp [ha.ev hx, Op.unary]
    · rename_i k m hx; simp only [Option.some.injEq] at h; subst h; simp [ha.ev hx, Op.unary, Op.intArith]
    · cases h
  case binOp op t x y t2 =>
    split at h
    · rename_i u v' hx hy
      have := bval_spec (P := P) hΛ h x y w
      simp only [ha.ev hx, ha.ev hy]
      simp only [Sem.run_bind] at this ⊢
      rw [this]
      simp
    · cases h
  case convert s t x =>
    split at h
    · rename_i k' m hx
      split at h
      · rename_i i j hi hj
        split at h
        · rename_i k hk
          simp only [Option.some.injEq] at h
          subst h
          obtain ⟨d, hd, _⟩ := (hΛ _ _ hi).desc
          have hd2 := (hΛ _ _ hj).int hk
          simp [ha.ev hx, convert, run_underlying hd, run_underlying hd2, Conv.intToInt]
        · cases h
      · cases h
    · rename_i b hx
      split at h
      · rename_i h1 h2
        simp only [Option.some.injEq] at h
        subst h
        obtain ⟨i, hi, hu⟩ := undOf_spec hΛ h1
        obtain ⟨j, hj, hv⟩ := undOf_spec hΛ h2
        simp [ha.ev hx, convert, run_underlying (hi.string hu), run_underlying (hj.string hv)]
      · cases h
    · cases h
  case makeFunc fn f c =>
    split at h
    · rename_i vs us hf hc
      simp only [Option.some.injEq] at h
      subst h
      simp [Instr.makeFunc, ha.evs_arr hf, ha.evs_arr hc]
    · cases h
  case call c =>
    split at h
    · rename_i x t hc hx ht
      have h1 : c.args = #[x] := by apply Array.ext'; simpa using hx
      have h2 : c.argTypes = #[t] := by apply Array.ext'; simpa using ht
      split at h
      · rename_i s hs hu
        simp only [Option.some.injEq] at h
        subst h
        obtain ⟨i, hi, hu⟩ := undOf_spec hΛ hu
        simp [resolve, hc, h1, h2, invoke, builtin, ha.ev hs, Builtin.len_, run_underlying (hi.string hu), goInt]
      · rename_i p m cp e hs hu
        simp only [Option.some.injEq] at h
        subst h
        obtain ⟨i, hi, hu⟩ := undOf_spec hΛ hu
        simp [resolve, hc, h1, h2, invoke, builtin, ha.ev hs, Builtin.len_, run_underlying (hi.slice hu), goInt]
      · cases h
    · cases h
end Go.SL
