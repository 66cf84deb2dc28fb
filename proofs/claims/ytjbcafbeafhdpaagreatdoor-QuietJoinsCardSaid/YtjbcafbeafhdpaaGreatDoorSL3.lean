import Derived.Test.YtjbcafbeafhdpaaGreatDoorSL2
import Derived.Deep.LoopGhost
set_option maxRecDepth 10000
set_option linter.unusedVariables false
set_option linter.unusedSimpArgs false
namespace Go.SL
open Go.RowKit

/-! ### 5. The walk's goals -/
/-- Two Bools that are the same by sight; that differ by sight. -/
class Same (x y : Bool) : Prop where eq : x = y
instance : Same true true := ⟨rfl⟩
instance : Same false false := ⟨rfl⟩
class Diff (x y : Bool) : Prop where eq : x = !y
instance : Diff true false := ⟨rfl⟩
instance : Diff false true := ⟨rfl⟩

structure WL (P : Program) (n : Nat) (all : Array Oper) (Q : Exit → Act → World → Prop) (ops : List Oper) (E : Env) (ρ : Gh) (H : Heap) : Prop where
  go : ∀ a w, Ag n E a → Sat ρ H w → wpList P all Q ops a w
structure WC (P : Program) (n : Nat) (c : Code) (Q : Exit → Act → World → Prop) (E : Env) (ρ : Gh) (H : Heap) : Prop where
  go : ∀ a w, Ag n E a → Sat ρ H w → c.wp P Q a w
structure WX (n : Nat) (e : Exit) (Q : Exit → Act → World → Prop) (E : Env) (ρ : Gh) (H : Heap) : Prop where
  go : ∀ a w, Ag n E a → Sat ρ H w → Q e a w

section
variable {P : Program} {Λ : Lay} {n : Nat} {all : Array Oper} {Q Q' : Exit → Act → World → Prop} {E E' : Env} {ρ ρ' : Gh} {H H' : Heap} {c x y : Code}
/-- Forget slots and heaplets. -/
theorem WC.weak (h : WC P n c Q E' ρ H') (hs : Sub E' E) (hh : HIn H' H) : WC P n c Q E ρ H := ⟨fun a w ha s => h.go a w (ha.sub hs) (s.sub hh)⟩
theorem WL.weak {ops : List Oper} (h : WL P n all Q ops E' ρ H') (hs : Sub E' E) (hh : HIn H' H) : WL P n all Q ops E ρ H := ⟨fun a w ha s => h.go a w (ha.sub hs) (s.sub hh)⟩
theorem WX.weak {e : Exit} (h : WX n e Q E' ρ H') (hs : Sub E' E) (hh : HIn H' H) : WX n e Q E ρ H := ⟨fun a w ha s => h.go a w (ha.sub hs) (s.sub hh)⟩
theorem WC.heap (h : WC P n c Q E ρ H') (hh : HIn H' H) : WC P n c Q E ρ H := ⟨fun a w ha s => h.go a w ha (s.sub hh)⟩
theorem WL.heap {ops : List Oper} (h : WL P n all Q ops E ρ H') (hh : HIn H' H) : WL P n all Q ops E ρ H := ⟨fun a w ha s => h.go a w ha (s.sub hh)⟩
theorem WX.heap {e : Exit} (h : WX n e Q E ρ H') (hh : HIn H' H) : WX n e Q E ρ H := ⟨fun a w ha s => h.go a w ha (s.sub hh)⟩
/-- A block of one's own is never written from now on. -/
theorem WC.freeze {b : Nat} {o : Obj} (h : ∀ ρ', ρ ≤ ρ' → ρ'.objs b = some o → WC P n c Q E ρ' H) : WC P n c Q E ρ (.obj b o :: H) := ⟨fun a w ha s =>
  let ⟨hle, s'⟩ := s.freeze
  (h _ hle (by simp [Gh.add])).go a w ha s'⟩
theorem WL.freeze {ops : List Oper} {b : Nat} {o : Obj} (h : ∀ ρ', ρ ≤ ρ' → ρ'.objs b = some o → WL P n all Q ops E ρ' H) : WL P n all Q ops E ρ (.obj b o :: H) := ⟨fun a w ha s =>
  let ⟨hle, s'⟩ := s.freeze
  (h _ hle (by simp [Gh.add])).go a w ha s'⟩
theorem WX.freeze {e : Exit} {b : Nat} {o : Obj} (h : ∀ ρ', ρ ≤ ρ' → ρ'.objs b = some o → WX n e Q E ρ' H) : WX n e Q E ρ (.obj b o :: H) := ⟨fun a w ha s =>
  let ⟨hle, s'⟩ := s.freeze
  (h _ hle (by simp [Gh.add])).go a w ha s'⟩

/-! Code -/
theorem WC.seq (h : WC P n x (Exit.then (y.wp P Q) Q) E ρ H) : WC P n (x.seq y) Q E ρ H := ⟨fun a w ha s => wp_seq (h.go a w ha s)⟩
theorem WC.skip (h : WX n .normal Q E ρ H) : WC P n .skip Q E ρ H := ⟨fun a w ha s => wp_skip (h.go a w ha s)⟩
theorem WC.ret (h : WX n .ret Q E ρ H) : WC P n .ret Q E ρ H := ⟨fun a w ha s => wp_ret (h.go a w ha s)⟩
theorem WC.exit {id : Nat} (h : WX n (.exit id) Q E ρ H) : WC P n (.exit id) Q E ρ H := ⟨fun a w ha s => wp_exit (h.go a w ha s)⟩
theorem WC.block {id : Nat} (h : WC P n x (Exit.inBlock id Q) E ρ H) : WC P n (.block id x) Q E ρ H := ⟨fun a w ha s => wp_block (h.go a w ha s)⟩
theorem WC.region {id : Nat} {l : List Oper} (h : WL P n l.toArray Q l E ρ H) : WC P n (.region id l.toArray false) Q E ρ H := ⟨fun a w ha s => wp_region_lit (h.go a w ha s)⟩
theorem WC.cond {o : Operand} {b : Bool} (hc : ev E o = some (.bool b)) (ht : b = true → WC P n x Q E ρ H) (hf : b = false → WC P n y Q E ρ H) : WC P n (.cond o x y) Q E ρ H := ⟨fun a w ha s => wp_cond_split (ha.ev hc) (fun h => (ht h).go a w ha s) (fun h => (hf h).go a w ha s)⟩
theorem WC.condT {o : Operand} {b : Bool} (hc : ev E o = some (.bool b)) (hb : b = true) (ht : WC P n x Q E ρ H) : WC P n (.cond o x y) Q E ρ H := ⟨fun a w ha s => wp_cond_true ((ha.ev hc).trans (by rw [hb])) (ht.go a w ha s)⟩
theorem WC.condF {o : Operand} {b : Bool} (hc : ev E o = some (.bool b)) (hb : b = false) (hf : WC P n y Q E ρ H) : WC P n (.cond o x y) Q E ρ H := ⟨fun a w ha s => wp_cond_false ((ha.ev hc).trans (by rw [hb])) (hf.go a w ha s)⟩
theorem WC.condt {o : Operand} {b : Bool} (hc : ev E o = some (.bool b)) [hb : Same b true] (ht : WC P n x Q E ρ H) : WC P n (.cond o x y) Q E ρ H := WC.condT hc hb.eq ht
theorem WC.condf {o : Operand} {b : Bool} (hc : ev E o = some (.bool b)) [hb : Same b false] (hf : WC P n y Q E ρ H) : WC P n (.cond o x y) Q E ρ H := WC.condF hc hb.eq hf
/-- What a round hands on. -/
structure Again {σ : Type} (n : Nat) (ρ0 : Gh) (I : Gh → σ → Prop) (Ef : σ → Env) (Hf : σ → Heap) (μ : σ → Nat) (m : Nat) (a : Act) (w : World) : Prop where
  get : ∃ s ρ', ρ0 ≤ ρ' ∧ I ρ' s ∧ μ s < m ∧ Ag n (Ef s) a ∧ Sat ρ' (Hf s) w
/-- A loop: what holds at its head, a measure that each round lowers. -/
theorem WC.loop {σ : Type} (I : Gh → σ → Prop) (Ef : σ → Env) (Hf : σ → Heap) (μ : σ → Nat) (s0 : σ) (h0 : I ρ s0) (hE : Sub (Ef s0) E) (hH : HIn (Hf s0) H)
    (round : ∀ s ρ', ρ ≤ ρ' → I ρ' s → WC P n x (Exit.then (Again n ρ' I Ef Hf μ (μ s)) Q) (Ef s) ρ' (Hf s)) : WC P n (.loop x) Q E ρ H := by
  refine ⟨fun a w ha s => ?_⟩
  refine wp_loop_ghost (fun m a w => ∃ s ρ', μ s = m ∧ ρ ≤ ρ' ∧ I ρ' s ∧ Ag n (Ef s) a ∧ Sat ρ' (Hf s) w) (μ s0) ⟨s0, ρ, rfl, Gh.le_refl _, h0, ha.sub hE, s.sub hH⟩ ?_
  rintro m a w ⟨s, ρ', rfl, hle, hI, hA, hS⟩
  refine wp_mono ((round s ρ' hle hI).go a w hA hS) ?_
  intro e a' w' hq
  cases e with
  | normal =>
    obtain ⟨s', ρ'', hle', hI', hlt, hA', hS'⟩ := Again.get hq
    exact ⟨μ s', hlt, s', ρ'', rfl, Gh.le_trans hle hle', hI', hA', hS'⟩
  | _ => exact hq
/-- A round's end. -/
theorem WX.again {σ : Type} {I : Gh → σ → Prop} {Ef : σ → Env} {Hf : σ → Heap} {μ : σ → Nat} {m : Nat} {ρ0 : Gh} (s' : σ) (hle : ρ0 ≤ ρ) (hI : I ρ s') (hμ : μ s' < m) (hE : Sub (Ef s') E) (hH : HIn (Hf s') H) :
    WX n .normal (Exit.then (Again n ρ0 I Ef Hf μ m) Q) E ρ H :=
  ⟨fun a w ha hs => ⟨s', ρ, hle, hI, hμ, ha.sub hE, hs.sub hH⟩⟩

/-! Exits -/
theorem WX.seq (h : WC P n y Q E ρ H) : WX n .normal (Exit.then (y.wp P Q) Q') E ρ H := ⟨h.go⟩
theorem WX.retT {K : Act → World → Prop} (h : WX n .ret Q E ρ H) : WX n .ret (Exit.then K Q) E ρ H := ⟨h.go⟩
theorem WX.exitT {K : Act → World → Prop} {id : Nat} (h : WX n (.exit id) Q E ρ H) : WX n (.exit id) (Exit.then K Q) E ρ H := ⟨h.go⟩
theorem WX.retB {id : Nat} (h : WX n .ret Q E ρ H) : WX n .ret (Exit.inBlock id Q) E ρ H := ⟨h.go⟩
theorem WX.normB {id : Nat} (h : WX n .normal Q E ρ H) : WX n .normal (Exit.inBlock id Q) E ρ H := ⟨h.go⟩
theorem WX.exitB {id : Nat} (h : WX n .normal Q E ρ H) : WX n (.exit id) (Exit.inBlock id Q) E ρ H := ⟨fun a w ha s => by
  simp only [Exit.inBlock, if_true]; exact h.go a w ha s⟩
theorem WX.exitB' {id j : Nat} (hne : Nat.beq j id = false) (h : WX n (.exit j) Q E ρ H) : WX n (.exit j) (Exit.inBlock id Q) E ρ H := ⟨fun a w ha s => by
  have : j ≠ id := fun e => by subst e; simp at hne
  simp only [Exit.inBlock, this, if_false]; exact h.go a w ha s⟩
/-! Operations -/
theorem WL.nil (h : WX n .normal Q E ρ H) : WL P n all Q [] E ρ H := ⟨fun a w ha s => wpList_nil (h.go a w ha s)⟩
theorem wp_of_value {o : Oper} {a : Act} {w w' : World} {v : Value} {K : Act → World → Prop} (h : (execOp a.eval o).run P w = .ok (.value v) w') (k : K (a.put o.dst v) w') : o.wp P a w K Q := by
  unfold Oper.wp; rw [h]; exact k
theorem wp_of_skip {o : Oper} {a : Act} {w w' : World} {K : Act → World → Prop} (h : (execOp a.eval o).run P w = .ok .skip w') (k : K (a.put o.dst undef) w') : o.wp P a w K Q := by
  unfold Oper.wp; rw [h]; exact k
theorem wp_of_enter {o : Oper} {a : Act} {w w' : World} {f : FuncId} {args : Array Value} {K : Act → World → Prop} (h : (execOp a.eval o).run P w = .ok (.enter f args) w')
    (k : Calls P f args w' fun e w'' => ∃ v, e = .returned v ∧ K (a.put o.dst v) w'') : o.wp P a w K Q := by
  unfold Oper.wp; rw [h]
  exact k.mono fun e w'' ⟨v, he, hk⟩ => by subst he; exact hk

/-- Is the operation carried out? What its guard holds, and what it wants. -/
def wants (E : Env) (all : Array Oper) : Option (Nat × Bool) → Option (Bool × Bool)
  | none => some (true, true)
  | some (j, want) => match all[j]? with
    | some o => match o.dst with
      | some d => match find E d with
        | some (.bool b) => some (b, want)
        | some (.tuple ⟨[]⟩) => match want with
          | true => some (false, true)
          | false => some (true, false)
        | _ => none
      | none => none
    | none => none
theorem wants_spec {o : Oper} {b c : Bool} (h : wants E all o.guard = some (b, c)) {a : Act} (ha : Ag n E a) : Region.wanted o (yielded all a.tmps) = (b == c) := by
  unfold Region.wanted
  cases hg : o.guard with
  | none => rw [hg] at h; simp only [wants, Option.some.injEq, Prod.mk.injEq] at h; obtain ⟨rfl, rfl⟩ := h; rfl
  | some p =>
    obtain ⟨j, want⟩ := p
    rw [hg] at h
    simp only [wants] at h
    split at h
    · rename_i oj hj
      split at h
      · rename_i d hd
        split at h
        · rename_i b' hb
          simp only [Option.some.injEq, Prod.mk.injEq] at h
          obtain ⟨rfl, rfl⟩ := h
          have := ha.at_ d _ hb
          rw [Array.getD_eq_getD_getElem?] at this
          have h2 : a.tmps[d]? = some (.bool b') := by
            cases hd2 : a.tmps[d]? with
            | none => rw [hd2] at this; simp [undef] at this
            | some u => rw [hd2] at this; simpa using this
          simp [yielded, hj, hd, h2]
        · rename_i hb
          have := ha.at_ d _ hb
          rw [Array.getD_eq_getD_getElem?] at this
          have h2 : yielded all a.tmps j = none := by
            cases hd2 : a.tmps[d]? with
            | none => simp [yielded, hj, hd, hd2]
            | some u => rw [hd2] at this; simp only [Option.getD_some] at this; subst this; simp [yielded, hj, hd, hd2]
          cases want <;> (simp only [Option.some.injEq, Prod.mk.injEq] at h; obtain ⟨rfl, rfl⟩ := h; simp [h2])
        · cases h
      · cases h
    · cases h
theorem WL.step {o : Oper} {rest : List Oper} {bx cx : Bool} (hw : wants E all o.guard = some (bx, cx)) [hsm : Same bx cx] (h : ∀ a w, Ag n E a → Sat ρ H w → o.wp P a w (wpList P all Q rest) Q) : WL P n all Q (o :: rest) E ρ H := by
  refine ⟨fun a w ha s => ?_⟩
  unfold wpList
  rw [if_pos (by rw [wants_spec hw ha, hsm.eq]; simp)]
  exact .inl (h a w ha s)
theorem WL.skipped {d : Nat} {op : Op} {ty : TypeId} {ps : String} {af : Array Edge} {g : Option (Nat × Bool)} {rest : List Oper} {bx cx : Bool} (hw : wants E all g = some (bx, cx)) [hsm : Diff bx cx] (hd : Nat.blt d n = true) (k : WL P n all Q rest ((d, undef) :: E) ρ H) : WL P n all Q (⟨some d, op, ty, ps, af, g⟩ :: rest) E ρ H := by
  refine ⟨fun a w ha s => ?_⟩
  unfold wpList
  rw [if_neg (by rw [wants_spec (o := ⟨some d, op, ty, ps, af, g⟩) hw ha, hsm.eq]; simp)]
  exact k.go _ _ (ha.put (d := some d) _ hd) s
/-- What is a bool is true or false. -/
theorem WL.split {ops : List Oper} (d : Nat) {b : Bool} (hb : find E d = some (.bool b)) (ht : b = true → WL P n all Q ops ((d, .bool true) :: E) ρ H) (hf : b = false → WL P n all Q ops ((d, .bool false) :: E) ρ H) : WL P n all Q ops E ρ H := by
  refine ⟨fun a w ha s => ?_⟩
  cases hbb : b with
  | true => exact (ht hbb).go a w ⟨ha.size, ha.defers, fun t v h => by
      rw [find_cons] at h
      by_cases hk : d = t
      · subst hk; rw [if_pos rfl] at h; injection h with h; subst h; exact ha.at_ d _ (by rw [hb, hbb])
      · rw [if_neg hk] at h; exact ha.at_ t v h⟩ s
  | false => exact (hf hbb).go a w ⟨ha.size, ha.defers, fun t v h => by
      rw [find_cons] at h
      by_cases hk : d = t
      · subst hk; rw [if_pos rfl] at h; injection h with h; subst h; exact ha.at_ d _ (by rw [hb, hbb])
      · rw [if_neg hk] at h; exact ha.at_ t v h⟩ s
/-- A slot's value by another spelling. -/
theorem WL.setE {ops : List Oper} (d : Nat) {u v : Value} (hb : find E d = some u) (e : u = v) (k : WL P n all Q ops ((d, v) :: E) ρ H) : WL P n all Q ops E ρ H := by
  subst e
  refine ⟨fun a w ha s => ?_⟩
  exact k.go a w ⟨ha.size, ha.defers, fun t v h => by
      rw [find_cons] at h
      by_cases hk : d = t
      · subst hk; rw [if_pos rfl] at h; injection h with h; subst h; exact ha.at_ d _ hb
      · rw [if_neg hk] at h; exact ha.at_ t v h⟩ s

theorem WL.pure (hΛ : OkLay P Λ) {d : Nat} {op : Op} {ty : TypeId} {ps : String} {af : Array Edge} {g : Option (Nat × Bool)} {rest : List Oper} {v : Value} {bx cx : Bool} (hw : wants E all g = some (bx, cx)) [hsm : Same bx cx] (h : peval Λ E op = some v) (hd : Nat.blt d n = true)
    (k : WL P n all Q rest ((d, v) :: E) ρ H) : WL P n all Q (⟨some d, op, ty, ps, af, g⟩ :: rest) E ρ H :=
  WL.step (o := ⟨some d, op, ty, ps, af, g⟩) hw fun a w ha s => wp_of_value (peval_spec (o := ⟨some d, op, ty, ps, af, g⟩) hΛ h ha w) (k.go _ _ (ha.put (d := some d) v hd) s)
/-- Any operation that yields a value in the very world. -/
theorem WL.value {o : Oper} {d : Nat} {rest : List Oper} {v : Value} {bx cx : Bool} (hw : wants E all o.guard = some (bx, cx)) [hsm : Same bx cx] (h : ∀ a w, Ag n E a → Sat ρ H w → (execOp a.eval o).run P w = .ok (.value v) w) (hd : o.dst = some d) (hdn : Nat.blt d n = true)
    (k : WL P n all Q rest ((d, v) :: E) ρ H) : WL P n all Q (o :: rest) E ρ H :=
  WL.step hw fun a w ha s => wp_of_value (h a w ha s) (k.go _ _ (by rw [hd]; exact ha.put (d := some d) v hdn) s)
end
end Go.SL
