/- Tables: how they are shown to be the program's; a run from nothing. -/
import Derived.Test.YtjbcafbeafhdpaaGreatDoorD18
set_option maxRecDepth 10000
set_option linter.unusedVariables false
set_option linter.unusedSimpArgs false
namespace Go.D
open Go.SL Go.RowKit
def ofL {α : Type} : List (Nat × α) → T α
  | [] => .emp
  | (k, v) :: r => (ofL r).set k (some v)
theorem ofL_mem {α : Type} : ∀ (l : List (Nat × α)) (k : Nat) (v : α), (ofL l).get k = some v → (k, v) ∈ l
  | [], k, v, h => by simp [ofL, T.get] at h
  | (j, u) :: r, k, v, h => by
    rw [ofL, T.get_set] at h
    by_cases e : k = j
    · subst e
      rw [if_pos rfl] at h; injection h with h; subst h
      exact List.mem_cons_self ..
    · rw [if_neg e] at h
      exact List.mem_cons_of_mem _ (ofL_mem r k v h)
theorem ofL_lay : ∀ (l : Lay) (t : Nat), (ofL l).get t = lay l t
  | [], t => rfl
  | (k, i) :: r, t => by
    rw [ofL, T.get_set, lay, ofL_lay r t]
    by_cases e : t = k
    · subst e; simp
    · rw [if_neg e]
      have : Nat.beq k t = false := by
        cases hb : Nat.beq k t with
        | false => rfl
        | true => exact absurd (Nat.eq_of_beq_eq_true hb).symm e
      rw [this]; rfl
theorem lay_mem : ∀ (l : Lay) (t : Nat) (i : TI), lay l t = some i → (t, i) ∈ l
  | l, t, i, h => ofL_mem l t i (by rw [ofL_lay]; exact h)
section
variable {P : Program}
theorem map_eq_mem {α β : Type} {f g : α → β} : ∀ {l : List α}, l.map f = l.map g → ∀ x ∈ l, f x = g x
  | [], _, x, hx => by cases hx
  | y :: r, h, x, hx => by
    simp only [List.map_cons, List.cons.injEq] at h
    rcases List.mem_cons.1 hx with rfl | hx
    · exact h.1
    · exact map_eq_mem h.2 x hx
theorem okLay_of {l : Lay} (h1 : l.map (fun p => (P.underlying p.1).map Und.of) = l.map (fun p => some p.2.und))
    (h2 : l.map (fun p => (P.info? p.1).map (fun x => (x.size, x.bytes, x.zero.map (·.cells.toList)))) = l.map (fun p => some (p.2.size, p.2.bytes, some p.2.zero))) : OkLay P l := fun t i h => by
  have hm := lay_mem l t i h
  exact ⟨map_eq_mem h1 _ hm, map_eq_mem h2 _ hm⟩
def namesOk (P : Program) (t : Nat) : Bool := match P.underlying t with
  | some (.struct fs) => fs.toList.all fun f => f.name != "_"
  | _ => true
theorem tysOk_of {l : Lay} {eq ups : List (Nat × Unit)} {lies : List (Nat × Nat)} (h1 : l.map (fun p => (P.underlying p.1).map Und.of) = l.map (fun p => some p.2.und))
    (h2 : l.map (fun p => (P.info? p.1).map (fun x => (x.size, x.bytes, x.zero.map (·.cells.toList)))) = l.map (fun p => some (p.2.size, p.2.bytes, some p.2.zero)))
    (h3 : eq.all (fun p => !(P.stoodInHeld p.1) && !(P.eqGuardType P.depth p.1) && namesOk P p.1) = true)
    (h4 : ups.map (fun p => P.underlying p.1) = ups.map (fun _ => some .unsafePointer))
    (h5 : lies.all (fun p => liesAt P P.depth p.1 1 0 p.2 1) = true) : TysOk P ⟨ofL l, ofL eq, ofL ups, lies⟩ l := by
  refine ⟨fun t => ofL_lay l t, okLay_of h1 h2, fun t u h => ?_, fun p hp => ?_, fun t u h => ?_⟩
  · exact map_eq_mem h4 _ (ofL_mem ups t u h)
  · exact List.all_eq_true.1 h5 p hp
  · have := List.all_eq_true.1 h3 _ (ofL_mem eq t u h)
    simp only [Bool.and_eq_true, Bool.not_eq_true'] at this
    refine ⟨this.1.1, this.1.2, fun fs hfs f hf => ?_⟩
    have h6 := this.2
    unfold namesOk at h6
    simp only [hfs] at h6
    have := List.all_eq_true.1 h6 f hf
    simpa using this
theorem fnsOk_of {l : List (Nat × Func)} (h1 : l.map (fun p => P.funcs[p.1]?) = l.map (fun p => some p.2)) (h2 : l.all (fun p => !(p.2.name == "runtime.NumGoroutine")) = true) : FnsOk P (ofL l) := fun f fn h => by
  have hm := ofL_mem l f fn h
  refine ⟨map_eq_mem h1 _ hm, ?_⟩
  have := List.all_eq_true.1 h2 _ hm
  simpa using this
/-- A function without a body that hands its argument back. -/
def isSame (P : Program) (f : Nat) : Prop := ∃ fn, P.funcs[f]? = some fn ∧ (fn.name == "runtime.NumGoroutine") = false ∧ fn.body.isNone = true ∧ (Extern.findNext fn).isNone = true ∧ Extern.find fn = some Extern.AbiNoEscape.same
theorem run_same {f : Nat} (h : isSame P f) (V : Value) (w : World) : (callFunc f #[V]).run P w = .ok (.value V) w := by
  obtain ⟨fn, h1, h2, h3, h4, h5⟩ := h
  cases h6 : Extern.findNext fn with
  | some q => rw [h6] at h4; cases h4
  | none =>
    simp only [callFunc, program, Sem.run_bind, Sem.run, Result.andThen_ok, h1]
    have h7 : ∀ w, (Extern.AbiNoEscape.same #[V]).run P w = .ok V w := fun _ => rfl
    simp [h2, h3, h6, h5, mark, h7, Sem.run]
theorem extsOk_of {l : List (Nat × Ext)} {tys : Tys} {fns : T Func} {prims : T Prim} (h : ∀ p ∈ l, isSame P p.1) : ExtsOk P ⟨tys, fns, prims, ofL l⟩ := by
  intro f x hx args s v s' hd G σ w Vs hR hVs
  have hs := h _ (ofL_mem l f x hx)
  cases x
  match args, hd with
  | [u], hd =>
    simp only [extD, Option.some.injEq, Prod.mk.injEq] at hd
    obtain ⟨rfl, rfl⟩ := hd
    obtain ⟨V, R, h1, h2, rfl⟩ := vals_cons hVs
    simp only [vals, Option.some.injEq] at h2
    subst h2
    exact ⟨σ, V, w, Grow.refl _ _, run_same hs V w, h1, hR⟩
/-- All that was there stays. -/
def ghOf (w : World) : Gh := ⟨fun b => w.heap[b]?, w.os, w.tape, w.output⟩
theorem rel0 (w : World) : Rel (ghOf w) (fun _ => none) ⟨.emp, 0⟩ w :=
  ⟨fun _ _ h => h, rfl, rfl, rfl, fun id o h => (by cases h), fun id id' o o' L L' h => (by cases h), fun _ _ => rfl⟩
theorem below_of {w w' : World} {σ : Sg} {s : St} (h : Rel (ghOf w) σ s w') : Below w.heap.size w w' := by
  have hk : ∀ k, k < w.heap.size → w'.heap[k]? = w.heap[k]? := fun k hk => by
    have : (ghOf w).objs k = some w.heap[k] := Array.getElem?_eq_getElem hk
    rw [h.ghost k _ this, Array.getElem?_eq_getElem hk]
  refine ⟨h.os, h.tape, h.output, ?_, hk⟩
  rcases Nat.lt_or_ge w'.heap.size w.heap.size with h1 | h1
  · have := hk w'.heap.size h1
    rw [Array.getElem?_eq_getElem h1] at this
    simp at this
  · exact h1
end
end Go.D
