/- From the evaluator's worlds to the small library's, and from contracts to plain calls. -/
import Derived.Test.YtjbcafbeafhdpaaGreatDoorLay
import Derived.Test.YtjbcafbeafhdpaaGreatDoorD19
set_option maxRecDepth 10000
set_option linter.unusedVariables false
namespace Go.SL
open Go.RowKit
theorem Owns.below {w w' : World} {ρ : Gh} {H : Heap} (hb : Below w.heap.size w w') (o : Owns w ρ H) : Owns w' ρ H :=
  o.keep fun b ⟨h, hm, hf⟩ => hb.block b (o.lt hm hf)
theorem Sat.below {w w' : World} {ρ : Gh} {H : Heap} (hb : Below w.heap.size w w') (s : Sat ρ H w) : Sat ρ H w' :=
  ⟨fun b o h => (hb.block b (s.ghost_lt h)).trans (s.ghost b o h), s.owns.below hb, hb.os.trans s.os, hb.tape.trans s.tape, hb.output.trans s.output⟩
/-- A call that leaves all that was there. -/
theorem Ct.of_below {P : Program} {f : FuncId} {args : Array Value} {ρ : Gh} {v : Value} (he : ∀ (q : Array Value) (w : World), (callFunc f q).run P w = .ok (.enter f q) w) (h : ∀ w, Calls P f args w fun e w' => e = .returned v ∧ Below w.heap.size w w') : CtV P f args ρ v :=
  ⟨he, fun F w s => (h w).mono fun e w' ⟨h1, h2⟩ => ⟨v, ρ, [], h1, Gh.le_refl _, ⟨rfl, rfl, rfl⟩, s.below h2⟩⟩
/-- A contract that owns nothing, as a call. -/
theorem Ct.calls {P : Program} {f : FuncId} {args : Array Value} {R : Value → Gh → Heap → Prop} (w : World) (h : Ct P f args (D.ghOf w) [] R) : Calls P f args w fun e w' => ∃ v ρ' H', e = .returned v ∧ R v ρ' H' ∧ Below w.heap.size w w' := by
  refine (h.2 [] w ⟨fun _ _ h => h, trivial, rfl, rfl, rfl⟩).mono fun e w' ⟨v, ρ', H', h1, h2, h3, h4⟩ => ⟨v, ρ', H', h1, h3, ?_⟩
  have hk : ∀ k, k < w.heap.size → w'.heap[k]? = w.heap[k]? := fun k hk => by
    have : (D.ghOf w).objs k = some w.heap[k] := Array.getElem?_eq_getElem hk
    rw [h4.ghost k _ (h2.objs k _ this), Array.getElem?_eq_getElem hk]
  refine ⟨h4.os.trans h2.os, h4.tape.trans h2.tape, h4.output.trans h2.output, ?_, hk⟩
  rcases Nat.lt_or_ge w'.heap.size w.heap.size with h1 | h1
  · have := hk w'.heap.size h1
    rw [Array.getElem?_eq_getElem h1] at this
    simp at this
  · exact h1
end Go.SL
