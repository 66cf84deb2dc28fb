import Derived.Test.YtjbcafbeafhdpaaGreatDoorDT
namespace Go.D
open Go.SL Go.RowKit
def isRet (v : DV) : Option (DV × St) → Bool
  | some (u, _) => dvEq u v
  | none => false
theorem isRet_spec {v : DV} {r : Option (DV × St)} (h : isRet v r = true) : ∃ s, r = some (v, s) := by
  unfold isRet at h
  split at h
  · rename_i u s
    exact ⟨s, by rw [dvEq_eq h]⟩
  · cases h
set_option maxRecDepth 1000000
theorem awake_run : isRet (.bool true) (callD env0 1000 100 9 [] ⟨.emp, 0⟩) = true := by decide +kernel
theorem awake_calls (w : World) : Calls Go.Proofs.Tryz.prog 9 #[] w fun e w' => e = .returned (.bool true) ∧ Below w.heap.size w w' := by
  obtain ⟨s, hs⟩ := isRet_spec awake_run
  have h := ((callOk 1000 100).go 9 [] ⟨.emp, 0⟩ _ s hs (ghOf w) _ w [] (rel0 w) rfl).2
  refine h.mono fun e w' ⟨σ', V, _, h1, h2, h3⟩ => ⟨?_, below_of h3⟩
  rw [h1, val_bool h2]
#print axioms awake_calls
end Go.D
