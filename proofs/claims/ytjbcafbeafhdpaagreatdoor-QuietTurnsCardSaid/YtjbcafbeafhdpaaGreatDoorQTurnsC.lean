/- minuetlaw25.QuietTurns, called with any four ints, returns true, and its input reads as it did: the tied card. Conditions: those of the given statement alone (its row, its laid variables). -/
import Derived.Test.YtjbcafbeafhdpaaGreatDoorQTurnsP
import Derived.Test.YtjbcafbeafhdpaaGreatDoorTie
import Derived.Test.YtjbcafbeafhdpaaGreatDoorCards
import Derived.SevenTiedAt
namespace Go.Proofs.YtjbcafbeafhdpaaGreatDoor
open Go
theorem quietTurns_card : Rows.QuietTurnsCardSaid :=
  Claim7.holds_tied_plain_at .later [] [.data, .data, .data, .sentinel, .sentinel] true (true, "6a9bfc0be4613dfbc3b591c14ba1d1d69fdce732a1d5f32a880a5121ba65ccb7") true
    quietTurns_holds (fun _ h => by cases h) (by kernel_rfl) (fun _ h => by cases h) quietTurns_row_tie rfl ⟨rfl, rfl⟩ (by kernel_rfl) rfl
    (fun f fn hf hfn => by
      obtain rfl : f = 4 := Option.some.inj ((show Tryz.prog.funcNamed "minuet/minuetlaw25.QuietTurns" = some 4 by kernel_rfl).symm.trans hf) |>.symm
      obtain rfl : fn = Tryz.f4 := (Option.some.inj (Tryz.func4.symm.trans hfn)).symm
      exact ⟨by kernel_rfl, fun j t ht => by
        rw [Tryz.params4] at ht
        have h3 : t = 3 := by
          rcases j with _ | _ | _ | _ | j
          · simpa using ht.symm
          · simpa using ht.symm
          · simpa using ht.symm
          · simpa using ht.symm
          · simp at ht
        subst h3
        exact (show Tryz.prog.wantsStandIn 3 = false by kernel_rfl)⟩)
    (by kernel_rfl)
#print axioms quietTurns_card
end Go.Proofs.YtjbcafbeafhdpaaGreatDoor
