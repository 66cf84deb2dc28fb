/- minuetlaw25.QuietJoins, called with any two bools and any int, returns true, and its input reads as it did: the tied card. Conditions: those of the given statement alone (its row, its laid variables). -/
import Derived.Test.YtjbcafbeafhdpaaGreatDoorQJoinsP
import Derived.Test.YtjbcafbeafhdpaaGreatDoorTie
import Derived.Test.YtjbcafbeafhdpaaGreatDoorCards
import Derived.SevenTiedAt
namespace Go.Proofs.YtjbcafbeafhdpaaGreatDoor
open Go
theorem quietJoins_card : Rows.QuietJoinsCardSaid :=
  Claim7.holds_tied_plain_at .later [] [.data, .data, .data, .sentinel, .sentinel] true (true, "6a9bfc0be4613dfbc3b591c14ba1d1d69fdce732a1d5f32a880a5121ba65ccb7") true
    quietJoins_holds (fun _ h => by cases h) (by kernel_rfl) (fun _ h => by cases h) quietJoins_row_tie rfl ⟨rfl, rfl⟩ (by kernel_rfl) rfl
    (fun f fn hf hfn => by
      obtain rfl : f = 5 := Option.some.inj ((show Tryz.prog.funcNamed "minuet/minuetlaw25.QuietJoins" = some 5 by kernel_rfl).symm.trans hf) |>.symm
      obtain rfl : fn = Tryz.f5 := (Option.some.inj (Tryz.func5.symm.trans hfn)).symm
      exact ⟨by kernel_rfl, fun j t ht => by
        rw [Tryz.params5] at ht
        have h3 : t = 4 ∨ t = 3 := by
          rcases j with _ | _ | _ | j
          · exact .inl (by simpa using ht.symm)
          · exact .inl (by simpa using ht.symm)
          · exact .inr (by simpa using ht.symm)
          · simp at ht
        rcases h3 with h3 | h3
        · subst h3
          exact (show Tryz.prog.wantsStandIn 4 = false by kernel_rfl)
        · subst h3
          exact (show Tryz.prog.wantsStandIn 3 = false by kernel_rfl)⟩)
    (by kernel_rfl)
#print axioms quietJoins_card
end Go.Proofs.YtjbcafbeafhdpaaGreatDoor
