/- QuietJoins: its runs. -/
import Derived.Test.YtjbcafbeafhdpaaGreatDoorE2
import Derived.Test.YtjbcafbeafhdpaaGreatDoorD20
namespace Go.D
open Go.SL Go.RowKit
set_option maxRecDepth 1000000
/-- What '&' 1 gives. -/
def oddI (o : Int) : Int := IntKind.i64.wrap ((BitVec.ofInt IntKind.i64.bits o &&& BitVec.ofInt IntKind.i64.bits 1).toNat)
def twoD : Option (DV × DV × St) → Option (DV × DV)
  | some (x, v, _) => some (x, v)
  | none => none
theorem twoD_spec {r : Option (DV × DV × St)} {x v : DV} (h : twoD r = some (x, v)) : ∃ s, r = some (x, v, s) := by
  unfold twoD at h
  split at h
  · rename_i y u s
    simp only [Option.some.injEq, Prod.mk.injEq] at h
    obtain ⟨rfl, rfl⟩ := h
    exact ⟨s, rfl⟩
  · cases h
end Go.D
