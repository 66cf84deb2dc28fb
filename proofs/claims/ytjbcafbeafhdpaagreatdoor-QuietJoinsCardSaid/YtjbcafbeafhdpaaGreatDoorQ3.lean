/- QuietJoins: the law's call. -/
import Derived.Test.YtjbcafbeafhdpaaGreatDoorQ3fff
import Derived.Test.YtjbcafbeafhdpaaGreatDoorQ3fft
import Derived.Test.YtjbcafbeafhdpaaGreatDoorQ3ftf
import Derived.Test.YtjbcafbeafhdpaaGreatDoorQ3ftt
import Derived.Test.YtjbcafbeafhdpaaGreatDoorQ3tff
import Derived.Test.YtjbcafbeafhdpaaGreatDoorQ3tft
import Derived.Test.YtjbcafbeafhdpaaGreatDoorQ3ttf
import Derived.Test.YtjbcafbeafhdpaaGreatDoorQ3ttt
namespace Go.D
open Go.SL Go.RowKit
set_option maxRecDepth 10000
theorem qj_run (o : Int) : ∀ (j p b : Bool), twoD (call2D env0 1000 100 5 [.bool j, .bool p, .int .i64 o] ⟨.emp, 0⟩ 1000 42 (.bool b)) = some (.bool (decide (oddI o = 1)), .bool true)
  | false, false, false => qj_fff o
  | false, false, true => qj_fft o
  | false, true, false => qj_ftf o
  | false, true, true => qj_ftt o
  | true, false, false => qj_tff o
  | true, false, true => qj_tft o
  | true, true, false => qj_ttf o
  | true, true, true => qj_ttt o
theorem qj_calls (j p : Bool) (o : Int) (w : World) : Calls Go.Proofs.Tryz.prog 5 #[.bool j, .bool p, .int .i64 o] w fun e w' => e = .returned (.bool true) ∧ Below w.heap.size w w' := by
  obtain ⟨s, hs⟩ := twoD_spec (qj_run o j p (decide (oddI o = 1)))
  have h := (call2_sound (by kernel_rfl) tysOk extsOk fnsOk primsOk hs rfl (ghOf w) _ w [.bool j, .bool p, .int .i64 o] (rel0 w) rfl).2
  refine h.mono fun e w' ⟨σ', V, _, h1, h2, h3⟩ => ⟨?_, below_of h3⟩
  rw [h1, val_bool h2]
#print axioms qj_calls
end Go.D
