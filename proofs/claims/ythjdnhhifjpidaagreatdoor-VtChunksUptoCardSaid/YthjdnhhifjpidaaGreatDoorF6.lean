/-
  PRINTED BY A PROGRAM OF THIS CLAIM'S (gen.py): for each Go function a Lean function over memory, and the proof that the code comes to what it says.
-/
import Derived.Test.YthjdnhhifjpidaaGreatDoorF5
import Derived.Test.YthjdnhhifjpidaaGreatDoorProg
set_option linter.unusedVariables false
set_option linter.unusedSimpArgs false
set_option maxRecDepth 100000
set_option maxHeartbeats 1000000
namespace Go.Proofs.YthjdnhhifjpidaaGreatDoor.M
open Go Go.Hp
/- mullion/mullionref19.within -/
/- mullion/mullionref19.Width -/
/- mullion/mullionlaw19.letter -/
/- mullion/mullionlaw19.placed -/
/- mullion/mullionlaw19.mayBe -/
/- mullion/mullionlaw19.VtBounds -/
/- mullion/mullionlaw19.VtPlain -/
end Go.Proofs.YthjdnhhifjpidaaGreatDoor.M
