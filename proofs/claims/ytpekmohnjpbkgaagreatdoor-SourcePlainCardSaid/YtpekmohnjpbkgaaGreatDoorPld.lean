/- The card of koinelaw07.SourcePlain. -/
import Derived.Test.YtpekmohnjpbkgaaGreatDoorPlc
namespace Go.Proofs.YtpekmohnjpbkgaaGreatDoor
open Go.ChangeShapes Go.WideShapes Go.ChangeAt Go.RowKit
set_option maxRecDepth 100000
set_option maxHeartbeats 4000000

theorem and_tt {a b : Bool} (ha : a = true) (hb : b = true) : (a && b) = true := by rw [ha, hb]; rfl
theorem plain_facts : joinedFacts Tryz.pinned.checked.prog 13 Tryz.f13 (OpenSpec.ofChange Rows.sourcePlainSpec).bare Rows.sourcePlainRow = true := by
  unfold joinedFacts
  repeat' (with_reducible refine and_tt ?_ ?_)
  all_goals as_aux_lemma => kernel_rfl
end Go.Proofs.YtpekmohnjpbkgaaGreatDoor
