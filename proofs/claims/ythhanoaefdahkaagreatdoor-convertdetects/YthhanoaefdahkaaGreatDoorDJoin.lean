/- The closed facts of ConvertDetects's row, joined. -/
import Derived.Test.YthhanoaefdahkaaGreatDoorDFacts
import Derived.Test.YthhanoaefdahkaaGreatDoorGoes
import Derived.Test.YthhanoaefdahkaaGreatDoorLay
import Derived.JoinedOf
import Derived.Stop.Joined
import Derived.SevenTiedAt
namespace Go.Proofs.YthhanoaefdahkaaGreatDoor
open Go
theorem cdet_goes : false = Rows.convertDetectsRow.goesBy Tryz.prog := by
  unfold OpenClaim.goesBy Program.goesAt Program.goesFrom
  have h : ∀ (o : Option FuncId), Option.any Tryz.prog.goes o = false := fun o => by cases o <;> simp [goes_false]
  simp [h, Rows.convertDetectsRow]

theorem cdet_facts : joinedFacts Tryz.pinned.checked.prog 3 Tryz.f3 Rows.convertDetectsSpec Rows.convertDetectsRow = true := by
  unfold joinedFacts
  rw [cdet_inPlace, cdet_unfollowed, cdet_recurses, cdet_named]
  rw [show laidOutB Tryz.pinned.checked.prog = true from laidOut51, show mapsRowed Tryz.pinned.checked.prog = true from mapsRowed51]
  kernel_rfl
end Go.Proofs.YthhanoaefdahkaaGreatDoor
