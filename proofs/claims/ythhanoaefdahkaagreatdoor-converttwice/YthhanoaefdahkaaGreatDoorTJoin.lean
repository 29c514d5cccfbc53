/- The closed facts of ConvertTwice's row, joined. -/
import Derived.Test.YthhanoaefdahkaaGreatDoorTFacts
import Derived.Test.YthhanoaefdahkaaGreatDoorGoes
import Derived.Test.YthhanoaefdahkaaGreatDoorLay
import Derived.JoinedOf
import Derived.Stop.Joined
import Derived.SevenTiedAt
namespace Go.Proofs.YthhanoaefdahkaaGreatDoor
open Go
theorem ctwi_goes : false = Rows.convertTwiceRow.goesBy Tryz.prog := by
  unfold OpenClaim.goesBy Program.goesAt Program.goesFrom
  have h : ∀ (o : Option FuncId), Option.any Tryz.prog.goes o = false := fun o => by cases o <;> simp [goes_false]
  simp [h, Rows.convertTwiceRow]

theorem ctwi_facts : joinedFacts Tryz.pinned.checked.prog 5 Tryz.f5 Rows.convertTwiceSpec Rows.convertTwiceRow = true := by
  unfold joinedFacts
  rw [ctwi_inPlace, ctwi_unfollowed, ctwi_recurses, ctwi_named]
  rw [show laidOutB Tryz.pinned.checked.prog = true from laidOut51, show mapsRowed Tryz.pinned.checked.prog = true from mapsRowed51]
  kernel_rfl
end Go.Proofs.YthhanoaefdahkaaGreatDoor
