/- The closed facts of ConvertRounds's row, joined. -/
import Derived.Test.YthhanoaefdahkaaGreatDoorRFacts
import Derived.Test.YthhanoaefdahkaaGreatDoorGoes
import Derived.Test.YthhanoaefdahkaaGreatDoorLay
import Derived.JoinedOf
import Derived.Stop.Joined
import Derived.SevenTiedAt
namespace Go.Proofs.YthhanoaefdahkaaGreatDoor
open Go
theorem crnd_goes : false = Rows.convertRoundsRow.goesBy Tryz.prog := by
  unfold OpenClaim.goesBy Program.goesAt Program.goesFrom
  have h : ∀ (o : Option FuncId), Option.any Tryz.prog.goes o = false := fun o => by cases o <;> simp [goes_false]
  simp [h, Rows.convertRoundsRow]

theorem crnd_facts : joinedFacts Tryz.pinned.checked.prog 4 Tryz.f4 Rows.convertRoundsSpec Rows.convertRoundsRow = true := by
  unfold joinedFacts
  rw [crnd_inPlace, crnd_unfollowed, crnd_recurses, crnd_named]
  rw [show laidOutB Tryz.pinned.checked.prog = true from laidOut51, show mapsRowed Tryz.pinned.checked.prog = true from mapsRowed51]
  kernel_rfl
end Go.Proofs.YthhanoaefdahkaaGreatDoor
