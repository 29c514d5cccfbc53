/- The closed facts of ConvertRounds's row that reckon what the law reaches. -/
import Derived.Test.YthhanoaefdahkaaGreatDoorRows
import Derived.Test.YthhanoaefdahkaaGreatDoorClo
namespace Go.Proofs.YthhanoaefdahkaaGreatDoor
open Go
set_option maxRecDepth 100000 in
theorem crnd_inPlace : (Rows.convertRoundsRow.inPlace == Tryz.pinned.checked.prog.inPlace 4) = true := by
  show (Rows.convertRoundsRow.inPlace == Tryz.prog.inPlace 4) = true
  unfold Program.inPlace
  rw [clo4]
  kernel_rfl
set_option maxRecDepth 100000 in
theorem crnd_unf : Tryz.prog.unfollowed 4 = true := by
  unfold Program.unfollowed
  rw [clo4]
  kernel_rfl
theorem crnd_unfollowed : (Rows.convertRoundsRow.unfollowed == Tryz.pinned.checked.prog.unfollowed 4) = true := by
  show (Rows.convertRoundsRow.unfollowed == Tryz.prog.unfollowed 4) = true
  rw [crnd_unf]; rfl
theorem crnd_recurses : (Rows.convertRoundsRow.recurses == Tryz.pinned.checked.prog.recurses 4) = true := by
  show (Rows.convertRoundsRow.recurses == Tryz.prog.recurses 4) = true
  unfold Program.recurses
  rw [crnd_unf]; rfl
set_option maxRecDepth 100000 in
theorem crnd_named : (Rows.convertRoundsRow.named == Tryz.pinned.checked.prog.varsNamed 4) = true := by
  show (Rows.convertRoundsRow.named == Tryz.prog.varsNamed 4) = true
  unfold Program.varsNamed
  rw [clo4]
  kernel_rfl
end Go.Proofs.YthhanoaefdahkaaGreatDoor
