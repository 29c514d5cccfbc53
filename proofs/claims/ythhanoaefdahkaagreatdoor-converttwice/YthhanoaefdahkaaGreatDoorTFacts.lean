/- The closed facts of ConvertTwice's row that reckon what the law reaches. -/
import Derived.Test.YthhanoaefdahkaaGreatDoorRows
import Derived.Test.YthhanoaefdahkaaGreatDoorClo
namespace Go.Proofs.YthhanoaefdahkaaGreatDoor
open Go
set_option maxRecDepth 100000 in
theorem ctwi_inPlace : (Rows.convertTwiceRow.inPlace == Tryz.pinned.checked.prog.inPlace 5) = true := by
  show (Rows.convertTwiceRow.inPlace == Tryz.prog.inPlace 5) = true
  unfold Program.inPlace
  rw [clo5]
  kernel_rfl
set_option maxRecDepth 100000 in
theorem ctwi_unf : Tryz.prog.unfollowed 5 = true := by
  unfold Program.unfollowed
  rw [clo5]
  kernel_rfl
theorem ctwi_unfollowed : (Rows.convertTwiceRow.unfollowed == Tryz.pinned.checked.prog.unfollowed 5) = true := by
  show (Rows.convertTwiceRow.unfollowed == Tryz.prog.unfollowed 5) = true
  rw [ctwi_unf]; rfl
theorem ctwi_recurses : (Rows.convertTwiceRow.recurses == Tryz.pinned.checked.prog.recurses 5) = true := by
  show (Rows.convertTwiceRow.recurses == Tryz.prog.recurses 5) = true
  unfold Program.recurses
  rw [ctwi_unf]; rfl
set_option maxRecDepth 100000 in
theorem ctwi_named : (Rows.convertTwiceRow.named == Tryz.pinned.checked.prog.varsNamed 5) = true := by
  show (Rows.convertTwiceRow.named == Tryz.prog.varsNamed 5) = true
  unfold Program.varsNamed
  rw [clo5]
  kernel_rfl
end Go.Proofs.YthhanoaefdahkaaGreatDoor
