/- The closed facts of ConvertDetects's row that reckon what the law reaches. -/
import Derived.Test.YthhanoaefdahkaaGreatDoorRows
import Derived.Test.YthhanoaefdahkaaGreatDoorClo
namespace Go.Proofs.YthhanoaefdahkaaGreatDoor
open Go
set_option maxRecDepth 100000 in
theorem cdet_inPlace : (Rows.convertDetectsRow.inPlace == Tryz.pinned.checked.prog.inPlace 3) = true := by
  show (Rows.convertDetectsRow.inPlace == Tryz.prog.inPlace 3) = true
  unfold Program.inPlace
  rw [clo3]
  kernel_rfl
set_option maxRecDepth 100000 in
theorem cdet_unf : Tryz.prog.unfollowed 3 = true := by
  unfold Program.unfollowed
  rw [clo3]
  kernel_rfl
theorem cdet_unfollowed : (Rows.convertDetectsRow.unfollowed == Tryz.pinned.checked.prog.unfollowed 3) = true := by
  show (Rows.convertDetectsRow.unfollowed == Tryz.prog.unfollowed 3) = true
  rw [cdet_unf]; rfl
theorem cdet_recurses : (Rows.convertDetectsRow.recurses == Tryz.pinned.checked.prog.recurses 3) = true := by
  show (Rows.convertDetectsRow.recurses == Tryz.prog.recurses 3) = true
  unfold Program.recurses
  rw [cdet_unf]; rfl
set_option maxRecDepth 100000 in
theorem cdet_named : (Rows.convertDetectsRow.named == Tryz.pinned.checked.prog.varsNamed 3) = true := by
  show (Rows.convertDetectsRow.named == Tryz.prog.varsNamed 3) = true
  unfold Program.varsNamed
  rw [clo3]
  kernel_rfl
end Go.Proofs.YthhanoaefdahkaaGreatDoor
