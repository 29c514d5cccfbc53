/- One closed fact of SmartKeeps's row. -/
import Derived.Test.YtamgdhphmkehcaaGreatDoorRows
namespace Go.Proofs.YtamgdhphmkehcaaGreatDoor
theorem skeeps_inPlace : (Rows.smartKeepsRow.inPlace == Tryz.pinned.checked.prog.inPlace 5) = true := by kernel_rfl
end Go.Proofs.YtamgdhphmkehcaaGreatDoor
