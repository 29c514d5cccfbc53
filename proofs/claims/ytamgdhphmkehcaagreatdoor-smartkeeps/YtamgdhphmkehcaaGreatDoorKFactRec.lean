/- One closed fact of SmartKeeps's row. -/
import Derived.Test.YtamgdhphmkehcaaGreatDoorRows
namespace Go.Proofs.YtamgdhphmkehcaaGreatDoor
theorem skeeps_recurses : (Rows.smartKeepsRow.recurses == Tryz.pinned.checked.prog.recurses 5) = true := by kernel_rfl
end Go.Proofs.YtamgdhphmkehcaaGreatDoor
