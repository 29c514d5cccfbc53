/- One closed fact of SmartKeeps's row. -/
import Derived.Test.YtamgdhphmkehcaaGreatDoorRows
namespace Go.Proofs.YtamgdhphmkehcaaGreatDoor
theorem skeeps_unfollowed : (Rows.smartKeepsRow.unfollowed == Tryz.pinned.checked.prog.unfollowed 5) = true := by kernel_rfl
end Go.Proofs.YtamgdhphmkehcaaGreatDoor
