/- One closed fact of SmartWants's row. -/
import Derived.Test.YtamgdhphmkehcaaGreatDoorRows
namespace Go.Proofs.YtamgdhphmkehcaaGreatDoor
theorem swants_inPlace : (Rows.smartWantsRow.inPlace == Tryz.pinned.checked.prog.inPlace 4) = true := by kernel_rfl
end Go.Proofs.YtamgdhphmkehcaaGreatDoor
