/- One closed fact of SmartWants's row. -/
import Derived.Test.YtamgdhphmkehcaaGreatDoorRows
namespace Go.Proofs.YtamgdhphmkehcaaGreatDoor
theorem swants_named : (Rows.smartWantsRow.named == Tryz.pinned.checked.prog.varsNamed 4) = true := by kernel_rfl
end Go.Proofs.YtamgdhphmkehcaaGreatDoor
