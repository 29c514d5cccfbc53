/- One closed fact of SmartRules's row. -/
import Derived.Test.YtamgdhphmkehcaaGreatDoorRows
namespace Go.Proofs.YtamgdhphmkehcaaGreatDoor
theorem rules_named : (Rows.smartRulesRow.named == Tryz.pinned.checked.prog.varsNamed 6) = true := by kernel_rfl
end Go.Proofs.YtamgdhphmkehcaaGreatDoor
