/- One closed fact of SmartAdds's row. -/
import Derived.Test.YtamgdhphmkehcaaGreatDoorRows
namespace Go.Proofs.YtamgdhphmkehcaaGreatDoor
theorem sadds_unfollowed : (Rows.smartAddsRow.unfollowed == Tryz.pinned.checked.prog.unfollowed 3) = true := by kernel_rfl
end Go.Proofs.YtamgdhphmkehcaaGreatDoor
