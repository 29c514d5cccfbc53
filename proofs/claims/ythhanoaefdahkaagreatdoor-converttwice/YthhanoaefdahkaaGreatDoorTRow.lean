/- ConvertTwice's row: for every image, whatever else lies in memory, the law returns true and its argument reads as before; its condition: the listed tables start as the program's text lays them (tied). -/
import Derived.Test.YthhanoaefdahkaaGreatDoorTLifted
import Derived.Test.YthhanoaefdahkaaGreatDoorTJoin
namespace Go.Proofs.YthhanoaefdahkaaGreatDoor
open Go
theorem ctwi_row : Rows.ConvertTwiceSaid :=
  OpenClaim.holds_of_wide 5 Tryz.f5 rfl rfl rfl rfl rfl rfl rfl ⟨rfl, rfl, rfl, rfl, rfl⟩ rfl rfl rfl rfl rfl (by kernel_rfl) Tryz.func5 ctwi_facts
    (of_decide_eq_true (by kernel_rfl)) (by unfold Func.isWrapper; first | (rw [if_pos (by decide +kernel)]; kernel_rfl) | (rw [if_neg (by decide +kernel)]; exact ⟨rfl, rfl⟩))
    (fun os started H enc _ => ctwi_lifted os started H enc)
end Go.Proofs.YthhanoaefdahkaaGreatDoor
