/- ConvertDetects's row: for every text, whatever else lies in memory, the law returns true and its argument reads as before; its condition: the listed tables start as the program's text lays them (tied). -/
import Derived.Test.YthhanoaefdahkaaGreatDoorDLifted
import Derived.Test.YthhanoaefdahkaaGreatDoorDJoin
namespace Go.Proofs.YthhanoaefdahkaaGreatDoor
open Go
theorem cdet_row : Rows.ConvertDetectsSaid :=
  OpenClaim.holds_of_wide 3 Tryz.f3 rfl rfl rfl rfl rfl rfl rfl ⟨rfl, rfl, rfl, rfl, rfl⟩ rfl rfl rfl rfl rfl (by kernel_rfl) Tryz.func3 cdet_facts
    (of_decide_eq_true (by kernel_rfl)) (by unfold Func.isWrapper; first | (rw [if_pos (by decide +kernel)]; kernel_rfl) | (rw [if_neg (by decide +kernel)]; exact ⟨rfl, rfl⟩))
    (fun os started H enc _ => cdet_lifted os started H enc)
end Go.Proofs.YthhanoaefdahkaaGreatDoor
