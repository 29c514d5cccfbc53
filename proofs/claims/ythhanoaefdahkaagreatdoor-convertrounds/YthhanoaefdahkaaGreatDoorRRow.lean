/- ConvertRounds's row: for every image and depth, whatever else lies in memory, the law returns true and its arguments read as before; its condition: the listed tables start as the program's text lays them (tied). -/
import Derived.Test.YthhanoaefdahkaaGreatDoorRLifted
import Derived.Test.YthhanoaefdahkaaGreatDoorRJoin
namespace Go.Proofs.YthhanoaefdahkaaGreatDoor
open Go
theorem crnd_row : Rows.ConvertRoundsSaid :=
  OpenClaim.holds_of_wide 4 Tryz.f4 rfl rfl rfl rfl rfl rfl rfl ⟨rfl, rfl, rfl, rfl, rfl⟩ rfl rfl rfl rfl rfl (by kernel_rfl) Tryz.func4 crnd_facts
    (of_decide_eq_true (by kernel_rfl)) (by unfold Func.isWrapper; first | (rw [if_pos (by decide +kernel)]; kernel_rfl) | (rw [if_neg (by decide +kernel)]; exact ⟨rfl, rfl⟩))
    (fun os started H enc _ => crnd_lifted os started H enc)
end Go.Proofs.YthhanoaefdahkaaGreatDoor
