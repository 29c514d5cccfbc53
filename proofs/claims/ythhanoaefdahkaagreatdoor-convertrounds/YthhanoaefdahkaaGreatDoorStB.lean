/- law51's awake, one stage of its evaluation: the memory behind it is the literal of the text Mid. -/
import Derived.Test.YthhanoaefdahkaaGreatDoorMid
namespace Go.Proofs.YthhanoaefdahkaaGreatDoor
open Go.Ev
theorem stB : stageB Tryz.prog 1000 (((pieces Tryz.f6).drop 14).take 1) mid14 mid15 = true := by kernel_rfl
end Go.Proofs.YthhanoaefdahkaaGreatDoor
