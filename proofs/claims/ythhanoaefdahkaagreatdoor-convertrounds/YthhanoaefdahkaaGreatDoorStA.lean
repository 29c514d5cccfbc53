/- law51's awake, one stage of its evaluation: the memory behind it is the literal of the text Mid. -/
import Derived.Test.YthhanoaefdahkaaGreatDoorMid
namespace Go.Proofs.YthhanoaefdahkaaGreatDoor
open Go.Ev
theorem stA : stageB Tryz.prog 1000 (((pieces Tryz.f6).drop 0).take 14) (startMid Tryz.f6 tabs51) mid14 = true := by kernel_rfl
end Go.Proofs.YthhanoaefdahkaaGreatDoor
