/- The loaded program's types are laid out, row by row, as Go lays them; it sets no knob of its own. -/
import Derived.Test.YthhanoaefdahkaaGreatDoorProg
import Derived.ProofKit
import Derived.LaidMore
import Derived.Lay
import Derived.Carry
import Derived.KernelRfl
namespace Go.Proofs.YthhanoaefdahkaaGreatDoor
open Go.ChangeShapes Go.WideShapes Go.ChangeAt Go.RowKit
theorem own51 : ownKnob Tryz.prog.godebug = none := by kernel_rfl
theorem laidOut51 : laidOutB Tryz.prog = true := by kernel_rfl
theorem mapsRowed51 : mapsRowed Tryz.prog = true := by kernel_rfl
end Go.Proofs.YthhanoaefdahkaaGreatDoor
