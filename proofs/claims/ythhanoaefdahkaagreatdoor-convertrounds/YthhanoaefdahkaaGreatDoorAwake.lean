/- law51's awake answers true from every memory that holds the table of powers of ten. -/
import Derived.Test.YthhanoaefdahkaaGreatDoorStA
import Derived.Test.YthhanoaefdahkaaGreatDoorStB
import Derived.Test.YthhanoaefdahkaaGreatDoorStC
namespace Go.Proofs.YthhanoaefdahkaaGreatDoor
open Go.Ev
theorem awake51 (hmix : Tryz.prog.follows .mixedOrders = true) (w : World) (hw : TabsIn w tabs51) : Calls Tryz.prog 6 #[] w fun e w' => e = .returned (.bool true) ∧ Go.RowKit.Below w.heap.size w w' :=
  calls_of_pieces Tryz.func6 (by kernel_rfl) (good_stage hmix (i := 0) (d := 14) stA (good_stage hmix (i := 14) (d := 1) stB (good_last hmix stC))) w hw
end Go.Proofs.YthhanoaefdahkaaGreatDoor
