/- The law package's function 'awake' answers true from every world, whatever the tape and the orders drawn; no condition. -/
import Derived.Test.YtamgdhphmkehcaaGreatDoorEv10
import Derived.Test.YtamgdhphmkehcaaGreatDoorRows
namespace Go.Proofs.YtamgdhphmkehcaaGreatDoor
open Go.Ev
theorem awake_ev : evTrue Tryz.prog 400 12 = true := by kernel_rfl
theorem awake_mix : Tryz.prog.follows .mixedOrders = true := by kernel_rfl
theorem awake_calls (w : World) : Calls Tryz.prog 12 #[] w fun e w' => e = .returned (.bool true) ∧ Go.RowKit.Below w.heap.size w w' := calls_of_evTrue awake_mix awake_ev w
end Go.Proofs.YtamgdhphmkehcaaGreatDoor
