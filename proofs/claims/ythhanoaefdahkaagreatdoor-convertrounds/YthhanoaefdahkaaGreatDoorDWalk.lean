/- ConvertDetects: its walk, for every text, in a memory that holds the table of powers of ten. -/
import Derived.Test.YthhanoaefdahkaaGreatDoorAwake
import Derived.Test.YthhanoaefdahkaaGreatDoorDetect4
namespace Go.Proofs.YthhanoaefdahkaaGreatDoor
open Go.RowKit Go.Ev

theorem mix51 : Tryz.prog.follows .mixedOrders = true := by kernel_rfl
set_option maxHeartbeats 1600000 in
theorem detects_any (s : ByteArray) (w : World) (hw : TabsIn w tabs51) : Calls Tryz.prog 3 #[.string s] w fun e w' => e = .returned (.bool true) ∧ Below w.heap.size w w' := by
  have ka := awake51 mix51 w hw
  have kd := fun W => detect_any s W
  have kr := fun W => rdetect_any s W
  generalize det s = z at kd kr
  go_enter Tryz.func3, Tryz.ntmps3
  go_wp2_with (first
    | (go_at_call 6; refine ka.mono ?_; rintro e w2 ⟨rfl, hb2⟩)
    | (go_at_call 7; refine (kd _).mono ?_; rintro e w3 ⟨rfl, hb3⟩)
    | (go_at_call 8; refine (kr _).mono ?_; rintro e w4 ⟨rfl, hb4⟩))
  all_goals go_ret
  all_goals
    have g3 := hb2.trans (hb3.mono hb2.size)
    exact ⟨by simp, g3.trans (hb4.mono g3.size)⟩
end Go.Proofs.YthhanoaefdahkaaGreatDoor
