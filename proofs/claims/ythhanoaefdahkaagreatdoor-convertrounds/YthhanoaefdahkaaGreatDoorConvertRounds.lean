/- THE CARD OF ConvertRounds: for every image and depth, whatever else lies in memory, the law returns true and its arguments read as before; its condition: the listed tables start as the program's text lays them (tied). -/
import Derived.Test.YthhanoaefdahkaaGreatDoorRRow
import Derived.Test.YthhanoaefdahkaaGreatDoorCards
import Derived.Test.YthhanoaefdahkaaGreatDoorTie
namespace Go.Proofs.YthhanoaefdahkaaGreatDoor
open Go
theorem ConvertRounds_holds : Rows.ConvertRoundsCardSaid :=
  Claim7.holds_tied_plain_at .later [] [.data, .data, .data, .data, .pinned] true (true, "2a1282f7419a245aa36eee7ff0c0d3345b3f83d2721c919e37e8a0b1f0c66dcd") false crnd_row (fun _ h => by cases h) (by kernel_rfl) (fun _ h => by cases h) convertRounds_row_tie rfl ⟨rfl, rfl⟩ (by kernel_rfl) rfl
    (fun f fn hf hfn => by
      obtain rfl : f = 4 := Option.some.inj ((show Tryz.prog.funcNamed "imageeditor/imageeditorlaw51.ConvertRounds" = some 4 by kernel_rfl).symm.trans hf) |>.symm
      obtain rfl : fn = Tryz.f4 := (Option.some.inj (Tryz.func4.symm.trans hfn)).symm
      exact ⟨looks51, fun j t ht => by
        rw [Tryz.params4] at ht
        have hm : t ∈ [27, 3] := by simpa using Array.mem_of_getElem? ht
        have hall : ([27, 3].all fun u => !Tryz.prog.wantsStandIn u) = true := by kernel_rfl
        exact (show Tryz.prog.wantsStandIn t = false by simpa using List.all_eq_true.1 hall t hm)⟩)
    crnd_goes
#print axioms ConvertRounds_holds
end Go.Proofs.YthhanoaefdahkaaGreatDoor
