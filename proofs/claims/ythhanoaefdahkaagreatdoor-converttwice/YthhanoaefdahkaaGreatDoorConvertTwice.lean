/- THE CARD OF ConvertTwice: for every image, whatever else lies in memory, the law returns true and its argument reads as before; its condition: the listed tables start as the program's text lays them (tied). -/
import Derived.Test.YthhanoaefdahkaaGreatDoorTRow
import Derived.Test.YthhanoaefdahkaaGreatDoorCards
import Derived.Test.YthhanoaefdahkaaGreatDoorTie
namespace Go.Proofs.YthhanoaefdahkaaGreatDoor
open Go
theorem ConvertTwice_holds : Rows.ConvertTwiceCardSaid :=
  Claim7.holds_tied_plain_at .later [] [.data, .data, .data, .data, .pinned] true (true, "2a1282f7419a245aa36eee7ff0c0d3345b3f83d2721c919e37e8a0b1f0c66dcd") false ctwi_row (fun _ h => by cases h) (by kernel_rfl) (fun _ h => by cases h) convertTwice_row_tie rfl ⟨rfl, rfl⟩ (by kernel_rfl) rfl
    (fun f fn hf hfn => by
      obtain rfl : f = 5 := Option.some.inj ((show Tryz.prog.funcNamed "imageeditor/imageeditorlaw51.ConvertTwice" = some 5 by kernel_rfl).symm.trans hf) |>.symm
      obtain rfl : fn = Tryz.f5 := (Option.some.inj (Tryz.func5.symm.trans hfn)).symm
      exact ⟨looks51, fun j t ht => by
        rw [Tryz.params5] at ht
        have hm : t ∈ [27] := by simpa using Array.mem_of_getElem? ht
        have hall : ([27].all fun u => !Tryz.prog.wantsStandIn u) = true := by kernel_rfl
        exact (show Tryz.prog.wantsStandIn t = false by simpa using List.all_eq_true.1 hall t hm)⟩)
    ctwi_goes
#print axioms ConvertTwice_holds
end Go.Proofs.YthhanoaefdahkaaGreatDoor
