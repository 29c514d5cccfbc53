/- THE CARD OF ConvertDetects: for every text, whatever else lies in memory, the law returns true and its argument reads as before; its condition: the listed tables start as the program's text lays them (tied). -/
import Derived.Test.YthhanoaefdahkaaGreatDoorDRow
import Derived.Test.YthhanoaefdahkaaGreatDoorCards
import Derived.Test.YthhanoaefdahkaaGreatDoorTie
namespace Go.Proofs.YthhanoaefdahkaaGreatDoor
open Go
theorem ConvertDetects_holds : Rows.ConvertDetectsCardSaid :=
  Claim7.holds_tied_plain_at .later [] [.data, .data, .data, .data, .pinned] true (true, "2a1282f7419a245aa36eee7ff0c0d3345b3f83d2721c919e37e8a0b1f0c66dcd") false cdet_row (fun _ h => by cases h) (by kernel_rfl) (fun _ h => by cases h) convertDetects_row_tie rfl ⟨rfl, rfl⟩ (by kernel_rfl) rfl
    (fun f fn hf hfn => by
      obtain rfl : f = 3 := Option.some.inj ((show Tryz.prog.funcNamed "imageeditor/imageeditorlaw51.ConvertDetects" = some 3 by kernel_rfl).symm.trans hf) |>.symm
      obtain rfl : fn = Tryz.f3 := (Option.some.inj (Tryz.func3.symm.trans hfn)).symm
      exact ⟨looks51, fun j t ht => by
        rw [Tryz.params3] at ht
        have hm : t ∈ [9] := by simpa using Array.mem_of_getElem? ht
        have hall : ([9].all fun u => !Tryz.prog.wantsStandIn u) = true := by kernel_rfl
        exact (show Tryz.prog.wantsStandIn t = false by simpa using List.all_eq_true.1 hall t hm)⟩)
    cdet_goes
#print axioms ConvertDetects_holds
end Go.Proofs.YthhanoaefdahkaaGreatDoor
