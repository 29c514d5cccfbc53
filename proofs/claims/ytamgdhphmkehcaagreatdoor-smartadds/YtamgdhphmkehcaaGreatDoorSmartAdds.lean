/- THE CARD OF SmartAdds: for every library (nil too) and file, whatever else lies in memory, the law returns true and its arguments read as before; its condition: the two listed tables of unicode/utf8 start as the program's text lays them (tied). -/
import Derived.Test.YtamgdhphmkehcaaGreatDoorALifted
import Derived.Test.YtamgdhphmkehcaaGreatDoorCards
import Derived.Test.YtamgdhphmkehcaaGreatDoorAFactPlace
import Derived.Test.YtamgdhphmkehcaaGreatDoorAFactUnf
import Derived.Test.YtamgdhphmkehcaaGreatDoorAFactRec
import Derived.Test.YtamgdhphmkehcaaGreatDoorAFactNamed
namespace Go.Proofs.YtamgdhphmkehcaaGreatDoor
open Go

theorem no_goes : (Tryz.prog.funcs.toList.all fun f => !f.goes) = true := by kernel_rfl
theorem goes_false (f : FuncId) : Tryz.prog.goes f = false := by
  have h : ∀ (fn : Func), fn ∈ Tryz.prog.funcs.toList → fn.goes = false := fun fn hf => by
    have := List.all_eq_true.1 no_goes fn hf
    simpa using this
  have hany : Tryz.prog.funcs.any Func.goes = false := by
    rw [← Array.any_toList]
    exact List.any_eq_false.2 fun fn hf => by simp [h fn hf]
  unfold Program.goes
  rw [hany, Bool.and_false, Bool.or_false]
  refine List.any_eq_false.2 fun g _ => ?_
  cases hg : Tryz.prog.funcs[g]? with
  | none => simp
  | some fn =>
    have := h fn (by simpa using Array.mem_of_getElem? hg)
    simp [this]
theorem sadds_goes : false = Rows.smartAddsRow.goesBy Tryz.prog := by
  unfold OpenClaim.goesBy Program.goesAt Program.goesFrom
  have h : ∀ (o : Option FuncId), Option.any Tryz.prog.goes o = false := fun o => by cases o <;> simp [goes_false]
  simp [h, Rows.smartAddsRow]

theorem sadds_facts : joinedFacts Tryz.pinned.checked.prog 3 Tryz.f3 Rows.smartAddsSpec Rows.smartAddsRow = true := by
  unfold joinedFacts
  rw [sadds_inPlace, sadds_unfollowed, sadds_recurses, sadds_named]
  kernel_rfl
theorem sadds_row : Rows.SmartAddsSaid :=
  OpenClaim.holds_of_wide 3 Tryz.f3 rfl rfl rfl rfl rfl rfl rfl ⟨rfl, rfl, rfl, rfl, rfl⟩ rfl rfl rfl rfl rfl (by kernel_rfl) Tryz.func3 sadds_facts
    (of_decide_eq_true (by kernel_rfl)) (by unfold Func.isWrapper; first | (rw [if_pos (by decide +kernel)]; kernel_rfl) | (rw [if_neg (by decide +kernel)]; exact ⟨rfl, rfl⟩))
    (fun os started H enc _ => sadds_lifted os started H enc)
theorem sadds_looks : false = Tryz.prog.looks [] := by kernel_rfl
theorem SmartAdds_holds : Rows.SmartAddsCardSaid :=
  Claim7.holds_tied_plain_at .later [] [.data, .pinned] true (true, "98a13425b2a23abc597800481093d18ab88186e749a883d3f6aff8a3bd17d5b9") false sadds_row (fun _ h => by cases h) (by kernel_rfl) (fun _ h => by cases h) smartAdds_row_tie rfl ⟨rfl, rfl⟩ (by kernel_rfl) rfl
    (fun f fn hf hfn => by
      obtain rfl : f = 3 := Option.some.inj ((show Tryz.prog.funcNamed "imageeditor/imageeditorlaw52.SmartAdds" = some 3 by kernel_rfl).symm.trans hf) |>.symm
      obtain rfl : fn = Tryz.f3 := (Option.some.inj (Tryz.func3.symm.trans hfn)).symm
      exact ⟨sadds_looks, fun j t ht => by
        rw [Tryz.params3] at ht
        have hm : t ∈ [22, 24] := by simpa using Array.mem_of_getElem? ht
        have hall : ([22, 24].all fun u => !Tryz.prog.wantsStandIn u) = true := by kernel_rfl
        exact (show Tryz.prog.wantsStandIn t = false by simpa using List.all_eq_true.1 hall t hm)⟩)
    sadds_goes
#print axioms SmartAdds_holds
end Go.Proofs.YtamgdhphmkehcaaGreatDoor
