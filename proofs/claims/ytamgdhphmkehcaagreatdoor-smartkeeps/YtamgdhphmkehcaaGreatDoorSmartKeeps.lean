/- THE CARD OF SmartKeeps: for every library (nil too), file and other name, whatever else lies in memory, the law returns true and its arguments read as before; its condition: the two listed tables of unicode/utf8 start as the program's text lays them (tied). -/
import Derived.Test.YtamgdhphmkehcaaGreatDoorKLifted
import Derived.Test.YtamgdhphmkehcaaGreatDoorCards
import Derived.Test.YtamgdhphmkehcaaGreatDoorKFactPlace
import Derived.Test.YtamgdhphmkehcaaGreatDoorKFactUnf
import Derived.Test.YtamgdhphmkehcaaGreatDoorKFactRec
import Derived.Test.YtamgdhphmkehcaaGreatDoorKFactNamed
namespace Go.Proofs.YtamgdhphmkehcaaGreatDoor
open Go

theorem no_goes : (Tryz.prog.funcs.toList.all fun f => !f.goes) = true := by kernel_rfl
theorem goes_false (f : FuncId) : Tryz.prog.goes f = false := by
  have h : ∀ (fn : Func), fn ∈ Tryz.prog.funcs.toList → fn.goes = false := fun fn hf => by
    have := List.all_eq_true.1 no_goes fn hf
    simpa using this
  have hany : Tryz.prog.funcs.any Func.goes = false := by
    rw [← Array.any_toList]
    exact List.any_eq_false.2 fun fn hf => by simp [h fn hf]
  unfold Program.goes
  rw [hany, Bool.and_false, Bool.or_false]
  refine List.any_eq_false.2 fun g _ => ?_
  cases hg : Tryz.prog.funcs[g]? with
  | none => simp
  | some fn =>
    have := h fn (by simpa using Array.mem_of_getElem? hg)
    simp [this]
theorem skeeps_goes : false = Rows.smartKeepsRow.goesBy Tryz.prog := by
  unfold OpenClaim.goesBy Program.goesAt Program.goesFrom
  have h : ∀ (o : Option FuncId), Option.any Tryz.prog.goes o = false := fun o => by cases o <;> simp [goes_false]
  simp [h, Rows.smartKeepsRow]

theorem skeeps_facts : joinedFacts Tryz.pinned.checked.prog 5 Tryz.f5 Rows.smartKeepsSpec Rows.smartKeepsRow = true := by
  unfold joinedFacts
  rw [skeeps_inPlace, skeeps_unfollowed, skeeps_recurses, skeeps_named]
  kernel_rfl
theorem skeeps_row : Rows.SmartKeepsSaid :=
  OpenClaim.holds_of_wide 5 Tryz.f5 rfl rfl rfl rfl rfl rfl rfl ⟨rfl, rfl, rfl, rfl, rfl⟩ rfl rfl rfl rfl rfl (by kernel_rfl) Tryz.func5 skeeps_facts
    (of_decide_eq_true (by kernel_rfl)) (by unfold Func.isWrapper; first | (rw [if_pos (by decide +kernel)]; kernel_rfl) | (rw [if_neg (by decide +kernel)]; exact ⟨rfl, rfl⟩))
    (fun os started H enc _ => skeeps_lifted os started H enc)
theorem skeeps_looks : false = Tryz.prog.looks [] := by kernel_rfl
theorem SmartKeeps_holds : Rows.SmartKeepsCardSaid :=
  Claim7.holds_tied_plain_at .later [] [.data, .pinned] true (true, "98a13425b2a23abc597800481093d18ab88186e749a883d3f6aff8a3bd17d5b9") false skeeps_row (fun _ h => by cases h) (by kernel_rfl) (fun _ h => by cases h) smartKeeps_row_tie rfl ⟨rfl, rfl⟩ (by kernel_rfl) rfl
    (fun f fn hf hfn => by
      obtain rfl : f = 5 := Option.some.inj ((show Tryz.prog.funcNamed "imageeditor/imageeditorlaw52.SmartKeeps" = some 5 by kernel_rfl).symm.trans hf) |>.symm
      obtain rfl : fn = Tryz.f5 := (Option.some.inj (Tryz.func5.symm.trans hfn)).symm
      exact ⟨skeeps_looks, fun j t ht => by
        rw [Tryz.params5] at ht
        have hm : t ∈ [22, 24, 9] := by simpa using Array.mem_of_getElem? ht
        have hall : ([22, 24, 9].all fun u => !Tryz.prog.wantsStandIn u) = true := by kernel_rfl
        exact (show Tryz.prog.wantsStandIn t = false by simpa using List.all_eq_true.1 hall t hm)⟩)
    skeeps_goes
#print axioms SmartKeeps_holds
end Go.Proofs.YtamgdhphmkehcaaGreatDoor
