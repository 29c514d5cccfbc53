/- No function of the loaded program starts a goroutine. -/
import Derived.Test.YthhanoaefdahkaaGreatDoorRows
import Derived.SevenTiedAt
import Derived.KernelRfl
namespace Go.Proofs.YthhanoaefdahkaaGreatDoor
open Go
theorem no_goes : (Tryz.prog.funcs.toList.all fun f => !f.goes) = true := by kernel_rfl
theorem goes_false (f : FuncId) : Tryz.prog.goes f = false := by
  have h : ∀ (fn : Func), fn ∈ Tryz.prog.funcs.toList → fn.goes = false := fun fn hf => by
    have := List.all_eq_true.1 no_goes fn hf
    simpa using this
  have hany : Tryz.prog.funcs.any Func.goes = false := by
    rw [← Array.any_toList]
    exact List.any_eq_false.2 fun fn hf => by simp [h fn hf]
  unfold Program.goes
  rw [hany, Bool.and_false, Bool.or_false]
  refine List.any_eq_false.2 fun g _ => ?_
  cases hg : Tryz.prog.funcs[g]? with
  | none => simp
  | some fn =>
    have := h fn (by simpa using Array.mem_of_getElem? hg)
    simp [this]
theorem looks51 : false = Tryz.prog.looks [] := by kernel_rfl
end Go.Proofs.YthhanoaefdahkaaGreatDoor
