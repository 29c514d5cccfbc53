/- The callees of SmartWants at the nil library. -/
import Derived.Test.YtamgdhphmkehcaaGreatDoorNil
namespace Go.Proofs.YtamgdhphmkehcaaGreatDoor
open Go.RowKit

def noFile : Value := .agg #[.string ⟨#[]⟩, .int .i64 0, .string ⟨#[]⟩]
set_option maxHeartbeats 1600000 in
theorem latest_nil (name : ByteArray) (w : World) :
    Calls Tryz.prog 13 #[.slice none 0 0, .string name] w fun e w' => e = .returned (.tuple #[.agg #[.string ⟨#[]⟩, .int .i64 0, .string ⟨#[]⟩], .bool false]) ∧ Below w.heap.size w w' := by
  obtain ⟨W1, hW1⟩ : ∃ W1, W1 = w.alloc (.cells #[.string ⟨#[]⟩, .int .i64 0, .string ⟨#[]⟩] 24) := ⟨_, rfl⟩
  have hs1 : W1.heap.size = w.heap.size + 1 := by rw [hW1]; show (w.heap.push _).size = _; simp
  have hb1 : Below w.heap.size w W1 := by rw [hW1]; exact (Below.refl _ _).alloc (Nat.le_refl _) _
  have hheap : W1.heap[w.heap.size]? = some (.cells #[.string ⟨#[]⟩, .int .i64 0, .string ⟨#[]⟩] 24 (0, 0)) := by rw [hW1]; exact heap_alloc_new w _
  have hblock : ∀ w2, Below W1.heap.size W1 w2 → w2.heap[w.heap.size]? = some (.cells #[.string ⟨#[]⟩, .int .i64 0, .string ⟨#[]⟩] 24 (0, 0)) := fun w2 h => (h.block _ (by omega)).trans hheap
  have hfin : ∀ w2, Below W1.heap.size W1 w2 → Below w.heap.size w w2 := fun w2 h => hb1.trans (h.mono (by omega))
  rw [hW1] at hblock hfin
  clear hheap hb1
  go_enter Tryz.func13, Tryz.ntmps13
  go_wp2_with (go_at_call 27; refine (greatest_nil _ _ _ _).mono ?_; rintro e w2 ⟨rfl, hb2⟩; have hz := hblock w2 hb2; have hz0 : w2.frozen? ⟨w.heap.size, 0, none⟩ = false := (by simp [World.frozen?, hz]); have hz1 : w2.frozen? ⟨w.heap.size, 1, none⟩ = false := (by simp [World.frozen?, hz]); have hz2 : w2.frozen? ⟨w.heap.size, 2, none⟩ = false := (by simp [World.frozen?, hz]); have hc0 : w2.cell? ⟨w.heap.size, 0, none⟩ = some (.string ⟨#[]⟩) := (by simp [World.cell?, hz]); have hc1 : w2.cell? ⟨w.heap.size, 1, none⟩ = some (.int .i64 0) := (by simp [World.cell?, hz]); have hc2 : w2.cell? ⟨w.heap.size, 2, none⟩ = some (.string ⟨#[]⟩) := (by simp [World.cell?, hz]))
  refine bodyPost_ret (v := .tuple #[.agg #[.string ⟨#[]⟩, .int .i64 0, .string ⟨#[]⟩], .bool false]) ?_ rfl ⟨rfl, ?_⟩
  · rw [results_cell_tmp rfl]
    go_simp
  · exact (((hfin _ hb2).setCell (by simp) _).setCell (by simp) _).setCell (by simp) _

set_option maxHeartbeats 1600000 in
theorem rlatest_nil (name : ByteArray) (w : World) :
    Calls Tryz.prog 14 #[.slice none 0 0, .string name] w fun e w' => e = .returned (.tuple #[.agg #[.string ⟨#[]⟩, .int .i64 0, .string ⟨#[]⟩], .bool false]) ∧ Below w.heap.size w w' := by
  obtain ⟨W1, hW1⟩ : ∃ W1, W1 = w.alloc (.cells #[.string ⟨#[]⟩, .int .i64 0, .string ⟨#[]⟩] 24) := ⟨_, rfl⟩
  have hs1 : W1.heap.size = w.heap.size + 1 := by rw [hW1]; show (w.heap.push _).size = _; simp
  go_enter Tryz.func14, Tryz.ntmps14
  go_wp2
  refine wp_loop_rounds 1 ?_
  rw [rounds_succ]
  go_wp2
  refine bodyPost_ret (v := .tuple #[.agg #[.string ⟨#[]⟩, .int .i64 0, .string ⟨#[]⟩], .bool false]) ?_ rfl ⟨rfl, ?_⟩
  · rw [results_cell_tmp rfl]
    go_simp
  · exact ((Below.refl _ _).alloc (Nat.le_refl _) _).alloc (by show w.heap.size ≤ (w.heap.push _).size; simp) _

set_option maxHeartbeats 1600000 in
theorem rwants_nil (id : Int) (nm : ByteArray) (rule rev iw ih : Int) (pb : Option Addr) (pl pc : Nat) (w : World) :
    Calls Tryz.prog 16 #[.agg (linkV id nm rule rev iw ih (.slice pb pl pc)), .slice none 0 0] w fun e w' =>
      e = .returned (.tuple #[.int .i64 0, .bool false]) ∧ Below w.heap.size w w' := by
  unfold linkV
  go_enter Tryz.func16, Tryz.ntmps16
  go_wp2
  refine wp_loop_rounds 1 ?_
  rw [rounds_succ]
  go_wp2
  go_ret2
  exact ⟨rfl, (Below.refl _ _).alloc (Nat.le_refl _) _⟩
end Go.Proofs.YtamgdhphmkehcaaGreatDoor
