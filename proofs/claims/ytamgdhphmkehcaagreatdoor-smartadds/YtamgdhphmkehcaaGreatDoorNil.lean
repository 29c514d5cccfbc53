/- SmartRules at the nil library: it answers true; what was in memory stays. -/
import Derived.Test.YtamgdhphmkehcaaGreatDoorWants
import Derived.Test.YtamgdhphmkehcaaGreatDoorAwake
namespace Go.Proofs.YtamgdhphmkehcaaGreatDoor
open Go.RowKit

set_option maxHeartbeats 1600000 in
theorem greatest_nil (name : ByteArray) (g : Nat) (caps : Array Value) (w : World) :
    Calls Tryz.prog 27 #[.slice none 0 0, .string name, .func (.func g) #[] caps] w fun e w' =>
      e = .returned (.tuple #[.agg #[.string ⟨#[]⟩, .int .i64 0, .string ⟨#[]⟩], .bool false]) ∧ Below w.heap.size w w' := by
  obtain ⟨W1, hW1⟩ : ∃ W1, W1 = w.alloc (.cells #[.string ⟨#[]⟩, .int .i64 0, .string ⟨#[]⟩] 24) := ⟨_, rfl⟩
  have hb1 : Below w.heap.size w W1 := by rw [hW1]; exact (Below.refl _ _).alloc (Nat.le_refl _) _
  have hs1 : W1.heap.size = w.heap.size + 1 := by rw [hW1]; show (w.heap.push _).size = _; simp
  go_enter Tryz.func27, Tryz.ntmps27
  go_wp2
  refine wp_loop_rounds 1 ?_
  rw [rounds_succ]
  go_wp2
  refine bodyPost_ret (v := .tuple #[.agg #[.string ⟨#[]⟩, .int .i64 0, .string ⟨#[]⟩], .bool false]) ?_ rfl ⟨rfl, ?_⟩
  · rw [results_cell_tmp rfl]
    go_simp
  · exact ((Below.refl _ _).alloc (Nat.le_refl _) _).alloc (by show w.heap.size ≤ (w.heap.push _).size; simp) _

set_option maxHeartbeats 1600000 in
theorem wants_nil (id : Int) (nm : ByteArray) (rule rev iw ih : Int) (pb : Option Addr) (pl pc : Nat) (w : World) :
    Calls Tryz.prog 15 #[.agg (linkV id nm rule rev iw ih (.slice pb pl pc)), .slice none 0 0] w fun e w' =>
      e = .returned (.tuple #[.int .i64 0, .bool false]) ∧ Below w.heap.size w w' := by
  unfold linkV
  obtain ⟨W1, hW1⟩ : ∃ W1, W1 = w.alloc (.cells #[.int .i64 id, .string nm, .int .i64 rule, .int .i64 rev, .int .i64 iw, .int .i64 ih, .slice pb pl pc] 36) := ⟨_, rfl⟩
  have hs1 : W1.heap.size = w.heap.size + 1 := by rw [hW1]; show (w.heap.push _).size = _; simp
  have hb1 : Below w.heap.size w W1 := by rw [hW1]; exact (Below.refl _ _).alloc (Nat.le_refl _) _
  have hfin : ∀ w2, Below W1.heap.size W1 w2 → Below w.heap.size w w2 := fun w2 h => hb1.trans (h.mono (by omega))
  rw [hW1] at hfin
  by_cases h1 : rule = 1
  · subst h1
    go_enter Tryz.func15, Tryz.ntmps15
    go_wp2_with (go_at_call 27; refine (greatest_nil _ _ _ _).mono ?_; rintro e w2 ⟨rfl, hb2⟩)
    go_ret2
    exact ⟨rfl, (hfin _ hb2).alloc (hfin _ hb2).size _⟩
  · by_cases h2 : rule = 2
    · subst h2
      go_enter Tryz.func15, Tryz.ntmps15
      go_wp2_with (go_at_call 27; refine (greatest_nil _ _ _ _).mono ?_; rintro e w2 ⟨rfl, hb2⟩)
      go_ret2
      exact ⟨rfl, (hfin _ hb2).alloc (hfin _ hb2).size _⟩
    · clear hfin hb1 hs1 hW1
      go_enter Tryz.func15, Tryz.ntmps15
      go_wp2
      go_ret2
      exact ⟨rfl, (Below.refl _ _).alloc (Nat.le_refl _) _⟩

set_option maxHeartbeats 1600000 in
theorem rules_nil (id : Int) (nm : ByteArray) (rule rev iw ih : Int) (pb : Option Addr) (pl pc : Nat) (w : World) :
    Calls Tryz.prog 6 #[.agg (linkV id nm rule rev iw ih (.slice pb pl pc)), .slice none 0 0] w fun e w' => e = .returned (.bool true) ∧ Below w.heap.size w w' := by
  have key := fun W => wants_nil id nm rule rev iw ih pb pl pc W
  unfold linkV at *
  obtain ⟨W1, hW1⟩ : ∃ W1, W1 = w.alloc (.cells #[.int .i64 id, .string nm, .int .i64 rule, .int .i64 rev, .int .i64 iw, .int .i64 ih, .slice pb pl pc] 36) := ⟨_, rfl⟩
  have hs1 : W1.heap.size = w.heap.size + 1 := by rw [hW1]; show (w.heap.push _).size = _; simp
  have hb1 : Below w.heap.size w W1 := by rw [hW1]; exact (Below.refl _ _).alloc (Nat.le_refl _) _
  have hfin : ∀ w2, Below W1.heap.size W1 w2 → Below w.heap.size w w2 := fun w2 h => hb1.trans (h.mono (by omega))
  rw [hW1] at hfin
  by_cases hneg : rev < 0
  · go_enter Tryz.func6, Tryz.ntmps6
    go_wp2_with (go_at_call 12; refine (awake_calls _).mono ?_; rintro e w2 ⟨rfl, hb2⟩)
    go_ret
    exact ⟨by simp, hfin _ hb2⟩
  · go_enter Tryz.func6, Tryz.ntmps6
    go_wp2_with (first | (go_at_call 15; refine (key _).mono ?_; rintro e w2 ⟨rfl, hb2⟩) | (go_at_call 12; refine (awake_calls _).mono ?_; rintro e w3 ⟨rfl, hb3⟩))
    go_ret
    exact ⟨by simp, (hfin _ hb2).trans (hb3.mono (hfin _ hb2).size)⟩
end Go.Proofs.YtamgdhphmkehcaaGreatDoor
