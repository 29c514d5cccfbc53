/- SmartKeeps: its walk out of what its callees answer. -/
import Derived.Test.YtamgdhphmkehcaaGreatDoorRows2
import Derived.Test.YtamgdhphmkehcaaGreatDoorAwake
namespace Go.Proofs.YtamgdhphmkehcaaGreatDoor
open Go.RowKit

set_option maxHeartbeats 3200000 in
theorem keeps_err (lv : Value) (n d other : ByteArray) (r E : Int) (hE : E ≠ 0) (w : World)
    (k7 : ∀ W, Below w.heap.size w W → Calls Tryz.prog 7 #[lv, .agg #[.string n, .int .i64 r, .string d]] W fun e w' => e = .returned (.tuple #[.slice none 0 0, .int .i64 E]) ∧ Below W.heap.size W w') :
    Calls Tryz.prog 5 #[lv, .agg #[.string n, .int .i64 r, .string d], .string other] w fun e w' => e = .returned (.bool true) ∧ Below w.heap.size w w' := by
  have hb1 : ∀ ob, Below w.heap.size w (w.alloc ob) := fun ob => (Below.refl _ _).alloc (Nat.le_refl _) _
  go_enter Tryz.func5, Tryz.ntmps5
  go_wp2_with (first
    | (go_at_call 7; refine (k7 _ (hb1 _)).mono ?_; rintro e w2 ⟨rfl, hb2⟩)
    | (go_at_call 12; refine (awake_calls _).mono ?_; rintro e w3 ⟨rfl, hb3⟩))
  go_ret
  have g2 := (hb1 (.cells #[.string n, .int .i64 r, .string d] 24)).trans (hb2.mono (hb1 _).size)
  exact ⟨by simp, g2.trans (hb3.mono g2.size)⟩

set_option maxRecDepth 100000 in
set_option maxHeartbeats 1600000 in
theorem keeps_ok (lv : Value) (len m : Nat) (hm : (m : Int) = (len : Int) + 1) (hlv : (∃ a cap, lv = .slice (some a) len cap) ∨ (lv = .slice none 0 0 ∧ len = 0)) (hlen : len ≤ 256) (n d other x y : ByteArray) (r z : Int) (is : Bool) (w : World)
    (k7 : ∀ W, Below w.heap.size w W → Calls Tryz.prog 7 #[lv, .agg #[.string n, .int .i64 r, .string d]] W fun e w' => ∃ g cap, e = .returned (.tuple #[.slice (some ⟨g, 0, none⟩) m cap, .int .i64 0]) ∧ Below W.heap.size W w' ∧
      (∀ W, Below w'.heap.size w' W → Calls Tryz.prog 13 #[.slice (some ⟨g, 0, none⟩) m cap, .string n] W fun e w2 => e = .returned (.tuple #[.agg #[.string n, .int .i64 r, .string d], .bool true]) ∧ Below W.heap.size W w2) ∧
      (∃ x' z' y' is', (other.toList ≠ n.toList → x' = x ∧ z' = z ∧ y' = y ∧ is' = is) ∧ ∀ W, Below w'.heap.size w' W → Calls Tryz.prog 13 #[.slice (some ⟨g, 0, none⟩) m cap, .string other] W fun e w2 => e = .returned (.tuple #[.agg #[.string x', .int .i64 z', .string y'], .bool is']) ∧ Below W.heap.size W w2) ∧
      (∀ W, Below w'.heap.size w' W → Calls Tryz.prog 9 #[.slice (some ⟨g, 0, none⟩) m cap] W fun e w2 => e = .returned (.int .i64 0) ∧ Below W.heap.size W w2))
    (k13 : ∀ W, Below w.heap.size w W → Calls Tryz.prog 13 #[lv, .string other] W fun e w2 => e = .returned (.tuple #[.agg #[.string x, .int .i64 z, .string y], .bool is]) ∧ Below W.heap.size W w2) :
    Calls Tryz.prog 5 #[lv, .agg #[.string n, .int .i64 r, .string d], .string other] w fun e w' => e = .returned (.bool true) ∧ Below w.heap.size w w' := by
  have hb1 : ∀ ob, Below w.heap.size w (w.alloc ob) := fun ob => (Below.refl _ _).alloc (Nat.le_refl _) _
  have hH := heap_alloc_new w (.cells #[.string n, .int .i64 r, .string d] 24)
  by_cases ho : other.toList = n.toList
  · have ho' : (other.toList == n.toList) = true := by simpa using ho
    rcases hlv with ⟨a, cap0, rfl⟩ | ⟨rfl, rfl⟩
    all_goals
      go_enter Tryz.func5, Tryz.ntmps5
      go_wp2_with (first
        | (go_at_call 7; refine (k7 _ (hb1 _)).mono ?_; rintro e w2 ⟨g, cap, rfl, hb2, ka, ⟨x', z', y', is', hx, kb⟩, kc⟩; have g2 := (hb1 (.cells #[.string n, .int .i64 r, .string d] 24)).trans (hb2.mono (hb1 _).size); have H2 := keep_b hb2 hH; obtain ⟨q20, q21, q22⟩ := three_cells H2)
        | (go_at_call 13; with_reducible refine (ka _ (Below.refl _ _)).mono ?_; rintro e w3 ⟨rfl, hb3⟩; have H3 := keep_b hb3 H2; have c3a : ∀ ob, Below w2.heap.size w2 (w3.alloc ob) := fun ob => hb3.alloc hb3.size ob; have g3a : ∀ ob, Below w.heap.size w (w3.alloc ob) := fun ob => g2.trans ((c3a ob).mono g2.size))
        | (go_at_call 13; with_reducible refine (k13 _ (g3a _)).mono ?_; rintro e w4 ⟨rfl, hb4⟩; have H4 := keep_b hb4 (keep_a H3 _); have P4 := keep_b hb4 (heap_alloc_new w3 _); have c4 : Below w2.heap.size w2 w4 := (c3a _).trans (hb4.mono (c3a _).size); have c4a : ∀ ob, Below w2.heap.size w2 (w4.alloc ob) := fun ob => c4.alloc c4.size ob)
        | (go_at_call 13; with_reducible refine (kb _ (c4a _)).mono ?_; rintro e w5 ⟨rfl, hb5⟩; have H5 := keep_b hb5 (keep_a H4 _); have P5 := keep_b hb5 (keep_a P4 _); have Q5 := keep_b hb5 (heap_alloc_new w4 _); have c5 : Below w2.heap.size w2 w5 := (c4a _).trans (hb5.mono (c4a _).size); have c5a : ∀ ob, Below w2.heap.size w2 (w5.alloc ob) := fun ob => c5.alloc c5.size ob)
        | (go_at_call 9; refine (kc _ (c5a _)).mono ?_; rintro e w6 ⟨rfl, hb6⟩; have H6 := keep_b hb6 (keep_a H5 _); have P6 := keep_b hb6 (keep_a P5 _); have Q6 := keep_b hb6 (keep_a Q5 _); have R6 := keep_b hb6 (heap_alloc_new w5 _); have c6 : Below w2.heap.size w2 w6 := (c5a _).trans (hb6.mono (c5a _).size); obtain ⟨h60, h61, h62⟩ := three_cells H6; obtain ⟨p60, p61, p62⟩ := three_cells P6; obtain ⟨q60, q61, q62⟩ := three_cells Q6; obtain ⟨r60, r61, r62⟩ := three_cells R6)
        | (go_at_call 12; refine (awake_calls _).mono ?_; rintro e w7 ⟨rfl, hb7⟩))
      go_ret
      have g6 := g2.trans (c6.mono g2.size)
      exact ⟨by simp, g6.trans (hb7.mono g6.size)⟩
  · have ho' : (other.toList == n.toList) = false := by simpa using ho
    rcases hlv with ⟨a, cap0, rfl⟩ | ⟨rfl, rfl⟩
    all_goals
      go_enter Tryz.func5, Tryz.ntmps5
      go_wp2_with (first
        | (go_at_call 7; refine (k7 _ (hb1 _)).mono ?_; rintro e w2 ⟨g, cap, rfl, hb2, ka, ⟨x', z', y', is', hx, kb⟩, kc⟩; obtain ⟨rfl, rfl, rfl, rfl⟩ := hx ho; have g2 := (hb1 (.cells #[.string n, .int .i64 r, .string d] 24)).trans (hb2.mono (hb1 _).size); have H2 := keep_b hb2 hH; obtain ⟨q20, q21, q22⟩ := three_cells H2)
        | (go_at_call 13; with_reducible refine (ka _ (Below.refl _ _)).mono ?_; rintro e w3 ⟨rfl, hb3⟩; have H3 := keep_b hb3 H2; have c3a : ∀ ob, Below w2.heap.size w2 (w3.alloc ob) := fun ob => hb3.alloc hb3.size ob; have g3a : ∀ ob, Below w.heap.size w (w3.alloc ob) := fun ob => g2.trans ((c3a ob).mono g2.size))
        | (go_at_call 13; with_reducible refine (k13 _ (g3a _)).mono ?_; rintro e w4 ⟨rfl, hb4⟩; have H4 := keep_b hb4 (keep_a H3 _); have P4 := keep_b hb4 (heap_alloc_new w3 _); have c4 : Below w2.heap.size w2 w4 := (c3a _).trans (hb4.mono (c3a _).size); have c4a : ∀ ob, Below w2.heap.size w2 (w4.alloc ob) := fun ob => c4.alloc c4.size ob)
        | (go_at_call 13; with_reducible refine (kb _ (c4a _)).mono ?_; rintro e w5 ⟨rfl, hb5⟩; have H5 := keep_b hb5 (keep_a H4 _); have P5 := keep_b hb5 (keep_a P4 _); have Q5 := keep_b hb5 (heap_alloc_new w4 _); have c5 : Below w2.heap.size w2 w5 := (c4a _).trans (hb5.mono (c4a _).size); have c5a : ∀ ob, Below w2.heap.size w2 (w5.alloc ob) := fun ob => c5.alloc c5.size ob)
        | (go_at_call 9; refine (kc _ (c5a _)).mono ?_; rintro e w6 ⟨rfl, hb6⟩; have H6 := keep_b hb6 (keep_a H5 _); have P6 := keep_b hb6 (keep_a P5 _); have Q6 := keep_b hb6 (keep_a Q5 _); have R6 := keep_b hb6 (heap_alloc_new w5 _); have c6 : Below w2.heap.size w2 w6 := (c5a _).trans (hb6.mono (c5a _).size); obtain ⟨h60, h61, h62⟩ := three_cells H6; obtain ⟨p60, p61, p62⟩ := three_cells P6; obtain ⟨q60, q61, q62⟩ := three_cells Q6; obtain ⟨r60, r61, r62⟩ := three_cells R6)
        | (go_at_call 12; refine (awake_calls _).mono ?_; rintro e w7 ⟨rfl, hb7⟩))
      go_ret
      have g6 := g2.trans (c6.mono g2.size)
      exact ⟨by simp, g6.trans (hb7.mono g6.size)⟩
end Go.Proofs.YtamgdhphmkehcaaGreatDoor
