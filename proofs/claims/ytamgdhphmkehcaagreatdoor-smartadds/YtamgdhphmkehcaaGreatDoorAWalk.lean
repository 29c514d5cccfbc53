/- SmartAdds: its walk out of what its callees answer. -/
import Derived.Test.YtamgdhphmkehcaaGreatDoorRows2
import Derived.Test.YtamgdhphmkehcaaGreatDoorAwake
namespace Go.Proofs.YtamgdhphmkehcaaGreatDoor
open Go.RowKit

set_option maxRecDepth 100000 in
set_option maxHeartbeats 3200000 in
theorem adds_walk (lv : Value) (n d : ByteArray) (r E c : Int) (w : World) (T : World → Value → Prop)
    (k7 : ∀ W, Below w.heap.size w W → Calls Tryz.prog 7 #[lv, .agg #[.string n, .int .i64 r, .string d]] W fun e w' => ∃ v, e = .returned (.tuple #[v, .int .i64 E]) ∧ Below W.heap.size W w' ∧ T w' v)
    (k8 : ∀ W w0 v, Below w.heap.size w W → T w0 v → Below w0.heap.size w0 W → Calls Tryz.prog 8 #[lv, .agg #[.string n, .int .i64 r, .string d]] W fun e w' => ∃ v', e = .returned (.tuple #[v', .int .i64 E]) ∧ Below W.heap.size W w' ∧
      ∀ W', Below w'.heap.size w' W' → Calls Tryz.prog 11 #[v, v'] W' fun e w2 => e = .returned (.bool true) ∧ Below W'.heap.size W' w2)
    (k9 : ∀ W, Below w.heap.size w W → Calls Tryz.prog 9 #[lv] W fun e w' => e = .returned (.int .i64 c) ∧ Below W.heap.size W w')
    (k10 : ∀ W, Below w.heap.size w W → Calls Tryz.prog 10 #[lv] W fun e w' => e = .returned (.int .i64 c) ∧ Below W.heap.size W w') :
    Calls Tryz.prog 3 #[lv, .agg #[.string n, .int .i64 r, .string d]] w fun e w' => e = .returned (.bool true) ∧ Below w.heap.size w w' := by
  have hb1 : ∀ ob, Below w.heap.size w (w.alloc ob) := fun ob => (Below.refl _ _).alloc (Nat.le_refl _) _
  have hH := heap_alloc_new w (.cells #[.string n, .int .i64 r, .string d] 24)
  go_enter Tryz.func3, Tryz.ntmps3
  go_wp2_with (first
    | (go_at_call 7; refine (k7 _ (hb1 _)).mono ?_; rintro e w2 ⟨v, rfl, hb2, ht⟩; have g2 := (hb1 (.cells #[.string n, .int .i64 r, .string d] 24)).trans (hb2.mono (hb1 _).size); have H2 := keep_b hb2 hH; obtain ⟨q20, q21, q22⟩ := three_cells H2)
    | (go_at_call 8; refine (k8 _ w2 v g2 ht (Below.refl _ _)).mono ?_; rintro e w3 ⟨v', rfl, hb3, hs⟩; have g3 := g2.trans (hb3.mono g2.size))
    | (go_at_call 9; refine (k9 _ g3).mono ?_; rintro e w4 ⟨rfl, hb4⟩; have g4 := g3.trans (hb4.mono g3.size))
    | (go_at_call 10; refine (k10 _ g4).mono ?_; rintro e w5 ⟨rfl, hb5⟩; have g5 := g4.trans (hb5.mono g4.size); have h35 : Below w3.heap.size w3 w5 := hb4.trans (hb5.mono hb4.size))
    | (go_at_call 11; refine (hs _ h35).mono ?_; rintro e w6 ⟨rfl, hb6⟩; have g6 := g5.trans (hb6.mono g5.size))
    | (go_at_call 12; refine (awake_calls _).mono ?_; rintro e w7 ⟨rfl, hb7⟩))
  go_ret
  exact ⟨by simp, g6.trans (hb7.mono g6.size)⟩
end Go.Proofs.YtamgdhphmkehcaaGreatDoor
