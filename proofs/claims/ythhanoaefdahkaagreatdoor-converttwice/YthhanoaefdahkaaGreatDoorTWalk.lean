/- ConvertTwice: its walk out of what Round, awake and same answer. -/
import Derived.Test.YthhanoaefdahkaaGreatDoorRWalk
namespace Go.Proofs.YthhanoaefdahkaaGreatDoor
open Go.RowKit Go.Ev

set_option maxHeartbeats 3200000 in
theorem twice_bad (iw ih : Int) (ao : Option Addr) (n c : Nat) (Q : Nat → Nat → Int) (E : Int) (h0 : E ≠ 0) (w : World) (hw : TabsIn w tabs51)
    (k9 : ∀ W, Below w.heap.size w W → Calls Tryz.prog 9 #[.agg #[.int .i64 iw, .int .i64 ih, .slice ao n c], .int .i64 8] W fun e w' => ∃ ao' c', e = .returned (.tuple #[.agg #[.int .i64 0, .int .i64 0, .slice ao' 0 c'], .int .i64 E]) ∧ Img w' ao' 0 c' Q ∧ Below W.heap.size W w') :
    Calls Tryz.prog 5 #[.agg #[.int .i64 iw, .int .i64 ih, .slice ao n c]] w fun e w' => e = .returned (.bool true) ∧ Below w.heap.size w w' := by
  have hb1 : ∀ ob, Below w.heap.size w (w.alloc ob) := fun ob => (Below.refl _ _).alloc (Nat.le_refl _) _
  have hne : (E != 0) = true := by simp [h0]
  have hnil : ∀ W : World, Img W none 0 0 Q := fun _ => .inl ⟨rfl, rfl, rfl⟩
  go_enter Tryz.func5, Tryz.ntmps5
  go_wp2_with (first
    | (go_at_call 9; with_reducible refine (k9 _ (hb1 _)).mono ?_; rintro e w2 ⟨ao2, c2, rfl, hi2, hb2⟩
       have g2 := ((hb1 (.cells #[.int .i64 iw, .int .i64 ih, .slice ao n c] 27)).trans (hb2.mono (hb1 _).size))
       have F2 := heap_alloc_new w2 (.cells #[.int .i64 0, .int .i64 0, .slice ao2 0 c2] 27)
       have g3 := g2.alloc g2.size (.cells #[.int .i64 0, .int .i64 0, .slice ao2 0 c2] 27)
       have hi3 := hi2.mono ((Below.refl w2.heap.size w2).alloc (Nat.le_refl _) (.cells #[.int .i64 0, .int .i64 0, .slice ao2 0 c2] 27)))
    | (go_at_call 6; with_reducible refine (awake51 mix51 _ (tabs_mono hw g3)).mono ?_; rintro e w4 ⟨rfl, hb4⟩
       have g4 := g3.trans (hb4.mono g3.size)
       have F4 := keep_b hb4 F2
       have hi4 := hi3.mono hb4)
    | (go_at_call 6; with_reducible refine (awake51 mix51 _ (tabs_mono hw g4)).mono ?_; rintro e w6 ⟨rfl, hb6⟩
       have g6 := g4.trans (hb6.mono g4.size)
       have hi6 := hi4.mono hb6
       obtain ⟨x0, x1, x2⟩ := three_cells (keep_b hb6 F4))
    | (go_at_call 11; with_reducible refine (same_any 0 0 ao2 none 0 c2 0 Q _ (Nat.zero_le _) hi6 (hnil _)).mono ?_; rintro e w8 ⟨rfl, hb8⟩
       have g8 := g6.trans (hb8.mono g6.size)))
  all_goals go_ret
  all_goals exact ⟨by simp, g8⟩

set_option maxHeartbeats 6400000 in
theorem twice_good (iw ih : Int) (ao : Option Addr) (n c : Nat) (P : Nat → Nat → Int) (w : World) (hn : n ≤ 9223372036854775807) (hw : TabsIn w tabs51) (him : Img w ao n c P)
    (k9 : ∀ W, Below w.heap.size w W → Calls Tryz.prog 9 #[.agg #[.int .i64 iw, .int .i64 ih, .slice ao n c], .int .i64 8] W fun e w' => ∃ ao' c', e = .returned (.tuple #[.agg #[.int .i64 iw, .int .i64 ih, .slice ao' n c'], .int .i64 0]) ∧ Img w' ao' n c' (rp P) ∧ Below W.heap.size W w')
    (k9b : ∀ W ao1 c1, Img W ao1 n c1 (rp P) → Calls Tryz.prog 9 #[.agg #[.int .i64 iw, .int .i64 ih, .slice ao1 n c1], .int .i64 8] W fun e w' => ∃ ao' c', e = .returned (.tuple #[.agg #[.int .i64 iw, .int .i64 ih, .slice ao' n c'], .int .i64 0]) ∧ Img w' ao' n c' (rp P) ∧ Below W.heap.size W w')
    (k16 : ∀ W, Below w.heap.size w W → Calls Tryz.prog 9 #[.agg #[.int .i64 iw, .int .i64 ih, .slice ao n c], .int .i64 16] W fun e w' => ∃ ao' c', e = .returned (.tuple #[.agg #[.int .i64 iw, .int .i64 ih, .slice ao' n c'], .int .i64 0]) ∧ Img w' ao' n c' P ∧ Below W.heap.size W w') :
    Calls Tryz.prog 5 #[.agg #[.int .i64 iw, .int .i64 ih, .slice ao n c]] w fun e w' => e = .returned (.bool true) ∧ Below w.heap.size w w' := by
  have hb1 : ∀ ob, Below w.heap.size w (w.alloc ob) := fun ob => (Below.refl _ _).alloc (Nat.le_refl _) _
  go_enter Tryz.func5, Tryz.ntmps5
  go_wp2_with (first
    | (go_at_call 9; with_reducible refine (k9 _ (hb1 _)).mono ?_; rintro e w2 ⟨ao2, c2, rfl, hi2, hb2⟩
       have B2 := (Below.refl w2.heap.size w2).alloc (Nat.le_refl _) (.cells #[.int .i64 iw, .int .i64 ih, .slice ao2 n c2] 27)
       have Fi2 := keep_a (keep_b hb2 (heap_alloc_new w (.cells #[.int .i64 iw, .int .i64 ih, .slice ao n c] 27))) (.cells #[.int .i64 iw, .int .i64 ih, .slice ao2 n c2] 27)
       have Fa2 := heap_alloc_new w2 (.cells #[.int .i64 iw, .int .i64 ih, .slice ao2 n c2] 27)
       have g2 := (hb1 (.cells #[.int .i64 iw, .int .i64 ih, .slice ao n c] 27)).trans (hb2.mono (hb1 _).size)
       have g3 := g2.alloc g2.size (.cells #[.int .i64 iw, .int .i64 ih, .slice ao2 n c2] 27)
       have ha2 := hi2.mono B2)
    | (go_at_call 6; with_reducible refine (awake51 mix51 _ (tabs_mono hw g3)).mono ?_; rintro e w4 ⟨rfl, hb4⟩
       have g4 := g3.trans (hb4.mono g3.size)
       have Fi4 := keep_b hb4 Fi2
       have Fa4 := keep_b hb4 Fa2
       have ha4 := ha2.mono hb4
       obtain ⟨i0, i1, i2⟩ := three_cells Fi4
       obtain ⟨a0, a1, a2⟩ := three_cells Fa4)
    | (go_at_call 9; with_reducible refine (k9b _ ao2 c2 ha4).mono ?_; rintro e w5 ⟨ao5, c5, rfl, hi5, hb5⟩
       have B5 := (Below.refl w5.heap.size w5).alloc (Nat.le_refl _) (.cells #[.int .i64 iw, .int .i64 ih, .slice ao5 n c5] 27)
       have Fi5 := keep_a (keep_b hb5 Fi4) (.cells #[.int .i64 iw, .int .i64 ih, .slice ao5 n c5] 27)
       have Fa5 := keep_a (keep_b hb5 Fa4) (.cells #[.int .i64 iw, .int .i64 ih, .slice ao5 n c5] 27)
       have Fb5 := heap_alloc_new w5 (.cells #[.int .i64 iw, .int .i64 ih, .slice ao5 n c5] 27)
       have g5 := g4.trans (hb5.mono g4.size)
       have g6 := g5.alloc g5.size (.cells #[.int .i64 iw, .int .i64 ih, .slice ao5 n c5] 27)
       have ha5 := (ha4.mono hb5).mono B5
       have hbb5 := hi5.mono B5
       obtain ⟨j0, j1, j2⟩ := three_cells Fi5)
    | (go_at_call 9; with_reducible refine (k16 _ g6).mono ?_; rintro e w7 ⟨ao7, c7, rfl, hi7, hb7⟩
       have B7 := (Below.refl w7.heap.size w7).alloc (Nat.le_refl _) (.cells #[.int .i64 iw, .int .i64 ih, .slice ao7 n c7] 27)
       have Fi7 := keep_a (keep_b hb7 Fi5) (.cells #[.int .i64 iw, .int .i64 ih, .slice ao7 n c7] 27)
       have Fa7 := keep_a (keep_b hb7 Fa5) (.cells #[.int .i64 iw, .int .i64 ih, .slice ao7 n c7] 27)
       have Fb7 := keep_a (keep_b hb7 Fb5) (.cells #[.int .i64 iw, .int .i64 ih, .slice ao7 n c7] 27)
       have Fc7 := heap_alloc_new w7 (.cells #[.int .i64 iw, .int .i64 ih, .slice ao7 n c7] 27)
       have g7 := g6.trans (hb7.mono g6.size)
       have g8 := g7.alloc g7.size (.cells #[.int .i64 iw, .int .i64 ih, .slice ao7 n c7] 27)
       have ha7 := (ha5.mono hb7).mono B7
       have hbb7 := (hbb5.mono hb7).mono B7
       have hc7 := hi7.mono B7
       obtain ⟨l0, l1, l2⟩ := three_cells Fa7
       obtain ⟨m0, m1, m2⟩ := three_cells Fb7)
    | (go_at_call 11; with_reducible refine (same_any iw ih ao2 ao5 n c2 c5 (rp P) _ hn ha7 hbb7).mono ?_; rintro e w9 ⟨rfl, hb9⟩
       have g9 := g8.trans (hb9.mono g8.size)
       have hc9 := hc7.mono hb9
       have hii9 := him.mono g9
       obtain ⟨q0, q1, q2⟩ := three_cells (keep_b hb9 Fc7)
       obtain ⟨t0, t1, t2⟩ := three_cells (keep_b hb9 Fi7))
    | (go_at_call 11; with_reducible refine (same_any iw ih ao7 ao n c7 c P _ hn hc9 hii9).mono ?_; rintro e w10 ⟨rfl, hb10⟩
       have g10 := g9.trans (hb10.mono g9.size)))
  all_goals go_ret
  all_goals exact ⟨by simp, g10⟩
end Go.Proofs.YthhanoaefdahkaaGreatDoor
