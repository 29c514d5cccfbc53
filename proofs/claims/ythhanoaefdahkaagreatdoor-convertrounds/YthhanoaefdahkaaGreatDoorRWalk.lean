/- ConvertRounds: its walk out of what the two Rounds, awake and same answer. -/
import Derived.Test.YthhanoaefdahkaaGreatDoorDWalk
import Derived.Test.YthhanoaefdahkaaGreatDoorSame
import Derived.Test.YthhanoaefdahkaaGreatDoorPlain
namespace Go.Proofs.YthhanoaefdahkaaGreatDoor
open Go.RowKit Go.Ev

theorem tabs_mono {w W : World} {tabs : List (Nat × IntKind × List Int)} (h : TabsIn w tabs) (hb : Below w.heap.size w W) : TabsIn W tabs :=
  fun g k l hm => ⟨(h g k l hm).1, fun i n hl => cell_keep hb ((h g k l hm).2 i n hl)⟩

set_option maxHeartbeats 3200000 in
theorem rounds_law (iw ih : Int) (ao : Option Addr) (n c : Nat) (P : Nat → Nat → Int) (dep : Int) (w : World) (hn : n ≤ 9223372036854775807) (hw : TabsIn w tabs51)
    (k9 : ∀ W, Below w.heap.size w W → Rnds 9 iw ih ao n c P dep W) (k10 : ∀ W, Below w.heap.size w W → Rnds 10 iw ih ao n c P dep W) :
    Calls Tryz.prog 4 #[.agg #[.int .i64 iw, .int .i64 ih, .slice ao n c], .int .i64 dep] w fun e w' => e = .returned (.bool true) ∧ Below w.heap.size w w' := by
  unfold Rnds at k9 k10
  generalize eR iw ih n P dep = E at k9 k10
  generalize sR E iw = W1 at k9 k10
  generalize sR E ih = H1 at k9 k10
  have hn1 : nR E n ≤ 9223372036854775807 := by unfold nR; split <;> omega
  generalize nR E n = n1 at k9 k10 hn1
  generalize pR P dep = Q at k9 k10
  have hb1 : ∀ ob, Below w.heap.size w (w.alloc ob) := fun ob => (Below.refl _ _).alloc (Nat.le_refl _) _
  go_enter Tryz.func4, Tryz.ntmps4
  go_wp2_with (first
    | (go_at_call 9; refine (k9 _ (hb1 _)).mono ?_; rintro e w2 ⟨ao2, c2, rfl, hi2, hb2⟩
       have g2 := (hb1 (.cells #[.int .i64 iw, .int .i64 ih, .slice ao n c] 27)).trans (hb2.mono (hb1 _).size)
       obtain ⟨i0, i1, i2⟩ := three_cells (keep_a (keep_b hb2 (heap_alloc_new w (.cells #[.int .i64 iw, .int .i64 ih, .slice ao n c] 27))) (.cells #[.int .i64 W1, .int .i64 H1, .slice ao2 n1 c2] 27))
       have F5 := heap_alloc_new w2 (.cells #[.int .i64 W1, .int .i64 H1, .slice ao2 n1 c2] 27)
       have g5 := g2.alloc g2.size (.cells #[.int .i64 W1, .int .i64 H1, .slice ao2 n1 c2] 27)
       have hi5 := hi2.mono ((Below.refl w2.heap.size w2).alloc (Nat.le_refl _) (.cells #[.int .i64 W1, .int .i64 H1, .slice ao2 n1 c2] 27)))
    | (go_at_call 10; refine (k10 _ g5).mono ?_; rintro e w3 ⟨ao3, c3, rfl, hi3, hb3⟩
       have g3 := g5.trans (hb3.mono g5.size)
       have F5' := keep_a (keep_b hb3 F5) (.cells #[.int .i64 W1, .int .i64 H1, .slice ao3 n1 c3] 27)
       have F7 := heap_alloc_new w3 (.cells #[.int .i64 W1, .int .i64 H1, .slice ao3 n1 c3] 27)
       have b7 := (Below.refl w3.heap.size w3).alloc (Nat.le_refl _) (.cells #[.int .i64 W1, .int .i64 H1, .slice ao3 n1 c3] 27)
       have g7 := g3.alloc g3.size (.cells #[.int .i64 W1, .int .i64 H1, .slice ao3 n1 c3] 27)
       have hi7 := hi3.mono b7
       have hi5' := (hi5.mono hb3).mono b7)
    | (go_at_call 6; refine (awake51 mix51 _ (tabs_mono hw g7)).mono ?_; rintro e w4 ⟨rfl, hb4⟩
       have g4 := g7.trans (hb4.mono g7.size)
       obtain ⟨x0, x1, x2⟩ := three_cells (keep_b hb4 F5')
       obtain ⟨y0, y1, y2⟩ := three_cells (keep_b hb4 F7))
    | (go_at_call 11; refine (same_any W1 H1 ao2 ao3 n1 c2 c3 Q _ hn1 (hi5'.mono hb4) (hi7.mono hb4)).mono ?_; rintro e w6 ⟨rfl, hb6⟩
       have g6 := g4.trans (hb6.mono g4.size)))
  all_goals go_ret
  all_goals exact ⟨by simp, g6⟩
end Go.Proofs.YthhanoaefdahkaaGreatDoor
