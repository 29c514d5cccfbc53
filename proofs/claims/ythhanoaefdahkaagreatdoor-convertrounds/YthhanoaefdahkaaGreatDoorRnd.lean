/- law51: Round of the program: an image that is not valid, or a depth that files do not have. -/
import Derived.Test.YthhanoaefdahkaaGreatDoorChki4
import Derived.Test.YthhanoaefdahkaaGreatDoorPlain
namespace Go.Proofs.YthhanoaefdahkaaGreatDoor
open Go.RowKit

theorem three_frozen {W : World} {b : Nat} {x y z : Value} {t : TypeId} (h : W.heap[b]? = some (.cells #[x, y, z] t (0, 0))) : W.frozen? ⟨b, 0, none⟩ = false ∧ W.frozen? ⟨b, 1, none⟩ = false ∧ W.frozen? ⟨b, 2, none⟩ = false := by simp [World.frozen?, h]

set_option maxHeartbeats 3200000 in
theorem round_bad (iw ih : Int) (ao : Option Addr) (n c : Nat) (dep : Int) (E : Int) (h0 : E ≠ 0) (w : World)
    (kc : ∀ W, Below w.heap.size w W → Calls Tryz.prog 18 #[.agg #[.int .i64 iw, .int .i64 ih, .slice ao n c]] W fun e w' => e = .returned (.int .i64 E) ∧ Below W.heap.size W w') :
    Calls Tryz.prog 9 #[.agg #[.int .i64 iw, .int .i64 ih, .slice ao n c], .int .i64 dep] w fun e w' => e = .returned (.tuple #[.agg #[.int .i64 0, .int .i64 0, .slice none 0 0], .int .i64 E]) ∧ Below w.heap.size w w' := by
  have hb1 : ∀ ob, Below w.heap.size w (w.alloc ob) := fun ob => (Below.refl _ _).alloc (Nat.le_refl _) _
  have hb2 : ∀ ob o2, Below w.heap.size w ((w.alloc ob).alloc o2) := fun ob o2 => (hb1 ob).alloc (hb1 ob).size _
  have hne : (E != 0) = true := by simp [h0]
  go_enter Tryz.func9, Tryz.ntmps9
  go_wp2_with (go_at_call 18; refine (kc _ (hb2 _ _)).mono ?_; rintro e w3 ⟨rfl, hb3⟩
               have g3 := (hb2 _ _).trans (hb3.mono (hb2 _ _).size)
               have z4 := keep_b hb3 (two_new w _ _)
               obtain ⟨c0, c1, c2⟩ := three_cells z4
               obtain ⟨f0, f1, f2⟩ := three_frozen z4
               clear z4 hb3)
  refine bodyPost_ret (v := .tuple #[.agg #[.int .i64 0, .int .i64 0, .slice none 0 0], .int .i64 E]) ?_ rfl ⟨rfl, ?_⟩
  · rw [results_cell_tmp rfl]
    go_simp
  · exact ((g3.setCell (by simp) _).setCell (by simp) _).setCell (by simp) _

set_option maxHeartbeats 3200000 in
theorem round_range (iw ih : Int) (ao : Option Addr) (n c : Nat) (dep : Int) (h8 : dep ≠ 8) (h16 : dep ≠ 16) (w : World)
    (kc : ∀ W, Below w.heap.size w W → Calls Tryz.prog 18 #[.agg #[.int .i64 iw, .int .i64 ih, .slice ao n c]] W fun e w' => e = .returned (.int .i64 0) ∧ Below W.heap.size W w') :
    Calls Tryz.prog 9 #[.agg #[.int .i64 iw, .int .i64 ih, .slice ao n c], .int .i64 dep] w fun e w' => e = .returned (.tuple #[.agg #[.int .i64 0, .int .i64 0, .slice none 0 0], .int .i64 2]) ∧ Below w.heap.size w w' := by
  have hb1 : ∀ ob, Below w.heap.size w (w.alloc ob) := fun ob => (Below.refl _ _).alloc (Nat.le_refl _) _
  have hb2 : ∀ ob o2, Below w.heap.size w ((w.alloc ob).alloc o2) := fun ob o2 => (hb1 ob).alloc (hb1 ob).size _
  have hn8 : (dep != 8) = true := by simp [h8]
  have hn16 : (dep != 16) = true := by simp [h16]
  go_enter Tryz.func9, Tryz.ntmps9
  go_wp2_with (go_at_call 18; refine (kc _ (hb2 _ _)).mono ?_; rintro e w3 ⟨rfl, hb3⟩
               have g3 := (hb2 _ _).trans (hb3.mono (hb2 _ _).size)
               have z4 := keep_b hb3 (two_new w _ _)
               obtain ⟨c0, c1, c2⟩ := three_cells z4
               obtain ⟨f0, f1, f2⟩ := three_frozen z4
               clear z4 hb3)
  refine bodyPost_ret (v := .tuple #[.agg #[.int .i64 0, .int .i64 0, .slice none 0 0], .int .i64 2]) ?_ rfl ⟨rfl, ?_⟩
  · rw [results_cell_tmp rfl]
    go_simp
  · exact ((g3.setCell (by simp) _).setCell (by simp) _).setCell (by simp) _
end Go.Proofs.YthhanoaefdahkaaGreatDoor
