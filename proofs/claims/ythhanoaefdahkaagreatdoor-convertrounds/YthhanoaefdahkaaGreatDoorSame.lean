/- law51: `same` answers true of two images of the same sizes and pixels. -/
import Derived.Test.YthhanoaefdahkaaGreatDoorImgs
namespace Go.Proofs.YthhanoaefdahkaaGreatDoor
open Go.RowKit

theorem Img.some' {w : World} {ao : Option Addr} {n c : Nat} {P : Nat → Nat → Int} (h : Img w ao n c P) (h0 : n ≠ 0) : ∃ a, ao = some a ∧ Pic w a n P := by
  rcases h with ⟨_, h, _⟩ | h
  · exact absurd h h0
  · exact h

set_option maxHeartbeats 3200000 in
theorem same_any (iw ih : Int) (ao bo : Option Addr) (n c d : Nat) (P : Nat → Nat → Int) (w : World) (hlen : n ≤ 9223372036854775807) (ha : Img w ao n c P) (hb : Img w bo n d P) :
    Calls Tryz.prog 11 #[.agg #[.int .i64 iw, .int .i64 ih, .slice ao n c], .agg #[.int .i64 iw, .int .i64 ih, .slice bo n d]] w fun e w' => e = .returned (.bool true) ∧ Below w.heap.size w w' := by
  have hb1 : ∀ ob, Below w.heap.size w (w.alloc ob) := fun ob => (Below.refl _ _).alloc (Nat.le_refl _) _
  have hb2 : ∀ ob o2, Below w.heap.size w ((w.alloc ob).alloc o2) := fun ob o2 => (hb1 ob).alloc (hb1 ob).size _
  by_cases h0 : n = 0
  · subst h0
    go_enter Tryz.func11, Tryz.ntmps11
    go_wp2
    refine wp_loop_rounds 1 ?_
    rw [rounds_succ]
    go_wp2
    go_ret
    exact ⟨rfl, hb2 _ _⟩
  · obtain ⟨a, rfl, hpa⟩ := ha.some' h0
    obtain ⟨b, rfl, hpb⟩ := hb.some' h0
    have F1 := keep_a (heap_alloc_new w (.cells #[.int .i64 iw, .int .i64 ih, .slice (some a) n c] 27)) (.cells #[.int .i64 iw, .int .i64 ih, .slice (some b) n d] 27)
    have F2 := heap_alloc_new (w.alloc (.cells #[.int .i64 iw, .int .i64 ih, .slice (some a) n c] 27)) (.cells #[.int .i64 iw, .int .i64 ih, .slice (some b) n d] 27)
    have hsz : (w.alloc (.cells #[.int .i64 iw, .int .i64 ih, .slice (some a) n c] 27)).heap.size = w.heap.size + 1 := size_alloc _ _
    rw [hsz] at F2
    have G0 := hb2 (.cells #[.int .i64 iw, .int .i64 ih, .slice (some a) n c] 27) (.cells #[.int .i64 iw, .int .i64 ih, .slice (some b) n d] 27)
    go_enter Tryz.func11, Tryz.ntmps11
    go_wp2
    go_loopw [30] (fun i wr => ∃ k : Nat, k ≤ n ∧ i = .int .i64 k ∧ Below w.heap.size w wr ∧ wr.heap[w.heap.size]? = some (.cells #[.int .i64 iw, .int .i64 ih, .slice (some a) n c] 27 (0, 0)) ∧ wr.heap[w.heap.size + 1]? = some (.cells #[.int .i64 iw, .int .i64 ih, .slice (some b) n d] 27 (0, 0)))
      (fun i _ => n - (intOf i).toNat)
    case atStart => exact ⟨0, Nat.zero_le _, rfl, G0, F1, F2⟩
    case round =>
      obtain ⟨k, hk, rfl, hbel, E1, E2⟩ := hrel
      obtain ⟨x0, x1, x2⟩ := three_cells E1
      obtain ⟨y0, y1, y2⟩ := three_cells E2
      have hpra := hpa.mono hbel
      have hprb := hpb.mono hbel
      by_cases hkl : k < n
      · have a0 := hpra.c0 k hkl
        have a1 := hpra.c1 k hkl
        have a2 := hpra.c2 k hkl
        have a3 := hpra.c3 k hkl
        have b0 := hprb.c0 k hkl
        have b1 := hprb.c1 k hkl
        have b2 := hprb.c2 k hkl
        have b3 := hprb.c3 k hkl
        have hk0 : (0 : Int) ≤ (k : Int) := Int.natCast_nonneg _
        have hkl' : (k : Int) < (n : Int) := by omega
        go_wp2
        go_quiet (fail)
        go_wp2
        exact ⟨⟨k + 1, by omega, by go_num, below_drewN hbel _, E1, E2⟩, by simp [intOf]; omega⟩
      · obtain rfl : k = n := by omega
        go_wp2
        go_ret
        exact ⟨rfl, hbel⟩
end Go.Proofs.YthhanoaefdahkaaGreatDoor
