/- The law package's 'same': two libraries of the same files are equal. -/
import Derived.Test.YtamgdhphmkehcaaGreatDoorWants
import Derived.Deep.QuietTactic
import Derived.BigQuiet
namespace Go.Proofs.YtamgdhphmkehcaaGreatDoor
open Go.RowKit

set_option maxHeartbeats 1600000 in
theorem same_some (a b : Addr) (len c1 c2 : Nat) (N D : Nat → ByteArray) (R : Nat → Int) (w : World) (hl : Lib w a len N D R) (hm : Lib w b len N D R) (hlen : len ≤ 9223372036854775807) :
    Calls Tryz.prog 11 #[.slice (some a) len c1, .slice (some b) len c2] w fun e w' => e = .returned (.bool true) ∧ Below w.heap.size w w' := by
  go_enter Tryz.func11, Tryz.ntmps11
  go_wp2
  go_loopw [13] (fun i wr => ∃ k : Nat, k ≤ len ∧ i = .int .i64 k ∧ ∃ q, wr = w.drewN q) (fun i _ => len - (intOf i).toNat)
  case atStart => exact ⟨0, Nat.zero_le _, rfl, 0, rfl⟩
  case round =>
    obtain ⟨k, hk, rfl, q, rfl⟩ := hrel
    have dd : ∀ nq, (w.drewN q).drewN nq = w.drewN (q + nq) := fun nq => by simp [World.drewN, Nat.add_assoc]
    by_cases hkl : k < len
    · have hn := hl.n k hkl
      have hr := hl.r k hkl
      have hd := hl.d k hkl
      have gn := hm.n k hkl
      have gr := hm.r k hkl
      have gd := hm.d k hkl
      have hkl' : (k : Int) < (len : Int) := by omega
      go_wp2
      go_quiet (fail)
      go_wp2
      exact ⟨⟨k + 1, by omega, by simp, q + nq, rfl⟩, by simp [intOf]; omega⟩
    · obtain rfl : k = len := by omega
      go_wp2
      go_ret
      exact ⟨rfl, below_drewN (Below.refl _ _) q⟩

set_option maxHeartbeats 800000 in
theorem same_nil (w : World) : Calls Tryz.prog 11 #[.slice none 0 0, .slice none 0 0] w fun e w' => e = .returned (.bool true) ∧ Below w.heap.size w w' := by
  go_enter Tryz.func11, Tryz.ntmps11
  go_wp2
  refine wp_loop_rounds 1 ?_
  rw [rounds_succ]
  go_wp2
  go_ret
  exact ⟨rfl, Below.refl _ _⟩
end Go.Proofs.YtamgdhphmkehcaaGreatDoor
