/- law51: one value of a pixel to eight bits and back: the walks of the program and of the specification. -/
import Derived.Test.YthhanoaefdahkaaGreatDoorPx
namespace Go.Proofs.YthhanoaefdahkaaGreatDoor
open Go.RowKit

set_option maxHeartbeats 1600000 in
theorem div_any (a : Int) (h0 : 0 ≤ a) (h1 : a ≤ 65535) (w : World) : Calls Tryz.prog 41 #[.int .i64 a, .int .i64 257] w fun e w' => e = .returned (.int .i64 (t8 a)) ∧ w' = w := by
  have key := floor_any a h0 h1 w
  obtain ⟨q, hq⟩ : ∃ q, a / 257 = q := ⟨_, rfl⟩
  obtain ⟨r, hr⟩ : ∃ r, a - q * 257 = r := ⟨_, rfl⟩
  have hq0 : 0 ≤ q ∧ q ≤ 255 := by omega
  have hr0 : 0 ≤ r ∧ r < 257 := by omega
  rw [hq] at key
  have v1 : IntKind.i64.wrap (q * 257) = q * 257 := by rw [IntKind.wrap_i64]; omega
  have v2 : IntKind.i64.wrap (a - q * 257) = r := by rw [IntKind.wrap_i64]; omega
  have v3 : IntKind.i64.wrap (257 - r) = 257 - r := by rw [IntKind.wrap_i64]; omega
  have v4 : IntKind.i64.wrap (q + 1) = q + 1 := by rw [IntKind.wrap_i64]; omega
  by_cases hc : 257 - r ≤ r
  · have ht : t8 a = q + 1 := by unfold t8; omega
    go_enter Tryz.func41, Tryz.ntmps41
    go_wp2_with (go_at_call 119; refine key.mono ?_; rintro e w2 ⟨rfl, rfl⟩)
    all_goals go_ret
    all_goals exact ⟨by simp [ht], rfl⟩
  · have ht : t8 a = q := by unfold t8; omega
    go_enter Tryz.func41, Tryz.ntmps41
    go_wp2_with (go_at_call 119; refine key.mono ?_; rintro e w2 ⟨rfl, rfl⟩)
    all_goals go_ret
    all_goals exact ⟨by simp [ht], rfl⟩
set_option maxHeartbeats 800000 in
theorem abs_any (a : Int) (h0 : 0 ≤ a) (h1 : a ≤ 65535) (w : World) : Calls Tryz.prog 210 #[.int .i64 a] w fun e w' => e = .returned (.int .u64 a) ∧ w' = w := by
  have hneg : ¬ a < 0 := by omega
  have v1 : IntKind.u64.wrap a = a := by rw [IntKind.wrap_u64]; omega
  go_enter Tryz.func210, Tryz.ntmps210
  go_wp2
  all_goals go_ret
  all_goals exact ⟨by simp, rfl⟩
set_option maxHeartbeats 1600000 in
theorem rdiv_any (a : Int) (h0 : 0 ≤ a) (h1 : a ≤ 65535) (w : World) : Calls Tryz.prog 122 #[.int .i64 a, .int .i64 257] w fun e w' => e = .returned (.int .i64 (t8 a)) ∧ ∃ m, w' = w.drewN m := by
  have key := rfloor_any a h0 h1
  obtain ⟨q, hq⟩ : ∃ q, a / 257 = q := ⟨_, rfl⟩
  obtain ⟨r, hr⟩ : ∃ r, a - 257 * q = r := ⟨_, rfl⟩
  have hq0 : 0 ≤ q ∧ q ≤ 255 := by omega
  have hr0 : 0 ≤ r ∧ r < 257 := by omega
  rw [hq] at key
  have hmin : ¬ a = -9223372036854775808 := by omega
  have ka := abs_any r (by omega) (by omega)
  have kb := abs_any 257 (by omega) (by omega)
  have v1 : IntKind.i64.wrap (257 * q) = 257 * q := by rw [IntKind.wrap_i64]; omega
  have v2 : IntKind.i64.wrap (a - 257 * q) = r := by rw [IntKind.wrap_i64]; omega
  have v3 : IntKind.u64.wrap (257 - r) = 257 - r := by rw [IntKind.wrap_u64]; omega
  have v4 : IntKind.i64.wrap (q + 1) = q + 1 := by rw [IntKind.wrap_i64]; omega
  by_cases hc : 257 - r ≤ r
  · have ht : t8 a = q + 1 := by unfold t8; omega
    go_enter Tryz.func122, Tryz.ntmps122
    go_wp2_with (first
      | (go_at_call 209; refine (key _).mono ?_; rintro e w2 ⟨rfl, m, rfl⟩)
      | (go_at_call 210; with_reducible refine (ka _).mono ?_; rintro e w3 ⟨rfl, rfl⟩)
      | (go_at_call 210; with_reducible refine (kb _).mono ?_; rintro e w4 ⟨rfl, rfl⟩))
    all_goals go_ret
    all_goals exact ⟨by simp [ht], m, rfl⟩
  · have ht : t8 a = q := by unfold t8; omega
    go_enter Tryz.func122, Tryz.ntmps122
    go_wp2_with (first
      | (go_at_call 209; refine (key _).mono ?_; rintro e w2 ⟨rfl, m, rfl⟩)
      | (go_at_call 210; with_reducible refine (ka _).mono ?_; rintro e w3 ⟨rfl, rfl⟩)
      | (go_at_call 210; with_reducible refine (kb _).mono ?_; rintro e w4 ⟨rfl, rfl⟩))
    all_goals go_ret
    all_goals exact ⟨by simp [ht], m, rfl⟩
set_option maxHeartbeats 800000 in
theorem to8_any (v : Int) (h0 : 0 ≤ v) (h1 : v ≤ 65535) (w : World) : Calls Tryz.prog 21 #[.int .i64 v] w fun e w' => e = .returned (.int .i64 (t8 v)) ∧ w' = w := by
  have k1 := unit_any v w
  rw [cl_id h0 h1] at k1
  have k2 := div_any v h0 h1 w
  go_enter Tryz.func21, Tryz.ntmps21
  go_wp2_with (first | (go_at_call 42; refine k1.mono ?_; rintro e w2 ⟨rfl, rfl⟩) | (go_at_call 41; refine k2.mono ?_; rintro e w2 ⟨rfl, rfl⟩))
  go_ret
  exact ⟨rfl, rfl⟩
set_option maxHeartbeats 800000 in
theorem rto8_any (v : Int) (h0 : 0 ≤ v) (h1 : v ≤ 65535) (w : World) : Calls Tryz.prog 45 #[.int .i64 v] w fun e w' => e = .returned (.int .i64 (t8 v)) ∧ ∃ m, w' = w.drewN m := by
  have k1 := u_any v w
  rw [cl_id h0 h1] at k1
  have k2 := rdiv_any v h0 h1 w
  go_enter Tryz.func45, Tryz.ntmps45
  go_wp2_with (first | (go_at_call 123; refine k1.mono ?_; rintro e w2 ⟨rfl, rfl⟩) | (go_at_call 122; refine k2.mono ?_; rintro e w2 ⟨rfl, m, rfl⟩))
  go_ret
  exact ⟨rfl, m, rfl⟩
set_option maxHeartbeats 800000 in
theorem from8_any (v : Int) (h0 : 0 ≤ v) (h1 : v ≤ 255) (w : World) : Calls Tryz.prog 20 #[.int .i64 v] w fun e w' => e = .returned (.int .i64 (257 * v)) ∧ w' = w := by
  have k1 := clamp_any v 0 255 w
  rw [cl_id h0 h1] at k1
  have v1 : IntKind.i64.wrap (257 * v) = 257 * v := by rw [IntKind.wrap_i64]; omega
  go_enter Tryz.func20, Tryz.ntmps20
  go_wp2_with (go_at_call 40; refine k1.mono ?_; rintro e w2 ⟨rfl, rfl⟩)
  go_ret
  exact ⟨by simp, rfl⟩
set_option maxHeartbeats 800000 in
theorem rfrom8_any (v : Int) (h0 : 0 ≤ v) (h1 : v ≤ 255) (w : World) : Calls Tryz.prog 44 #[.int .i64 v] w fun e w' => e = .returned (.int .i64 (257 * v)) ∧ w' = w := by
  have k1 := rclamp_any v 0 255 w
  rw [cl_id h0 h1] at k1
  have v1 : IntKind.i64.wrap (257 * v) = 257 * v := by rw [IntKind.wrap_i64]; omega
  go_enter Tryz.func44, Tryz.ntmps44
  go_wp2_with (go_at_call 121; refine k1.mono ?_; rintro e w2 ⟨rfl, rfl⟩)
  go_ret
  exact ⟨by simp, rfl⟩
set_option maxHeartbeats 800000 in
theorem round_any (v : Int) (h0 : 0 ≤ v) (h1 : v ≤ 65535) (w : World) : Calls Tryz.prog 19 #[.int .i64 v] w fun e w' => e = .returned (.int .i64 (rr v)) ∧ w' = w := by
  have k1 := to8_any v h0 h1 w
  obtain ⟨g0, g1⟩ := t8_in h0 h1
  have k2 := from8_any (t8 v) g0 g1 w
  go_enter Tryz.func19, Tryz.ntmps19
  go_wp2_with (first | (go_at_call 21; refine k1.mono ?_; rintro e w2 ⟨rfl, rfl⟩) | (go_at_call 20; refine k2.mono ?_; rintro e w2 ⟨rfl, rfl⟩))
  go_ret
  exact ⟨rfl, rfl⟩
set_option maxHeartbeats 800000 in
theorem eight_any (v : Int) (h0 : 0 ≤ v) (h1 : v ≤ 65535) (w : World) : Calls Tryz.prog 23 #[.int .i64 v] w fun e w' => e = .returned (.int .i64 (rr v)) ∧ ∃ m, w' = w.drewN m := by
  have k1 := rto8_any v h0 h1 w
  obtain ⟨g0, g1⟩ := t8_in h0 h1
  have k2 := rfrom8_any (t8 v) g0 g1
  go_enter Tryz.func23, Tryz.ntmps23
  go_wp2_with (first | (go_at_call 45; refine k1.mono ?_; rintro e w2 ⟨rfl, m, rfl⟩) | (go_at_call 44; refine (k2 _).mono ?_; rintro e w3 ⟨rfl, rfl⟩))
  go_ret
  exact ⟨rfl, m, rfl⟩
end Go.Proofs.YthhanoaefdahkaaGreatDoor
