/- law51: one value of a pixel: limited, to eight bits and back; what the program and the specification compute of it. -/
import Derived.Test.YthhanoaefdahkaaGreatDoorDetect
import Derived.Deep.RegionHeld3
namespace Go.Proofs.YthhanoaefdahkaaGreatDoor
open Go.RowKit

def cl (x lo hi : Int) : Int := if (if lo > x then lo else x) < hi then (if lo > x then lo else x) else hi
theorem cl_in (x : Int) : 0 ≤ cl x 0 65535 ∧ cl x 0 65535 ≤ 65535 := by unfold cl; constructor <;> (repeat' split) <;> omega
theorem cl_id {x lo hi : Int} (h0 : lo ≤ x) (h1 : x ≤ hi) : cl x lo hi = x := by unfold cl; (repeat' split) <;> omega
theorem cl_eq (x : Int) : cl x 0 65535 = x ↔ 0 ≤ x ∧ x ≤ 65535 := ⟨fun h => by have := cl_in x; omega, fun h => cl_id h.1 h.2⟩
def t8 (v : Int) : Int := (v + 128) / 257
def rr (v : Int) : Int := 257 * t8 v
theorem t8_in {v : Int} (h0 : 0 ≤ v) (h1 : v ≤ 65535) : 0 ≤ t8 v ∧ t8 v ≤ 255 := by unfold t8; omega
theorem rr_in {v : Int} (h0 : 0 ≤ v) (h1 : v ≤ 65535) : 0 ≤ rr v ∧ rr v ≤ 65535 := by unfold rr t8; omega
theorem rr_rr {v : Int} : rr (rr v) = rr v := by unfold rr t8; omega
theorem rr_zero : rr 0 = 0 := by decide

set_option maxHeartbeats 800000 in
theorem clamp_any (x lo hi : Int) (w : World) : Calls Tryz.prog 40 #[.int .i64 x, .int .i64 lo, .int .i64 hi] w fun e w' => e = .returned (.int .i64 (cl x lo hi)) ∧ w' = w := by
  by_cases h1 : x < lo
  · by_cases h2 : lo < hi
    · rw [show cl x lo hi = lo by simp [cl, h1, h2]]
      go_enter Tryz.func40, Tryz.ntmps40
      go_wp2
      all_goals go_ret
      all_goals first | exact ⟨rfl, rfl⟩ | (exfalso; simp_all; done) | (exfalso; simp_all; omega)
    · rw [show cl x lo hi = hi by simp [cl, h1, h2]]
      go_enter Tryz.func40, Tryz.ntmps40
      go_wp2
      all_goals go_ret
      all_goals first | exact ⟨rfl, rfl⟩ | (exfalso; simp_all; done) | (exfalso; simp_all; omega)
  · by_cases h2 : x < hi
    · rw [show cl x lo hi = x by simp [cl, h1, h2]]
      go_enter Tryz.func40, Tryz.ntmps40
      go_wp2
      all_goals go_ret
      all_goals first | exact ⟨rfl, rfl⟩ | (exfalso; simp_all; done) | (exfalso; simp_all; omega)
    · rw [show cl x lo hi = hi by simp [cl, h1, h2]]
      go_enter Tryz.func40, Tryz.ntmps40
      go_wp2
      all_goals go_ret
      all_goals first | exact ⟨rfl, rfl⟩ | (exfalso; simp_all; done) | (exfalso; simp_all; omega)
set_option maxHeartbeats 800000 in
theorem rclamp_any (x lo hi : Int) (w : World) : Calls Tryz.prog 121 #[.int .i64 x, .int .i64 lo, .int .i64 hi] w fun e w' => e = .returned (.int .i64 (cl x lo hi)) ∧ w' = w := by
  by_cases h1 : x < lo
  · by_cases h2 : lo < hi
    · rw [show cl x lo hi = lo by simp [cl, h1, h2]]
      go_enter Tryz.func121, Tryz.ntmps121
      go_wp2
      all_goals go_ret
      all_goals first | exact ⟨rfl, rfl⟩ | (exfalso; simp_all; done) | (exfalso; simp_all; omega)
    · rw [show cl x lo hi = hi by simp [cl, h1, h2]]
      go_enter Tryz.func121, Tryz.ntmps121
      go_wp2
      all_goals go_ret
      all_goals first | exact ⟨rfl, rfl⟩ | (exfalso; simp_all; done) | (exfalso; simp_all; omega)
  · by_cases h2 : x < hi
    · rw [show cl x lo hi = x by simp [cl, h1, h2]]
      go_enter Tryz.func121, Tryz.ntmps121
      go_wp2
      all_goals go_ret
      all_goals first | exact ⟨rfl, rfl⟩ | (exfalso; simp_all; done) | (exfalso; simp_all; omega)
    · rw [show cl x lo hi = hi by simp [cl, h1, h2]]
      go_enter Tryz.func121, Tryz.ntmps121
      go_wp2
      all_goals go_ret
      all_goals first | exact ⟨rfl, rfl⟩ | (exfalso; simp_all; done) | (exfalso; simp_all; omega)
set_option maxHeartbeats 800000 in
theorem unit_any (x : Int) (w : World) : Calls Tryz.prog 42 #[.int .i64 x] w fun e w' => e = .returned (.int .i64 (cl x 0 65535)) ∧ w' = w := by
  go_enter Tryz.func42, Tryz.ntmps42
  go_wp2_with (go_at_call 40; refine (clamp_any _ _ _ _).mono ?_; rintro e w2 ⟨rfl, rfl⟩)
  go_ret
  exact ⟨rfl, rfl⟩
set_option maxHeartbeats 800000 in
theorem u_any (x : Int) (w : World) : Calls Tryz.prog 123 #[.int .i64 x] w fun e w' => e = .returned (.int .i64 (cl x 0 65535)) ∧ w' = w := by
  go_enter Tryz.func123, Tryz.ntmps123
  go_wp2_with (go_at_call 121; refine (rclamp_any _ _ _ _).mono ?_; rintro e w2 ⟨rfl, rfl⟩)
  go_ret
  exact ⟨rfl, rfl⟩

theorem tdiv257 {a : Int} (h0 : 0 ≤ a) : Int.tdiv a 257 = a / 257 := Int.tdiv_eq_ediv_of_nonneg h0
theorem tmod257 {a : Int} (h0 : 0 ≤ a) : Int.tmod a 257 = a % 257 := Int.tmod_eq_emod_of_nonneg h0

set_option maxHeartbeats 800000 in
theorem floor_any (a : Int) (h0 : 0 ≤ a) (h1 : a ≤ 65535) (w : World) : Calls Tryz.prog 119 #[.int .i64 a, .int .i64 257] w fun e w' => e = .returned (.int .i64 (a / 257)) ∧ w' = w := by
  have hd := tdiv257 h0
  have hm := tmod257 h0
  have hw : IntKind.i64.wrap (a / 257) = a / 257 := by rw [IntKind.wrap_i64]; omega
  have hneg : ¬ a < 0 := by omega
  by_cases hr : a % 257 = 0
  · go_enter Tryz.func119, Tryz.ntmps119
    go_wp2
    all_goals go_ret
    all_goals exact ⟨by simp, rfl⟩
  · go_enter Tryz.func119, Tryz.ntmps119
    go_wp2
    all_goals go_ret
    all_goals exact ⟨by simp, rfl⟩
set_option maxHeartbeats 800000 in
theorem rfloor_any (a : Int) (h0 : 0 ≤ a) (h1 : a ≤ 65535) (w : World) : Calls Tryz.prog 209 #[.int .i64 a, .int .i64 257] w fun e w' => e = .returned (.int .i64 (a / 257)) ∧ ∃ m, w' = w.drewN m := by
  have hd := tdiv257 h0
  have hm := tmod257 h0
  have hw : IntKind.i64.wrap (a / 257) = a / 257 := by rw [IntKind.wrap_i64]; omega
  have hneg : ¬ a < 0 := by omega
  by_cases hr : a % 257 = 0
  · go_enter Tryz.func209, Tryz.ntmps209
    go_wp2
    go_quiet (fail)
    go_wp2
    all_goals go_ret
    all_goals exact ⟨by simp, _, rfl⟩
  · go_enter Tryz.func209, Tryz.ntmps209
    go_wp2
    go_quiet (fail)
    go_wp2
    all_goals go_ret
    all_goals exact ⟨by simp, _, rfl⟩
end Go.Proofs.YthhanoaefdahkaaGreatDoor
