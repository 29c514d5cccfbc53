/- law51: Detect and the specification's Detect answer alike, for every text. -/
import Derived.Test.YthhanoaefdahkaaGreatDoorProg
import Derived.WalkKit
import Derived.WalkSpells
import Derived.WalkLawsBesides
import Derived.Deep.QuietTactic
import Derived.BigQuiet
import Derived.Shelf.Abstract
import Derived.Laws.ResultCell
namespace Go.Proofs.YthhanoaefdahkaaGreatDoor
open Go.RowKit

def pre (s p : ByteArray) : Bool := decide (p.size ≤ s.size) && ((s.extract 0 p.size).toList == p.toList)

set_option maxHeartbeats 800000 in
theorem pre_any (s p : ByteArray) (w : World) : Calls Tryz.prog 37 #[.string s, .string p] w fun e w' => e = .returned (.bool (pre s p)) ∧ w' = w := by
  by_cases h : p.size ≤ s.size
  · have h0 : (p.size : Int) ≤ (s.size : Int) := by omega
    go_enter Tryz.func37, Tryz.ntmps37
    go_wp2
    all_goals go_ret
    all_goals exact ⟨by simp [pre, h], rfl⟩
  · have h0 : ¬ (p.size : Int) ≤ (s.size : Int) := by omega
    go_enter Tryz.func37, Tryz.ntmps37
    go_wp2
    all_goals go_ret
    all_goals exact ⟨by simp [pre, h], rfl⟩
set_option maxHeartbeats 800000 in
theorem begins_any (s p : ByteArray) (w : World) : Calls Tryz.prog 17 #[.string s, .string p] w fun e w' => e = .returned (.bool (pre s p)) ∧ w' = w := by
  by_cases h : p.size ≤ s.size
  · have h0 : (p.size : Int) ≤ (s.size : Int) := by omega
    go_enter Tryz.func17, Tryz.ntmps17
    go_wp2
    all_goals go_ret
    all_goals exact ⟨by simp [pre, h], rfl⟩
  · have h0 : ¬ (p.size : Int) ≤ (s.size : Int) := by omega
    go_enter Tryz.func17, Tryz.ntmps17
    go_wp2
    all_goals go_ret
    all_goals exact ⟨by simp [pre, h], rfl⟩
set_option maxHeartbeats 800000 in
theorem has_any (s p : ByteArray) (w : World) : Calls Tryz.prog 16 #[.string s, .string p] w fun e w' => e = .returned (.bool (pre s p)) ∧ w' = w := by
  go_enter Tryz.func16, Tryz.ntmps16
  go_wp2_with (go_at_call 37; refine (pre_any _ _ _).mono ?_; rintro e w2 ⟨rfl, rfl⟩)
  go_ret
  exact ⟨rfl, rfl⟩
def anyP (s : ByteArray) (ps : Nat → ByteArray) : Nat → Bool
  | 0 => false
  | k + 1 => anyP s ps k || pre s (ps k)
theorem anyP_stay {s : ByteArray} {ps : Nat → ByteArray} : ∀ {k m : Nat}, k ≤ m → anyP s ps k = true → anyP s ps m = true
  | k, 0, h, hb => by obtain rfl : k = 0 := by omega
                      exact hb
  | k, m + 1, h, hb => by
    by_cases e : k = m + 1
    · subst e; exact hb
    · simp [anyP, anyP_stay (show k ≤ m by omega) hb]
set_option maxHeartbeats 800000 in
theorem beg_any (B b cnt cp : Nat) (ps : Nat → ByteArray) (s : ByteArray) (w : World) (hc : cnt ≤ 3) (hB : ∀ k, k < cnt → w.cell? ⟨B, k, none⟩ = some (.string (ps k))) (hs : w.cell? ⟨b, 0, none⟩ = some (.string s)) :
    Calls Tryz.prog 15 #[.slice (some ⟨B, 0, none⟩) cnt cp, .pointer (some ⟨b, 0, none⟩)] w fun e w' => e = .returned (.bool (anyP s ps cnt)) ∧ w' = w := by
  go_enter Tryz.func15, Tryz.ntmps15
  go_wp2
  go_loopw [8] (fun i wr => ∃ k : Nat, k ≤ cnt ∧ i = .int .i64 k ∧ anyP s ps k = false ∧ w = wr) (fun i _ => cnt - (intOf i).toNat)
  case atStart => exact ⟨0, Nat.zero_le _, rfl, rfl, rfl⟩
  case round =>
    obtain ⟨k, hk, rfl, hno, rfl⟩ := hrel
    by_cases hkl : k < cnt
    · have hcell := hB k hkl
      have hkl' : (k : Int) < (cnt : Int) := by omega
      have key := has_any s (ps k) w
      cases hp : pre s (ps k)
      · rw [hp] at key
        go_wp2_with (go_at_call 16; refine key.mono ?_; rintro e w2 ⟨rfl, rfl⟩)
        exact ⟨⟨k + 1, by omega, by go_num, by simp [anyP, hno, hp], trivial⟩, by simp [intOf]; omega⟩
      · rw [hp] at key
        have hyes : anyP s ps cnt = true := anyP_stay (show k + 1 ≤ cnt by omega) (by simp [anyP, hp])
        go_wp2_with (go_at_call 16; refine key.mono ?_; rintro e w2 ⟨rfl, rfl⟩)
        go_ret
        exact ⟨by rw [hyes]; rfl, rfl⟩
    · obtain rfl : k = cnt := by omega
      go_wp2
      go_ret
      exact ⟨by rw [hno]; rfl, rfl⟩
end Go.Proofs.YthhanoaefdahkaaGreatDoor
