/- law51: the program's Detect answers `det`, for every text (the four calls of its inner function). -/
import Derived.Test.YthhanoaefdahkaaGreatDoorDetect3
namespace Go.Proofs.YthhanoaefdahkaaGreatDoor
open Go.RowKit

set_option maxHeartbeats 6400000 in
theorem detect_any (s : ByteArray) (w : World) : Calls Tryz.prog 7 #[.string s] w fun e w' => e = .returned (.int .i64 (det s)) ∧ Below w.heap.size w w' := by
  have hb1 := (Below.refl w.heap.size w).alloc (Nat.le_refl _) (.cells #[.string s] 9)
  have h0 := heap_alloc_new w (.cells #[.string s] 9)
  have hs1 : (w.alloc (.cells #[.string s] 9)).heap.size = w.heap.size + 1 := by show (w.heap.push _).size = _; exact Array.size_push _
  have mk : ∀ (xs : Array Value) (cnt : Nat) (t : TypeId), cnt ≤ 3 → (∀ k, k < cnt → xs[k]? = some (.string (psOf xs k))) → ∀ (W : World) (B : Nat), W.heap.size = B → W.heap[w.heap.size]? = some (.cells #[.string s] 9 (0, 0)) →
      Calls Tryz.prog 15 #[.slice (some ⟨B, 0, none⟩) cnt cnt, .pointer (some ⟨w.heap.size, 0, none⟩)] (W.alloc (.cells xs t)) fun e w' => e = .returned (.bool (anyP s (psOf xs) cnt)) ∧ w'.heap[w.heap.size]? = some (.cells #[.string s] 9 (0, 0)) ∧ Below W.heap.size W w' :=
    fun xs cnt t hc hxs W B hB hH => beg_call W xs B w.heap.size cnt s t hB hxs hH hc
  have k1 := fun t => mk #[.string ⟨#[80, 53]⟩, .string ⟨#[80, 54]⟩, .string ⟨#[80, 55]⟩] 3 t (by omega) (by rintro (_ | _ | _ | k) hk <;> first | rfl | omega)
  have k2 := fun t => mk #[.string ⟨#[137, 80, 78, 71, 13, 10, 26, 10]⟩] 1 t (by omega) (by rintro (_ | k) hk <;> first | rfl | omega)
  have k3 := fun t => mk #[.string ⟨#[73, 73, 42, 0]⟩, .string ⟨#[77, 77, 0, 42]⟩] 2 t (by omega) (by rintro (_ | _ | k) hk <;> first | rfl | omega)
  have k4 := fun t => mk #[.string ⟨#[73, 69, 68, 49]⟩] 1 t (by omega) (by rintro (_ | k) hk <;> first | rfl | omega)
  clear mk
  have e1 : anyP s (psOf #[.string ⟨#[80, 53]⟩, .string ⟨#[80, 54]⟩, .string ⟨#[80, 55]⟩]) 3 = (pre s ⟨#[80, 53]⟩ || pre s ⟨#[80, 54]⟩ || pre s ⟨#[80, 55]⟩) := by simp [anyP, psOf]
  have e2 : anyP s (psOf #[.string ⟨#[137, 80, 78, 71, 13, 10, 26, 10]⟩]) 1 = pre s ⟨#[137, 80, 78, 71, 13, 10, 26, 10]⟩ := by simp [anyP, psOf]
  have e3 : anyP s (psOf #[.string ⟨#[73, 73, 42, 0]⟩, .string ⟨#[77, 77, 0, 42]⟩]) 2 = (pre s ⟨#[73, 73, 42, 0]⟩ || pre s ⟨#[77, 77, 0, 42]⟩) := by simp [anyP, psOf]
  have e4 : anyP s (psOf #[.string ⟨#[73, 69, 68, 49]⟩]) 1 = pre s ⟨#[73, 69, 68, 49]⟩ := by simp [anyP, psOf]
  rw [e1] at k1; rw [e2] at k2; rw [e3] at k3; rw [e4] at k4
  clear e1 e2 e3 e4
  unfold det
  generalize (pre s ⟨#[80, 53]⟩ || pre s ⟨#[80, 54]⟩ || pre s ⟨#[80, 55]⟩) = c1 at *
  generalize pre s ⟨#[137, 80, 78, 71, 13, 10, 26, 10]⟩ = c2 at *
  generalize (pre s ⟨#[73, 73, 42, 0]⟩ || pre s ⟨#[77, 77, 0, 42]⟩) = c3 at *
  generalize pre s ⟨#[73, 69, 68, 49]⟩ = c4 at *
  cases c1 <;> cases c2 <;> cases c3 <;> cases c4
  all_goals
    go_enter Tryz.func7, Tryz.ntmps7
    go_wp2_with (first
      | (go_at_call 15; with_reducible refine (k1 _ _ _ hs1 h0).mono ?_; rintro e w2 ⟨rfl, f2, b2⟩; have g2 := hb1.trans (b2.mono hb1.size))
      | (go_at_call 15; with_reducible refine (k2 _ _ _ rfl f2).mono ?_; rintro e w3 ⟨rfl, f3, b3⟩; have g3 := g2.trans (b3.mono g2.size))
      | (go_at_call 15; with_reducible refine (k3 _ _ _ rfl f3).mono ?_; rintro e w4 ⟨rfl, f4, b4⟩; have g4 := g3.trans (b4.mono g3.size))
      | (go_at_call 15; with_reducible refine (k4 _ _ _ rfl f4).mono ?_; rintro e w5 ⟨rfl, f5, b5⟩; have g5 := g4.trans (b5.mono g4.size)))
    go_ret
    first | exact ⟨rfl, g5⟩ | exact ⟨rfl, g4⟩ | exact ⟨rfl, g3⟩ | exact ⟨rfl, g2⟩
end Go.Proofs.YthhanoaefdahkaaGreatDoor
