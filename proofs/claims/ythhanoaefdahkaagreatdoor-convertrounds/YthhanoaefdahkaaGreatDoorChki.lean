/- law51: what Check says of an image, in plain words, and its callees' walks: sides, Limit, Valid. -/
import Derived.Test.YthhanoaefdahkaaGreatDoorImgs
namespace Go.Proofs.YthhanoaefdahkaaGreatDoor
open Go.RowKit

def okP (P : Nat → Nat → Int) (j : Nat) : Bool := decide ((0 ≤ P j 0 ∧ P j 0 ≤ 65535) ∧ (0 ≤ P j 1 ∧ P j 1 ≤ 65535) ∧ (0 ≤ P j 2 ∧ P j 2 ≤ 65535) ∧ (0 ≤ P j 3 ∧ P j 3 ≤ 65535))
def okTo (P : Nat → Nat → Int) : Nat → Bool
  | 0 => true
  | k + 1 => okTo P k && okP P k
def badSide (W H : Int) : Bool := decide (W < 0 ∨ 256 < W ∨ H < 0 ∨ 256 < H ∨ ¬ (W = 0 ↔ H = 0))
def chkI (W H : Int) (n : Nat) (P : Nat → Nat → Int) : Int := if badSide W H = true ∨ (n : Int) ≠ W * H then 15 else if okTo P n = true then 0 else 2
theorem okTo_down {P : Nat → Nat → Int} : ∀ {n j : Nat}, okTo P n = true → j < n → okP P j = true
  | 0, j, _, h => by omega
  | n + 1, j, h, hj => by
    simp only [okTo, Bool.and_eq_true] at h
    by_cases e : j = n
    · subst e; exact h.2
    · exact okTo_down h.1 (by omega)
theorem okTo_of {P : Nat → Nat → Int} : ∀ {n : Nat}, (∀ j, j < n → okP P j = true) → okTo P n = true
  | 0, _ => rfl
  | n + 1, h => by simp only [okTo, Bool.and_eq_true]; exact ⟨okTo_of fun j hj => h j (by omega), h n (by omega)⟩
theorem okP_at {P : Nat → Nat → Int} {j k : Nat} (h : okP P j = true) (hk : k < 4) : 0 ≤ P j k ∧ P j k ≤ 65535 := by
  have h := of_decide_eq_true h
  rcases k with _ | _ | _ | _ | k <;> first | omega | exact h.1 | exact h.2.1 | exact h.2.2.1 | exact h.2.2.2
theorem area {W H : Int} (h : badSide W H = false) : 0 ≤ W ∧ W ≤ 256 ∧ 0 ≤ H ∧ H ≤ 256 ∧ 0 ≤ W * H ∧ W * H ≤ 65536 := by
  have h := of_decide_eq_false h
  have h1 : 0 ≤ W := by omega
  have h2 : W ≤ 256 := by omega
  have h3 : 0 ≤ H := by omega
  have h4 : H ≤ 256 := by omega
  refine ⟨h1, h2, h3, h4, Int.mul_nonneg h1 h3, ?_⟩
  have := Int.mul_le_mul h2 h4 h3 (by omega)
  omega
theorem chk_zero {W H : Int} {n : Nat} {P : Nat → Nat → Int} (h : chkI W H n P = 0) : badSide W H = false ∧ (n : Int) = W * H ∧ okTo P n = true := by
  unfold chkI at h
  split at h
  · omega
  · rename_i h1
    split at h
    · rename_i h2
      refine ⟨?_, ?_, h2⟩
      · cases hb : badSide W H
        · rfl
        · exact absurd (Or.inl hb) h1
      · by_cases e : (n : Int) = W * H
        · exact e
        · exact absurd (Or.inr e) h1
    · omega
theorem chk_zero_n {W H : Int} {n : Nat} {P : Nat → Nat → Int} (h : chkI W H n P = 0) : n ≤ 65536 := by
  obtain ⟨h1, h2, _⟩ := chk_zero h
  have := area h1
  omega
theorem chk_zero_of {W H : Int} {n : Nat} {P Q : Nat → Nat → Int} (h : chkI W H n P = 0) (hq : ∀ j k, j < n → k < 4 → 0 ≤ Q j k ∧ Q j k ≤ 65535) : chkI W H n Q = 0 := by
  obtain ⟨h1, h2, _⟩ := chk_zero h
  unfold chkI
  rw [if_neg (by rw [h1]; simp [h2]), if_pos (okTo_of fun j hj => decide_eq_true ⟨hq j 0 hj (by omega), hq j 1 hj (by omega), hq j 2 hj (by omega), hq j 3 hj (by omega)⟩)]

macro "go_sides" : tactic => `(tactic| (go_enter Tryz.func38, Tryz.ntmps38; go_wp2; all_goals go_ret; all_goals first | exact ⟨rfl, rfl⟩ | (exfalso; simp_all; done) | (exfalso; simp_all; omega)))
set_option maxHeartbeats 1600000 in
theorem sides_any (W H : Int) (w : World) : Calls Tryz.prog 38 #[.int .i64 W, .int .i64 H] w fun e w' => e = .returned (.int .i64 (if badSide W H = true then 15 else 0)) ∧ w' = w := by
  by_cases h1 : W < 0
  · rw [if_pos (show badSide W H = true from decide_eq_true (by omega))]; go_sides
  · by_cases h2 : 256 < W
    · rw [if_pos (show badSide W H = true from decide_eq_true (by omega))]; go_sides
    · by_cases h3 : H < 0
      · rw [if_pos (show badSide W H = true from decide_eq_true (by omega))]; go_sides
      · by_cases h4 : 256 < H
        · rw [if_pos (show badSide W H = true from decide_eq_true (by omega))]; go_sides
        · by_cases h5 : W = 0
          · by_cases h6 : H = 0
            · rw [if_neg (by rw [badSide, decide_eq_true_eq]; omega)]; subst h5 h6; go_sides
            · rw [if_pos (show badSide W H = true from decide_eq_true (by omega))]; subst h5; go_sides
          · by_cases h6 : H = 0
            · rw [if_pos (show badSide W H = true from decide_eq_true (by omega))]; subst h6; go_sides
            · rw [if_neg (by rw [badSide, decide_eq_true_eq]; omega)]; have hb5 : (W == 0) = false := by { simp [h5] }; have hb6 : (H == 0) = false := by { simp [h6] }; go_sides

set_option maxHeartbeats 3200000 in
theorem limit_any (x0 x1 x2 x3 : Int) (w : World) : Calls Tryz.prog 118 #[.agg #[.int .i64 x0, .int .i64 x1, .int .i64 x2, .int .i64 x3]] w
    fun e w' => e = .returned (.agg #[.int .i64 (cl x0 0 65535), .int .i64 (cl x1 0 65535), .int .i64 (cl x2 0 65535), .int .i64 (cl x3 0 65535)]) ∧ Below w.heap.size w w' := by
  have hb1 : ∀ ob, Below w.heap.size w (w.alloc ob) := fun ob => (Below.refl _ _).alloc (Nat.le_refl _) _
  have hb2 : ∀ ob o2, Below w.heap.size w ((w.alloc ob).alloc o2) := fun ob o2 => (hb1 ob).alloc (hb1 ob).size _
  go_enter Tryz.func118, Tryz.ntmps118
  go_wp2
  go_region_held3 (fun w' => w'.cell? ⟨w.heap.size, 0, none⟩ = some (.int .i64 x0) ∧ w'.cell? ⟨w.heap.size, 1, none⟩ = some (.int .i64 x1) ∧ w'.cell? ⟨w.heap.size, 2, none⟩ = some (.int .i64 x2) ∧ w'.cell? ⟨w.heap.size, 3, none⟩ = some (.int .i64 x3))
    (first | go_keep | (go_split_ands; assumption))
    (first | (go_at_call 42; with_reducible refine (unit_any _ _).mono ?_; rintro e w3 ⟨rfl, rfl⟩))
  go_wp2
  exact bodyPost_ret (results_cell_row rfl _ _ (w.heap.size + 1) 35 _ (0, 0) _ rfl (two_new w _ _) Tryz.underlying35 rfl (by kernel_rfl)) rfl ⟨rfl, below_drew (hb2 _ _)⟩
end Go.Proofs.YthhanoaefdahkaaGreatDoor
