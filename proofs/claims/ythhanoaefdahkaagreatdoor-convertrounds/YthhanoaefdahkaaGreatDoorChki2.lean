/- law51: Valid and Check, of the program and of the specification, answer what Chki says in plain words. -/
import Derived.Test.YthhanoaefdahkaaGreatDoorChki
namespace Go.Proofs.YthhanoaefdahkaaGreatDoor
open Go.RowKit

set_option maxHeartbeats 3200000 in
theorem rlimit_any (x0 x1 x2 x3 : Int) (w : World) : Calls Tryz.prog 120 #[.agg #[.int .i64 x0, .int .i64 x1, .int .i64 x2, .int .i64 x3]] w
    fun e w' => e = .returned (.agg #[.int .i64 (cl x0 0 65535), .int .i64 (cl x1 0 65535), .int .i64 (cl x2 0 65535), .int .i64 (cl x3 0 65535)]) ∧ Below w.heap.size w w' := by
  have hb1 : ∀ ob, Below w.heap.size w (w.alloc ob) := fun ob => (Below.refl _ _).alloc (Nat.le_refl _) _
  have hb2 : ∀ ob o2, Below w.heap.size w ((w.alloc ob).alloc o2) := fun ob o2 => (hb1 ob).alloc (hb1 ob).size _
  go_enter Tryz.func120, Tryz.ntmps120
  go_wp2
  go_region_held3 (fun w' => w'.cell? ⟨w.heap.size, 0, none⟩ = some (.int .i64 x0) ∧ w'.cell? ⟨w.heap.size, 1, none⟩ = some (.int .i64 x1) ∧ w'.cell? ⟨w.heap.size, 2, none⟩ = some (.int .i64 x2) ∧ w'.cell? ⟨w.heap.size, 3, none⟩ = some (.int .i64 x3))
    (first | go_keep | (go_split_ands; assumption))
    (first | (go_at_call 123; with_reducible refine (u_any _ _).mono ?_; rintro e w3 ⟨rfl, rfl⟩))
  go_wp2
  exact bodyPost_ret (results_cell_row rfl _ _ (w.heap.size + 1) 35 _ (0, 0) _ rfl (two_new w _ _) Tryz.underlying35 rfl (by kernel_rfl)) rfl ⟨rfl, below_drew (hb2 _ _)⟩

def ok4 (x0 x1 x2 x3 : Int) : Bool := decide ((0 ≤ x0 ∧ x0 ≤ 65535) ∧ (0 ≤ x1 ∧ x1 ≤ 65535) ∧ (0 ≤ x2 ∧ x2 ≤ 65535) ∧ (0 ≤ x3 ∧ x3 ≤ 65535))
theorem ok4_cl {x0 x1 x2 x3 : Int} : ok4 x0 x1 x2 x3 = decide (x0 = cl x0 0 65535 ∧ x1 = cl x1 0 65535 ∧ x2 = cl x2 0 65535 ∧ x3 = cl x3 0 65535) := by
  unfold ok4
  rw [decide_eq_decide]
  constructor
  · rintro ⟨h0, h1, h2, h3⟩
    exact ⟨((cl_eq _).2 h0).symm, ((cl_eq _).2 h1).symm, ((cl_eq _).2 h2).symm, ((cl_eq _).2 h3).symm⟩
  · rintro ⟨h0, h1, h2, h3⟩
    exact ⟨(cl_eq _).1 h0.symm, (cl_eq _).1 h1.symm, (cl_eq _).1 h2.symm, (cl_eq _).1 h3.symm⟩

set_option maxHeartbeats 6400000 in
theorem valid_any (x0 x1 x2 x3 : Int) (w : World) : Calls Tryz.prog 39 #[.agg #[.int .i64 x0, .int .i64 x1, .int .i64 x2, .int .i64 x3]] w fun e w' => e = .returned (.bool (ok4 x0 x1 x2 x3)) ∧ Below w.heap.size w w' := by
  have hb1 : ∀ ob, Below w.heap.size w (w.alloc ob) := fun ob => (Below.refl _ _).alloc (Nat.le_refl _) _
  have key := fun W => limit_any x0 x1 x2 x3 W
  rw [ok4_cl]
  generalize cl x0 0 65535 = y0 at key ⊢
  generalize cl x1 0 65535 = y1 at key ⊢
  generalize cl x2 0 65535 = y2 at key ⊢
  generalize cl x3 0 65535 = y3 at key ⊢
  have hcase : (x0 = y0 ∧ x1 = y1 ∧ x2 = y2 ∧ x3 = y3) ∨ (¬ x0 = y0 ∧ ¬ y0 = x0) ∨ (x0 = y0 ∧ ¬ x1 = y1 ∧ ¬ y1 = x1) ∨ (x0 = y0 ∧ x1 = y1 ∧ ¬ x2 = y2 ∧ ¬ y2 = x2) ∨ (x0 = y0 ∧ x1 = y1 ∧ x2 = y2 ∧ ¬ x3 = y3 ∧ ¬ y3 = x3) := by omega
  rcases hcase with ⟨rfl, rfl, rfl, rfl⟩ | ⟨e0, e0'⟩ | ⟨rfl, e1, e1'⟩ | ⟨rfl, rfl, e2, e2'⟩ | ⟨rfl, rfl, rfl, e3, e3'⟩
  all_goals
    go_enter Tryz.func39, Tryz.ntmps39
    go_wp2
    go_region_held3 (fun w' => w'.cell? ⟨w.heap.size, 0, none⟩ = some (.int .i64 x0) ∧ w'.cell? ⟨w.heap.size, 1, none⟩ = some (.int .i64 x1) ∧ w'.cell? ⟨w.heap.size, 2, none⟩ = some (.int .i64 x2) ∧ w'.cell? ⟨w.heap.size, 3, none⟩ = some (.int .i64 x3))
      (first | go_keep | (go_split_ands; (refine ⟨cell_keep hb3 ?_, cell_keep hb3 ?_, cell_keep hb3 ?_, cell_keep hb3 ?_⟩) <;> assumption))
      (first | (go_at_call 118; refine (key _).mono ?_; rintro e w3 ⟨rfl, hb3⟩))
    go_wp2
    go_ret
    exact ⟨by simp_all, (below_drew (hb1 _)).trans (hb3.mono (below_drew (hb1 _)).size)⟩
set_option maxHeartbeats 6400000 in
theorem rvalid_any (x0 x1 x2 x3 : Int) (w : World) : Calls Tryz.prog 43 #[.agg #[.int .i64 x0, .int .i64 x1, .int .i64 x2, .int .i64 x3]] w fun e w' => e = .returned (.bool (ok4 x0 x1 x2 x3)) ∧ Below w.heap.size w w' := by
  have hb1 : ∀ ob, Below w.heap.size w (w.alloc ob) := fun ob => (Below.refl _ _).alloc (Nat.le_refl _) _
  have key := fun W => rlimit_any x0 x1 x2 x3 W
  rw [ok4_cl]
  generalize cl x0 0 65535 = y0 at key ⊢
  generalize cl x1 0 65535 = y1 at key ⊢
  generalize cl x2 0 65535 = y2 at key ⊢
  generalize cl x3 0 65535 = y3 at key ⊢
  have hcase : (x0 = y0 ∧ x1 = y1 ∧ x2 = y2 ∧ x3 = y3) ∨ (¬ x0 = y0 ∧ ¬ y0 = x0) ∨ (x0 = y0 ∧ ¬ x1 = y1 ∧ ¬ y1 = x1) ∨ (x0 = y0 ∧ x1 = y1 ∧ ¬ x2 = y2 ∧ ¬ y2 = x2) ∨ (x0 = y0 ∧ x1 = y1 ∧ x2 = y2 ∧ ¬ x3 = y3 ∧ ¬ y3 = x3) := by omega
  rcases hcase with ⟨rfl, rfl, rfl, rfl⟩ | ⟨e0, e0'⟩ | ⟨rfl, e1, e1'⟩ | ⟨rfl, rfl, e2, e2'⟩ | ⟨rfl, rfl, rfl, e3, e3'⟩
  all_goals
    go_enter Tryz.func43, Tryz.ntmps43
    go_wp2
    go_region_held3 (fun w' => w'.cell? ⟨w.heap.size, 0, none⟩ = some (.int .i64 x0) ∧ w'.cell? ⟨w.heap.size, 1, none⟩ = some (.int .i64 x1) ∧ w'.cell? ⟨w.heap.size, 2, none⟩ = some (.int .i64 x2) ∧ w'.cell? ⟨w.heap.size, 3, none⟩ = some (.int .i64 x3))
      (first | go_keep | (go_split_ands; (refine ⟨cell_keep hb3 ?_, cell_keep hb3 ?_, cell_keep hb3 ?_, cell_keep hb3 ?_⟩) <;> assumption))
      (first | (go_at_call 120; refine (key _).mono ?_; rintro e w3 ⟨rfl, hb3⟩))
    go_wp2
    go_ret
    exact ⟨by simp_all, (below_drew (hb1 _)).trans (hb3.mono (below_drew (hb1 _)).size)⟩
end Go.Proofs.YthhanoaefdahkaaGreatDoor
