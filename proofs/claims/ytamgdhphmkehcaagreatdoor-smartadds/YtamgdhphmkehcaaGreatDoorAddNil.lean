/- The walk of Add at the nil library. -/
import Derived.Test.YtamgdhphmkehcaaGreatDoorAdd
import Derived.Test.YtamgdhphmkehcaaGreatDoorWantsNil
namespace Go.Proofs.YtamgdhphmkehcaaGreatDoor
open Go.RowKit

theorem src_nil (w : World) : Src w none 0 0 [] := by
  unfold Src
  exact ⟨rfl, (fun _ => ⟨rfl, rfl⟩), (fun u hu => by cases hu), fun ad h => by cases h⟩

set_option maxRecDepth 100000 in
set_option maxHeartbeats 6400000 in
theorem add_nil (N D : Nat → ByteArray) (R : Nat → Int) (n d : ByteArray) (r : Int) (w : World) :
    Calls Tryz.prog 7 #[.slice none 0 0, .agg #[.string n, .int .i64 r, .string d]] w fun e w' => ∃ v, e = .returned (.tuple #[v, .int .i64 (addE N D R 0 n d r)]) ∧ Below w.heap.size w w' ∧
      (addE N D R 0 n d r ≠ 0 → v = .slice none 0 0) ∧
      (addE N D R 0 n d r = 0 → ∃ at_, At N R 0 n r at_ ∧ w'.ownsRow w.heap.size 24 3 v (0 + 1) (cellsOf (insF at_ n N) (insF at_ d D) (insF at_ r R) 0 (0 + 1))) := by
  have hE : addE N D R 0 n d r = sgl n d r := by
    by_cases h : sgl n d r = 0 <;> simp [addE, chkL, chk, dup, st, stale, h]
  rw [hE]
  have hb1 : ∀ ob, Below w.heap.size w (w.alloc ob) := fun ob => (Below.refl _ _).alloc (Nat.le_refl _) _
  have fb : ∀ W, Below (w.alloc (.cells #[.string n, .int .i64 r, .string d] 24)).heap.size (w.alloc (.cells #[.string n, .int .i64 r, .string d] 24)) W →
      W.heap[w.heap.size]? = some (.cells #[.string n, .int .i64 r, .string d] 24 (0, 0)) := fun W h => (h.block _ (by show w.heap.size < (w.heap.push _).size; simp)).trans (heap_alloc_new w _)
  have up : ∀ W, Below (w.alloc (.cells #[.string n, .int .i64 r, .string d] 24)).heap.size (w.alloc (.cells #[.string n, .int .i64 r, .string d] 24)) W → Below w.heap.size w W := fun W h => (hb1 _).trans (h.mono (hb1 _).size)
  have cells : ∀ W : World, W.heap[w.heap.size]? = some (.cells #[.string n, .int .i64 r, .string d] 24 (0, 0)) → W.cell? ⟨w.heap.size, 0, none⟩ = some (.string n) ∧ W.cell? ⟨w.heap.size, 1, none⟩ = some (.int .i64 r) ∧ W.cell? ⟨w.heap.size, 2, none⟩ = some (.string d) :=
    fun W h => by simp [World.cell?, h]
  obtain ⟨s0, hs0⟩ : ∃ s, sgl n d r = s := ⟨_, rfl⟩
  have ks : ∀ W, Calls Tryz.prog 17 #[.agg #[.string n, .int .i64 r, .string d]] W fun e w' => e = .returned (.int .i64 s0) ∧ Below W.heap.size W w' := fun W => by
    have := single_any n d r W
    rwa [hs0] at this
  rw [hs0]
  by_cases h2 : s0 = 0
  · subst h2
    go_enter Tryz.func7, Tryz.ntmps7
    go_wp2_with (first
      | (go_at_call 9; refine (check_nil _).mono ?_; rintro e w2 ⟨rfl, hb2⟩; have F2 := fb _ hb2; have G2 := up _ hb2; obtain ⟨x20, x21, x22⟩ := cells _ F2)
      | (go_at_call 17; refine (ks _).mono ?_; rintro e w3 ⟨rfl, hb3⟩; have F3 := keep_b hb3 F2; have G3 := G2.trans (hb3.mono G2.size); obtain ⟨x30, x31, x32⟩ := cells _ F3)
      | (go_at_call 18; refine (hasf_nil _ _).mono ?_; rintro e w4 ⟨rfl, hb4⟩; have F4 := keep_b hb4 F3; have G4 := G3.trans (hb4.mono G3.size); obtain ⟨x40, x41, x42⟩ := cells _ F4)
      | (go_at_call 13; refine (latest_nil n _).mono ?_; rintro e w5 ⟨rfl, hb5⟩; have F5 := keep_b hb5 F4; have G5 := G4.trans (hb5.mono G4.size); have F5a := fun ob => keep_a F5 ob; have G5a : ∀ ob, Below w.heap.size w (w5.alloc ob) := fun ob => G5.alloc G5.size ob))
    have F6 := F5a (.cells #[.string ⟨#[]⟩, .int .i64 0, .string ⟨#[]⟩] 24)
    have G6 := G5a (.cells #[.string ⟨#[]⟩, .int .i64 0, .string ⟨#[]⟩] 24)
    generalize w5.alloc (.cells #[.string ⟨#[]⟩, .int .i64 0, .string ⟨#[]⟩] 24) = w6 at F6 G6 ⊢
    refine wp_loop_rounds 1 ?_
    rw [rounds_succ]
    go_wp2
    go_quiet (fail)
    go_wp2
    have F7 : (w6.drewN nq).heap[w.heap.size]? = some (.cells #[.string n, .int .i64 r, .string d] 24 (0, 0)) := F6
    have G7 : Below w.heap.size w (w6.drewN nq) := below_drewN G6 nq
    generalize w6.drewN nq = w7 at F7 G7 ⊢
    obtain ⟨z70, z71, z72⟩ := cells _ F7
    have key := ins_call none none 0 0 0 0 _ _ n d r w7 (src_nil w7) (src_nil w7) (by omega)
    go_region_held3 (fun w' => w'.cell? ⟨w.heap.size, 0, none⟩ = some (.string n) ∧ w'.cell? ⟨w.heap.size, 1, none⟩ = some (.int .i64 r) ∧ w'.cell? ⟨w.heap.size, 2, none⟩ = some (.string d))
      (first | go_keep | exact ⟨cell_keep hb8 z70, cell_keep hb8 z71, cell_keep hb8 z72⟩)
      (first | (go_at_call 21; refine key.mono ?_; rintro e w8 ⟨v, rfl, hown, hb8⟩))
    go_wp2
    go_ret2
    refine ⟨_, rfl, G7.trans (hb8.mono G7.size), fun h => absurd rfl h, fun _ => ⟨0, ⟨Nat.le_refl _, fun i hi => absurd hi (Nat.not_lt_zero _), fun h => absurd h (Nat.lt_irrefl _)⟩, ?_⟩⟩
    have e1 := cellsOf_ins (N := N) (D := D) (R := R) (n := n) (d := d) (r := r) (at_ := 0) (Nat.le_refl 0)
    rw [← e1]
    exact own_base hown G7.size
  · go_enter Tryz.func7, Tryz.ntmps7
    go_wp2_with (first
      | (go_at_call 9; refine (check_nil _).mono ?_; rintro e w2 ⟨rfl, hb2⟩; have F2 := fb _ hb2; have G2 := up _ hb2; obtain ⟨x20, x21, x22⟩ := cells _ F2)
      | (go_at_call 17; refine (ks _).mono ?_; rintro e w3 ⟨rfl, hb3⟩; have F3 := keep_b hb3 F2; have G3 := G2.trans (hb3.mono G2.size)))
    go_ret2
    exact ⟨_, rfl, G3, fun _ => rfl, fun h => absurd h h2⟩
end Go.Proofs.YtamgdhphmkehcaaGreatDoor
