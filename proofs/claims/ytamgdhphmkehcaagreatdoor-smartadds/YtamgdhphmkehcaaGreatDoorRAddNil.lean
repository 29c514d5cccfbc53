/- The walk of the specification's Add at the nil library. -/
import Derived.Test.YtamgdhphmkehcaaGreatDoorRAdd
namespace Go.Proofs.YtamgdhphmkehcaaGreatDoor
open Go.RowKit

set_option maxRecDepth 100000 in
set_option maxHeartbeats 6400000 in
theorem radd_nil (N D : Nat → ByteArray) (R : Nat → Int) (n d : ByteArray) (r : Int) (w : World) (hns : n.size ≤ 9223372036854775807) :
    Calls Tryz.prog 8 #[.slice none 0 0, .agg #[.string n, .int .i64 r, .string d]] w fun e w' => ∃ v, e = .returned (.tuple #[v, .int .i64 (addE N D R 0 n d r)]) ∧ Below w.heap.size w w' ∧
      (addE N D R 0 n d r ≠ 0 → v = .slice none 0 0) ∧
      (addE N D R 0 n d r = 0 → ∃ at_, At N R 0 n r at_ ∧ w'.ownsRow w.heap.size 24 3 v (0 + 1) (cellsOf (insF at_ n N) (insF at_ d D) (insF at_ r R) 0 (0 + 1))) := by
  obtain ⟨i0, hi, hz0, hz1, hz2⟩ := info_parts info24
  have hE : addE N D R 0 n d r = sgl n d r := by
    by_cases h : sgl n d r = 0 <;> simp [addE, chkL, chk, dup, st, stale, h]
  rw [hE]
  have hb1 : ∀ ob, Below w.heap.size w (w.alloc ob) := fun ob => (Below.refl _ _).alloc (Nat.le_refl _) _
  have fb : ∀ W, Below (w.alloc (.cells #[.string n, .int .i64 r, .string d] 24)).heap.size (w.alloc (.cells #[.string n, .int .i64 r, .string d] 24)) W →
      W.heap[w.heap.size]? = some (.cells #[.string n, .int .i64 r, .string d] 24 (0, 0)) := fun W h => (h.block _ (by show w.heap.size < (w.heap.push _).size; simp)).trans (heap_alloc_new w _)
  have up : ∀ W, Below (w.alloc (.cells #[.string n, .int .i64 r, .string d] 24)).heap.size (w.alloc (.cells #[.string n, .int .i64 r, .string d] 24)) W → Below w.heap.size w W := fun W h => (hb1 _).trans (h.mono (hb1 _).size)
  have cells : ∀ W : World, W.heap[w.heap.size]? = some (.cells #[.string n, .int .i64 r, .string d] 24 (0, 0)) → W.cell? ⟨w.heap.size, 0, none⟩ = some (.string n) ∧ W.cell? ⟨w.heap.size, 1, none⟩ = some (.int .i64 r) ∧ W.cell? ⟨w.heap.size, 2, none⟩ = some (.string d) :=
    fun W h => by simp [World.cell?, h]
  obtain ⟨s0, hs0⟩ : ∃ s, sgl n d r = s := ⟨_, rfl⟩
  have ks : ∀ W, Calls Tryz.prog 22 #[.agg #[.string n, .int .i64 r, .string d]] W fun e w' => e = .returned (.int .i64 s0) ∧ Below W.heap.size W w' := fun W => by
    have := rsingle_any n d r W hns
    rwa [hs0] at this
  rw [hs0]
  by_cases h2 : s0 = 0
  · subst h2
    go_enter Tryz.func8, Tryz.ntmps8
    go_wp2_with (first
      | (go_at_call 10; refine (rcheck_nil _).mono ?_; rintro e w2 ⟨rfl, hb2⟩; have F2 := fb _ hb2; have G2 := up _ hb2; obtain ⟨x20, x21, x22⟩ := cells _ F2)
      | (go_at_call 22; refine (ks _).mono ?_; rintro e w3 ⟨rfl, hb3⟩; have F3 := keep_b hb3 F2; have G3 := G2.trans (hb3.mono G2.size); obtain ⟨x30, x31, x32⟩ := cells _ F3))
    have hbs : w.heap.size < w3.heap.size := (Array.getElem?_eq_some_iff.1 F3).1
    have hown := World.ownsRow_nil w3 (w.heap.size + 1) 24 3
    refine wp_loop_rounds 1 ?_
    rw [rounds_succ]
    go_wp2
    refine wp_loop_rounds 1 ?_
    rw [rounds_succ]
    go_wp2
    refine wp_loop_rounds 1 ?_
    rw [rounds_succ]
    go_wp2_with (at_builtin; refine wpList_append_own _ rfl (.tmp 92) (.tmp 94) 22 rfl (w.heap.size + 1) 24 i0 _ 3 40 Tryz.underlying22 hi hz0 hz1 hz2 rfl (by decide) _ _ _ rfl (hown.alloc _) ⟨w3.heap.size, 0, none⟩ 1 1 [.string n, .int .i64 r, .string d] rfl rfl (World.news_of_block (cs := #[.string n, .int .i64 r, .string d]) (t := 24) (fr := (0, 0)) (heap_alloc_new w3 _)) (by simp [Value.oneCell']) (by unfold maxLen; omega) (by omega) (by simp; omega) ?_; intro v5 w5 hown5 hgrow5 _)
    refine wp_loop_rounds 1 ?_
    rw [rounds_succ]
    go_wp2
    go_ret2
    have e1 := cellsOf_ins (N := N) (D := D) (R := R) (n := n) (d := d) (r := r) (at_ := 0) (Nat.le_refl 0)
    refine ⟨_, rfl, (G3.alloc G3.size _).grown hgrow5 (G3.alloc G3.size _).size (fun k e => by cases e), fun h => absurd rfl h, fun _ => ⟨0, ⟨Nat.le_refl _, fun i hi => absurd hi (Nat.not_lt_zero _), fun h => absurd h (Nat.lt_irrefl _)⟩, ?_⟩⟩
    rw [← e1]
    exact own_base hown5 (by omega)
  · go_enter Tryz.func8, Tryz.ntmps8
    go_wp2_with (first
      | (go_at_call 10; refine (rcheck_nil _).mono ?_; rintro e w2 ⟨rfl, hb2⟩; have F2 := fb _ hb2; have G2 := up _ hb2; obtain ⟨x20, x21, x22⟩ := cells _ F2)
      | (go_at_call 22; refine (ks _).mono ?_; rintro e w3 ⟨rfl, hb3⟩; have F3 := keep_b hb3 F2; have G3 := G2.trans (hb3.mono G2.size)))
    go_ret2
    exact ⟨_, rfl, G3, fun _ => rfl, fun h => absurd h h2⟩
end Go.Proofs.YtamgdhphmkehcaaGreatDoor
