/- SmartWants: whatever the link and the library in memory (nil too), it answers true; what was in memory stays. -/
import Derived.Test.YtamgdhphmkehcaaGreatDoorSeek
import Derived.Test.YtamgdhphmkehcaaGreatDoorRWants
import Derived.Test.YtamgdhphmkehcaaGreatDoorWantsNil
import Derived.Test.YtamgdhphmkehcaaGreatDoorAwake
namespace Go.Proofs.YtamgdhphmkehcaaGreatDoor
open Go.RowKit

theorem cells_kept {W W' : World} {cs : Array Value} {t : TypeId} (h : Below (W.alloc (.cells cs t)).heap.size (W.alloc (.cells cs t)) W') : W'.heap[W.heap.size]? = some (.cells cs t (0, 0)) :=
  (h.block _ (by show W.heap.size < (W.heap.push _).size; simp)).trans (heap_alloc_new W _)

set_option maxHeartbeats 3200000 in
/-- The law's walk, out of what the four callees answer. -/
theorem swants_walk (v : Value) (hv : (∃ a len cap, v = .slice (some a) len cap) ∨ v = .slice none 0 0) (n d : ByteArray) (r m : Int) (ok is : Bool) (id : Int) (nm : ByteArray) (rule rev iw ih : Int) (pb : Option Addr) (pl pc : Nat) (w : World)
    (k13 : ∀ W, Below w.heap.size w W → Calls Tryz.prog 13 #[v, .string nm] W fun e w' => e = .returned (.tuple #[.agg #[.string n, .int .i64 r, .string d], .bool ok]) ∧ Below W.heap.size W w')
    (k14 : ∀ W, Below w.heap.size w W → Calls Tryz.prog 14 #[v, .string nm] W fun e w' => e = .returned (.tuple #[.agg #[.string n, .int .i64 r, .string d], .bool ok]) ∧ Below W.heap.size W w')
    (k15 : ∀ W, Below w.heap.size w W → Calls Tryz.prog 15 #[.agg #[.int .i64 id, .string nm, .int .i64 rule, .int .i64 rev, .int .i64 iw, .int .i64 ih, .slice pb pl pc], v] W fun e w' => e = .returned (.tuple #[.int .i64 m, .bool is]) ∧ Below W.heap.size W w')
    (k16 : ∀ W, Below w.heap.size w W → Calls Tryz.prog 16 #[.agg #[.int .i64 id, .string nm, .int .i64 rule, .int .i64 rev, .int .i64 iw, .int .i64 ih, .slice pb pl pc], v] W fun e w' => e = .returned (.tuple #[.int .i64 m, .bool is]) ∧ Below W.heap.size W w') :
    Calls Tryz.prog 4 #[.agg #[.int .i64 id, .string nm, .int .i64 rule, .int .i64 rev, .int .i64 iw, .int .i64 ih, .slice pb pl pc], v] w fun e w' => e = .returned (.bool true) ∧ Below w.heap.size w w' := by
  obtain ⟨L, hL⟩ : ∃ L, L = #[Value.int .i64 id, .string nm, .int .i64 rule, .int .i64 rev, .int .i64 iw, .int .i64 ih, .slice pb pl pc] := ⟨_, rfl⟩
  obtain ⟨F, hF⟩ : ∃ F, F = #[Value.string n, .int .i64 r, .string d] := ⟨_, rfl⟩
  have hb1 : ∀ ob, Below w.heap.size w (w.alloc ob) := fun ob => (Below.refl _ _).alloc (Nat.le_refl _) _
  have cl : ∀ W' : World, Below (w.alloc (.cells L 36)).heap.size (w.alloc (.cells L 36)) W' → W'.heap[w.heap.size]? = some (.cells L 36 (0, 0)) := fun W' h => cells_kept h
  have cf : ∀ W W' : World, Below (W.alloc (.cells F 24)).heap.size (W.alloc (.cells F 24)) W' → W'.heap[W.heap.size]? = some (.cells F 24 (0, 0)) := fun W W' h => cells_kept h
  have sz : ∀ (W : World) ob, (W.alloc ob).heap.size = W.heap.size + 1 := fun W ob => by show (W.heap.push _).size = _; simp
  have up : ∀ (W : World) W' ob, Below (W.alloc ob).heap.size (W.alloc ob) W' → Below w.heap.size w (W.alloc ob) → Below w.heap.size w W' := fun W W' ob h h2 => h2.trans (h.mono h2.size)
  have read : ∀ (W : World), W.heap[w.heap.size]? = some (.cells L 36 (0, 0)) → W.cell? ⟨w.heap.size, 0, none⟩ = some (.int .i64 id) ∧ W.cell? ⟨w.heap.size, 1, none⟩ = some (.string nm) ∧ W.cell? ⟨w.heap.size, 2, none⟩ = some (.int .i64 rule) ∧
      W.cell? ⟨w.heap.size, 3, none⟩ = some (.int .i64 rev) ∧ W.cell? ⟨w.heap.size, 4, none⟩ = some (.int .i64 iw) ∧ W.cell? ⟨w.heap.size, 5, none⟩ = some (.int .i64 ih) ∧ W.cell? ⟨w.heap.size, 6, none⟩ = some (.slice pb pl pc) := fun W h => by
    subst hL; simp [World.cell?, h]
  have readF : ∀ (W : World) b, W.heap[b]? = some (.cells F 24 (0, 0)) → W.cell? ⟨b, 0, none⟩ = some (.string n) ∧ W.cell? ⟨b, 1, none⟩ = some (.int .i64 r) ∧ W.cell? ⟨b, 2, none⟩ = some (.string d) := fun W b h => by
    subst hF; simp [World.cell?, h]
  rcases hv with ⟨a, len, cap, rfl⟩ | rfl
  all_goals
    go_enter Tryz.func4, Tryz.ntmps4
    go_wp2_with (first
      | (go_at_call 13; refine (k13 _ (hb1 _)).mono ?_; rintro e w2 ⟨rfl, hb2⟩
         have g2 : Below w.heap.size w w2 := up _ _ _ hb2 (hb1 _)
         have g2a : ∀ ob, Below w.heap.size w (w2.alloc ob) := fun ob => g2.alloc g2.size ob
         have l2 : w2.heap[w.heap.size]? = some (.cells L 36 (0, 0)) := cl _ (by subst hL; exact hb2)
         have l2a : ∀ ob, (w2.alloc ob).heap[w.heap.size]? = some (.cells L 36 (0, 0)) := fun ob => (Below.heap_alloc _ _ _ (lt_of_block l2)).trans l2
         have q2 := fun ob => read _ (l2a ob)
         have q21 := fun ob => (q2 ob).2.1)
      | (go_at_call 14; refine (k14 _ (g2a _)).mono ?_; rintro e w3 ⟨rfl, hb3⟩
         have g3 : Below w.heap.size w w3 := up _ _ _ hb3 (g2a _)
         have g3a : ∀ ob, Below w.heap.size w (w3.alloc ob) := fun ob => g3.alloc g3.size ob
         have l3 : w3.heap[w.heap.size]? = some (.cells L 36 (0, 0)) := (hb3.block _ (by rw [sz]; have := lt_of_block l2; omega)).trans (l2a _)
         have l3a : ∀ ob, (w3.alloc ob).heap[w.heap.size]? = some (.cells L 36 (0, 0)) := fun ob => (Below.heap_alloc _ _ _ (lt_of_block l3)).trans l3
         have f3 : w3.heap[w2.heap.size]? = some (.cells F 24 (0, 0)) := cf _ _ (by subst hF; exact hb3)
         have q30 := fun ob => (read _ (l3a ob)).1
         have q31 := fun ob => (read _ (l3a ob)).2.1
         have q32 := fun ob => (read _ (l3a ob)).2.2.1
         have q33 := fun ob => (read _ (l3a ob)).2.2.2.1
         have q34 := fun ob => (read _ (l3a ob)).2.2.2.2.1
         have q35 := fun ob => (read _ (l3a ob)).2.2.2.2.2.1
         have q36 := fun ob => (read _ (l3a ob)).2.2.2.2.2.2)
      | (go_at_call 15; refine (k15 _ (g3a _)).mono ?_; rintro e w4 ⟨rfl, hb4⟩
         have g4 : Below w.heap.size w w4 := up _ _ _ hb4 (g3a _)
         have s4 : w3.heap.size < w4.heap.size := by have := hb4.size; rw [sz] at this; omega
         have l4 : w4.heap[w.heap.size]? = some (.cells L 36 (0, 0)) := (hb4.block _ (by rw [sz]; have := lt_of_block l3; omega)).trans (l3a _)
         have f4 : w4.heap[w2.heap.size]? = some (.cells F 24 (0, 0)) := (hb4.block _ (by rw [sz]; have := lt_of_block f3; omega)).trans ((Below.heap_alloc _ _ _ (lt_of_block f3)).trans f3)
         have e4 : w4.heap[w3.heap.size]? = some (.cells F 24 (0, 0)) := cf _ _ (by subst hF; exact hb4)
         obtain ⟨q40, q41, q42, q43, q44, q45, q46⟩ := read _ l4)
      | (go_at_call 16; refine (k16 _ g4).mono ?_; rintro e w5 ⟨rfl, hb5⟩
         have g5 : Below w.heap.size w w5 := g4.trans (hb5.mono g4.size)
         have f5 : w5.heap[w2.heap.size]? = some (.cells F 24 (0, 0)) := (hb5.block _ (lt_of_block f4)).trans f4
         have e5 : w5.heap[w3.heap.size]? = some (.cells F 24 (0, 0)) := (hb5.block _ (lt_of_block e4)).trans e4
         obtain ⟨p50, p51, p52⟩ := readF _ _ f5
         obtain ⟨r50, r51, r52⟩ := readF _ _ e5)
      | (go_at_call 12; refine (awake_calls _).mono ?_; rintro e w6 ⟨rfl, hb6⟩))
    go_ret
    exact ⟨by simp, g5.trans (hb6.mono g5.size)⟩

theorem swants_some (a : Addr) (len cap : Nat) (N D : Nat → ByteArray) (R : Nat → Int) (id : Int) (nm : ByteArray) (rule rev iw ih : Int) (pb : Option Addr) (pl pc : Nat) (w : World) (hl : Lib w a len N D R) (hblk : 0 < len → a.block < w.heap.size)
    (hlen : len ≤ 9223372036854775807) :
    Calls Tryz.prog 4 #[.agg (linkV id nm rule rev iw ih (.slice pb pl pc)), .slice (some a) len cap] w fun e w' => e = .returned (.bool true) ∧ Below w.heap.size w w' :=
  swants_walk _ (.inl ⟨_, _, _, rfl⟩) _ _ _ _ _ _ id nm rule rev iw ih pb pl pc w
    (fun W h => latest_any a len cap N D R nm W (hl.mono h hblk) (fun h0 => Nat.lt_of_lt_of_le (hblk h0) h.size) hlen)
    (fun W h => rlatest_any a len cap N D R nm W (hl.mono h hblk) (fun h0 => Nat.lt_of_lt_of_le (hblk h0) h.size) hlen)
    (fun W h => wants_any a len cap N D R id nm rule rev iw ih pb pl pc W (hl.mono h hblk) (fun h0 => Nat.lt_of_lt_of_le (hblk h0) h.size) hlen)
    (fun W h => rwants_any a len cap N D R id nm rule rev iw ih pb pl pc W (hl.mono h hblk) (fun h0 => Nat.lt_of_lt_of_le (hblk h0) h.size) hlen)
theorem swants_nil (id : Int) (nm : ByteArray) (rule rev iw ih : Int) (pb : Option Addr) (pl pc : Nat) (w : World) :
    Calls Tryz.prog 4 #[.agg (linkV id nm rule rev iw ih (.slice pb pl pc)), .slice none 0 0] w fun e w' => e = .returned (.bool true) ∧ Below w.heap.size w w' :=
  swants_walk _ (.inr rfl) _ _ _ _ _ _ id nm rule rev iw ih pb pl pc w (fun W _ => latest_nil nm W) (fun W _ => rlatest_nil nm W) (fun W _ => wants_nil id nm rule rev iw ih pb pl pc W) (fun W _ => rwants_nil id nm rule rev iw ih pb pl pc W)
end Go.Proofs.YtamgdhphmkehcaaGreatDoor
