/- SmartRules: whatever the link and the library in memory, it answers true; what was in memory stays. -/
import Derived.Test.YtamgdhphmkehcaaGreatDoorWants
import Derived.Test.YtamgdhphmkehcaaGreatDoorAwake
import Derived.Deep.QuietTactic
import Derived.BigQuiet
namespace Go.Proofs.YtamgdhphmkehcaaGreatDoor
open Go.RowKit

theorem st_spec {N : Nat → ByteArray} {R : Nat → Int} {nm : ByteArray} {p : Int → Bool} : ∀ {k j : Nat}, st N R nm p k = some j → j < k ∧ (N j).toList = nm.toList ∧ p (R j) = true
  | 0, j, h => by cases h
  | k + 1, j, h => by
    by_cases hc : ((N k).toList == nm.toList && p (R k) && better R (R k) (st N R nm p k)) = true
    · have e : st N R nm p (k + 1) = some k := if_pos hc
      rw [e] at h; cases h
      simp only [Bool.and_eq_true, beq_iff_eq] at hc
      exact ⟨by omega, hc.1.1, hc.1.2⟩
    · have e : st N R nm p (k + 1) = st N R nm p k := if_neg hc
      rw [e] at h
      obtain ⟨h1, h2⟩ := st_spec h
      exact ⟨by omega, h2⟩
theorem wants_some {N : Nat → ByteArray} {R : Nat → Int} {len : Nat} {nm : ByteArray} {rule rev n : Int} (h : wants N R len nm rule rev = some n) :
    (rule = 1 ∨ rule = 2) ∧ ∃ j, j < len ∧ (N j).toList = nm.toList ∧ R j = n ∧ rev < n ∧ pred rule rev n = true ∧ st N R nm (pred rule rev) len = some j := by
  unfold wants at h
  split at h
  · rename_i hr
    refine ⟨hr, ?_⟩
    cases hs : st N R nm (pred rule rev) len with
    | none => rw [hs] at h; cases h
    | some j =>
      rw [hs] at h
      simp only [wantOf] at h
      split at h
      · cases h
      · cases h
        obtain ⟨h1, h2, h3⟩ := st_spec hs
        exact ⟨j, h1, h2, rfl, by omega, h3, rfl⟩
  · cases h
theorem wants_again {N : Nat → ByteArray} {R : Nat → Int} {len : Nat} {nm : ByteArray} {rule rev n : Int} (h : wants N R len nm rule rev = some n) : wants N R len nm rule n = none := by
  obtain ⟨hr, j, h1, h2, h3, h4, h5, h6⟩ := wants_some h
  have hp : pred rule n = pred rule rev := by
    unfold pred at h5 ⊢
    by_cases e : rule = 1
    · rw [if_pos e, if_pos e]
    · rw [if_neg e] at h5 ⊢
      rw [if_neg e]
      have : fl n = fl rev := by simpa using h5
      rw [this]
  unfold wants
  rw [if_pos hr, hp, h6]
  exact if_pos (by omega)
def fnd (N : Nat → ByteArray) (R : Nat → Int) (nm : ByteArray) (n : Int) : Nat → Bool
  | 0 => false
  | k + 1 => ((N k).toList == nm.toList && R k == n) || fnd N R nm n k
theorem fnd_of {N : Nat → ByteArray} {R : Nat → Int} {nm : ByteArray} {n : Int} {j : Nat} (hn : (N j).toList = nm.toList) (hr : R j = n) : ∀ {len : Nat}, j < len → fnd N R nm n len = true
  | 0, h => by omega
  | len + 1, h => by
    simp only [fnd, Bool.or_eq_true]
    by_cases e : j = len
    · subst e; left; simp [hn, hr]
    · right; exact fnd_of hn hr (by omega)
theorem fl_eq {n rev : Int} (h : fl n = fl rev) (h0 : 0 ≤ rev) (h1 : rev < n) : wrap64 (n.tdiv 100) = wrap64 (rev.tdiv 100) := by
  have e1 : fl n = wrap64 (n.tdiv 100) := if_neg (by rintro ⟨_, h⟩; omega)
  have e2 : fl rev = wrap64 (rev.tdiv 100) := if_neg (by rintro ⟨_, h⟩; omega)
  rw [← e1, ← e2, h]

set_option maxHeartbeats 3200000 in
theorem rules_some (a : Addr) (len cap : Nat) (N D : Nat → ByteArray) (R : Nat → Int) (id : Int) (nm : ByteArray) (rule rev iw ih : Int) (pb : Option Addr) (pl pc : Nat) (w : World) (hl : Lib w a len N D R) (hblk : 0 < len → a.block < w.heap.size)
    (hlen : len ≤ 9223372036854775807) :
    Calls Tryz.prog 6 #[.agg (linkV id nm rule rev iw ih (.slice pb pl pc)), .slice (some a) len cap] w fun e w' => e = .returned (.bool true) ∧ Below w.heap.size w w' := by
  unfold linkV
  obtain ⟨W1, hW1⟩ : ∃ W1, W1 = w.alloc (.cells #[.int .i64 id, .string nm, .int .i64 rule, .int .i64 rev, .int .i64 iw, .int .i64 ih, .slice pb pl pc] 36) := ⟨_, rfl⟩
  have hs1 : W1.heap.size = w.heap.size + 1 := by rw [hW1]; show (w.heap.push _).size = _; simp
  have hb1 : Below w.heap.size w W1 := by rw [hW1]; exact (Below.refl _ _).alloc (Nat.le_refl _) _
  have hl1 : Lib W1 a len N D R := hl.mono hb1 hblk
  have hblk1 : 0 < len → a.block < W1.heap.size := fun h => by have := hblk h; omega
  have hheap : W1.heap[w.heap.size]? = some (.cells #[.int .i64 id, .string nm, .int .i64 rule, .int .i64 rev, .int .i64 iw, .int .i64 ih, .slice pb pl pc] 36 (0, 0)) := by rw [hW1]; exact heap_alloc_new w _
  have hfin : ∀ w2, Below W1.heap.size W1 w2 → Below w.heap.size w w2 := fun w2 h => hb1.trans (h.mono (by omega))
  have hblock : ∀ w2, Below W1.heap.size W1 w2 → w2.heap[w.heap.size]? = some (.cells #[.int .i64 id, .string nm, .int .i64 rule, .int .i64 rev, .int .i64 iw, .int .i64 ih, .slice pb pl pc] 36 (0, 0)) := fun w2 h => (h.block _ (by omega)).trans hheap
  by_cases hneg : rev < 0
  · rw [hW1] at hfin
    clear hl hl1 hheap hblock
    go_enter Tryz.func6, Tryz.ntmps6
    go_wp2_with (go_at_call 12; refine (awake_calls _).mono ?_; rintro e w2 ⟨rfl, hb2⟩)
    go_ret
    exact ⟨by simp, hfin _ hb2⟩
  · have key := wants_any a len cap N D R id nm rule rev iw ih (pb) pl pc W1 hl1 hblk1 hlen
    unfold linkV at key
    rcases hw : wants N R len nm rule rev with _ | n
    · rw [hw] at key
      rw [hW1] at key hfin
      clear hl hl1 hheap hblock
      go_enter Tryz.func6, Tryz.ntmps6
      go_wp2_with (first | (go_at_call 15; refine key.mono ?_; rintro e w2 ⟨rfl, hb2⟩) | (go_at_call 12; refine (awake_calls _).mono ?_; rintro e w3 ⟨rfl, hb3⟩))
      go_ret
      exact ⟨by simp, (hfin _ hb2).trans (hb3.mono (hfin _ hb2).size)⟩
    · rw [hw] at key
      have hag := wants_again hw
      obtain ⟨hr, j, h1, h2, h3, h4, h5, h6⟩ := wants_some hw
      have hfound : fnd N R nm n len = true := fnd_of h2 h3 h1
      rw [hW1] at key hfin hblock
      go_enter Tryz.func6, Tryz.ntmps6
      go_wp2_with (go_at_call 15; refine key.mono ?_; rintro e w2 ⟨rfl, hb2⟩)
      have hblk2 := hblock _ hb2
      have hle2 := hfin _ hb2
      go_loopw [7, 30] (fun fo i wr => ∃ k : Nat, k ≤ len ∧ i = .int .i64 k ∧ fo = .bool (fnd N R nm n k) ∧ ∃ q, wr = w2.drewN q)
        (fun _ i _ => len - (intOf i).toNat)
      case atStart => exact ⟨0, Nat.zero_le _, rfl, rfl, 0, rfl⟩
      case round =>
        obtain ⟨k, hk, rfl, rfl, q, rfl⟩ := hrel
        have hlq : Lib w2 a len N D R := hl.mono hle2 hblk
        have hx1 : w2.cell? ⟨w.heap.size, 1, none⟩ = some (.string nm) := by simp only [World.cell?, hblk2]; rfl
        have hx2 : w2.cell? ⟨w.heap.size, 2, none⟩ = some (.int .i64 rule) := by simp only [World.cell?, hblk2]; rfl
        have hx3 : w2.cell? ⟨w.heap.size, 3, none⟩ = some (.int .i64 rev) := by simp only [World.cell?, hblk2]; rfl
        have dd : ∀ nq, (w2.drewN q).drewN nq = w2.drewN (q + nq) := fun nq => by simp [World.drewN, Nat.add_assoc]
        by_cases hkl : k < len
        · clear hblk2 hblock key hl hl1 hheap hag hw hfin
          have hn := hlq.n k hkl
          have hr := hlq.r k hkl
          have hkl' : (k : Int) < (len : Int) := by omega
          by_cases hN : (N k).toList = nm.toList
          · by_cases hR : R k = n
            · go_wp2
              go_quiet (fail)
              go_wp2
              refine ⟨⟨k + 1, by omega, by simp, ?_, q + nq, rfl⟩, by simp [intOf]; omega⟩
              simp [fnd, hN, hR]
            · have hR' : (R k == n) = false := by simpa using hR
              go_wp2
              go_quiet (fail)
              go_wp2
              refine ⟨⟨k + 1, by omega, by simp, ?_, q + nq, rfl⟩, by simp [intOf]; omega⟩
              simp [fnd, hN, hR]
          · have hN' : ((N k).toList == nm.toList) = false := by simpa using hN
            go_wp2
            go_quiet (fail)
            go_wp2
            refine ⟨⟨k + 1, by omega, by simp, ?_, q + nq, rfl⟩, by simp [intOf]; omega⟩
            simp [fnd, hN]
        · obtain rfl : k = len := by omega
          rw [hfound]
          have hx0 : w2.cell? ⟨w.heap.size, 0, none⟩ = some (.int .i64 id) := by simp only [World.cell?, hblk2]; rfl
          have hx4 : w2.cell? ⟨w.heap.size, 4, none⟩ = some (.int .i64 iw) := by simp only [World.cell?, hblk2]; rfl
          have hx5 : w2.cell? ⟨w.heap.size, 5, none⟩ = some (.int .i64 ih) := by simp only [World.cell?, hblk2]; rfl
          have hx6 : w2.cell? ⟨w.heap.size, 6, none⟩ = some (.slice pb pl pc) := by simp only [World.cell?, hblk2]; rfl
          have hf3 : w2.frozen? ⟨w.heap.size, 3, none⟩ = false := by simp only [World.frozen?, hblk2]; rfl
          have hbw : ∀ v, Below w.heap.size w ((w2.drewN q).setCell ⟨w.heap.size, 3, none⟩ v) := fun v => (below_drewN hle2 q).setCell (Nat.le_refl _) v
          have key2 : ∀ W, Below w.heap.size w W → Calls Tryz.prog 15 #[.agg #[.int .i64 id, .string nm, .int .i64 rule, .int .i64 n, .int .i64 iw, .int .i64 ih, .slice pb pl pc], .slice (some a) k cap] W fun e w' =>
              e = .returned (.tuple #[.int .i64 0, .bool false]) ∧ Below W.heap.size W w' := fun W hW => by
            have := wants_any a k cap N D R id nm rule n iw ih pb pl pc W (hl.mono hW hblk) (fun h => Nat.lt_of_lt_of_le (hblk h) hW.size) hlen
            rw [hag] at this
            exact this
          clear hblk2 hblock key hl hl1 hheap hag hw hfin hlq
          rcases hr with rfl | rfl
          · go_wp2_with (first | (go_at_call 15; refine (key2 _ (hbw _)).mono ?_; rintro e w3 ⟨rfl, hb3⟩) | (go_at_call 12; refine (awake_calls _).mono ?_; rintro e w4 ⟨rfl, hb4⟩))
            go_ret
            refine ⟨by simp, ?_⟩
            have h3 := (hbw (.int .i64 n)).trans (hb3.mono (hbw (.int .i64 n)).size)
            exact h3.trans (hb4.mono h3.size)
          · have hdiv : wrap64 (n.tdiv 100) = wrap64 (rev.tdiv 100) := fl_eq (by simpa [pred] using h5) (by omega) h4
            go_wp2_with (first | (go_at_call 15; refine (key2 _ (hbw _)).mono ?_; rintro e w3 ⟨rfl, hb3⟩) | (go_at_call 12; refine (awake_calls _).mono ?_; rintro e w4 ⟨rfl, hb4⟩))
            go_ret
            refine ⟨by simp, ?_⟩
            have h3 := (hbw (.int .i64 n)).trans (hb3.mono (hbw (.int .i64 n)).size)
            exact h3.trans (hb4.mono h3.size)
end Go.Proofs.YtamgdhphmkehcaaGreatDoor
