/- law51: Check of the specification, for every image. -/
import Derived.Test.YthhanoaefdahkaaGreatDoorChki3
namespace Go.Proofs.YthhanoaefdahkaaGreatDoor
open Go.RowKit

set_option maxHeartbeats 3200000 in

macro "go_rbad " h:term : tactic => `(tactic| (go_enter Tryz.func22, Tryz.ntmps22; go_wp2; all_goals go_ret; all_goals exact ⟨rfl, $h⟩))
set_option maxHeartbeats 3200000 in
theorem rcheck_bad (iw ih : Int) (ao : Option Addr) (n c : Nat) (w : World) (hs : badSide iw ih = true) :
    Calls Tryz.prog 22 #[.agg #[.int .i64 iw, .int .i64 ih, .slice ao n c]] w fun e w' => e = .returned (.int .i64 15) ∧ Below w.heap.size w w' := by
  have hb1 : ∀ ob, Below w.heap.size w (w.alloc ob) := fun ob => (Below.refl _ _).alloc (Nat.le_refl _) _
  have hs := of_decide_eq_true hs
  by_cases h1 : iw < 0
  · go_rbad (hb1 _)
  · by_cases h2 : 256 < iw
    · go_rbad (hb1 _)
    · by_cases h3 : ih < 0
      · go_rbad (hb1 _)
      · by_cases h4 : 256 < ih
        · go_rbad (hb1 _)
        · by_cases h5 : iw = 0
          · have h6 : ih ≠ 0 := by omega
            subst h5
            go_rbad (hb1 _)
          · have h6 : ih = 0 := by omega
            subst h6
            go_rbad (hb1 _)

set_option maxHeartbeats 3200000 in
theorem rcheck_any (iw ih : Int) (ao : Option Addr) (n c : Nat) (P : Nat → Nat → Int) (w : World) (him : Img w ao n c P) :
    Calls Tryz.prog 22 #[.agg #[.int .i64 iw, .int .i64 ih, .slice ao n c]] w fun e w' => e = .returned (.int .i64 (chkI iw ih n P)) ∧ Below w.heap.size w w' := by
  have hb1 : ∀ ob, Below w.heap.size w (w.alloc ob) := fun ob => (Below.refl _ _).alloc (Nat.le_refl _) _
  cases hs : badSide iw ih
  · obtain ⟨b1, b2, b3, b4, a0, a1⟩ := area hs
    have hwr : wrap64 (iw * ih) = iw * ih := by unfold wrap64; omega
    have hz : (iw == 0) = (ih == 0) := by
      have h := of_decide_eq_false hs
      by_cases e : iw = 0
      · have : ih = 0 := by omega
        subst e this; rfl
      · have : ih ≠ 0 := by omega
        rw [beq_eq_false_iff_ne.2 e, beq_eq_false_iff_ne.2 this]
    obtain ⟨z, hz1⟩ : ∃ z, (ih == 0) = z := ⟨_, rfl⟩
    rw [hz1] at hz
    have c1 : ¬ iw < 0 := by omega
    have c2 : ¬ 256 < iw := by omega
    have c3 : ¬ ih < 0 := by omega
    have c4 : ¬ 256 < ih := by omega
    by_cases hn : (n : Int) = iw * ih
    · have hc : chkI iw ih n P = if okTo P n = true then 0 else 2 := by unfold chkI; rw [if_neg (by simp [hs, hn])]
      obtain ⟨E, hE⟩ : ∃ E : Int, (if okTo P n = true then 0 else 2) = E := ⟨_, rfl⟩
      rw [hc, hE]
      clear hc
      have hwn : wrap64 (iw * ih) = (n : Int) := hwr.trans hn.symm
      have hn6 : n ≤ 65536 := by omega
      clear hwr hn a0 a1
      have F1 := heap_alloc_new w (.cells #[.int .i64 iw, .int .i64 ih, .slice ao n c] 27)
      rcases him with ⟨rfl, rfl, rfl⟩ | ⟨a, rfl, hp⟩
      · go_enter Tryz.func22, Tryz.ntmps22
        go_wp2
        refine wp_loop_rounds 1 ?_
        rw [rounds_succ]
        go_wp2
        go_ret
        exact ⟨by rw [← hE]; rfl, hb1 _⟩
      · go_enter Tryz.func22, Tryz.ntmps22
        go_wp2
        go_loopw [3] (fun i wr => ∃ k : Nat, k ≤ n ∧ i = .int .i64 k ∧ okTo P k = true ∧ wr.heap[w.heap.size]? = some (.cells #[.int .i64 iw, .int .i64 ih, .slice (some a) n c] 27 (0, 0)) ∧ Below w.heap.size w wr) (fun i _ => n - (intOf i).toNat)
        case atStart => exact ⟨0, Nat.zero_le _, rfl, rfl, F1, hb1 _⟩
        case round =>
          clear hwn
          obtain ⟨k, hk, rfl, hok, E1, hbel⟩ := hrel
          have hpr := hp.mono hbel
          obtain ⟨x0, x1, x2⟩ := three_cells E1
          by_cases hkl : k < n
          · have h0 := hpr.c0 k hkl
            have h1 := hpr.c1 k hkl
            have h2 := hpr.c2 k hkl
            have h3 := hpr.c3 k hkl
            have hk0 : (0 : Int) ≤ (k : Int) := Int.natCast_nonneg _
            have hkl' : (k : Int) < (n : Int) := by omega
            have kv := fun W => rvalid_any (P k 0) (P k 1) (P k 2) (P k 3) W
            rw [← okP_ok4] at kv
            cases hv : okP P k
            · simp only [hv] at kv
              have hfin : okTo P n = false := okTo_stay hkl hv
              go_wp2_with (go_at_call 43; refine (kv _).mono ?_; rintro e w2 ⟨rfl, hb2⟩)
              go_ret
              exact ⟨by rw [← hE, if_neg (by simp [hfin])]; rfl, hbel.trans (hb2.mono hbel.size)⟩
            · simp only [hv] at kv
              go_wp2_with (go_at_call 43; refine (kv _).mono ?_; rintro e w2 ⟨rfl, hb2⟩)
              exact ⟨⟨k + 1, by omega, by go_num, by simp [okTo, hok, hv], keep_b hb2 E1, hbel.trans (hb2.mono hbel.size)⟩, by simp [intOf]; omega⟩
          · obtain rfl : k = n := by omega
            go_wp2
            go_ret
            exact ⟨by rw [← hE, if_pos hok]; rfl, hbel⟩
    · have hc : chkI iw ih n P = 15 := by unfold chkI; rw [if_pos (.inr hn)]
      rw [hc]
      obtain ⟨m, hm⟩ : ∃ m, iw * ih = m := ⟨_, rfl⟩
      have hwn : wrap64 (iw * ih) = m := hwr.trans hm
      have hne : ((n : Int) != m) = true := by rw [← hm]; simp [hn]
      clear hwr hn a0 a1 hm
      go_enter Tryz.func22, Tryz.ntmps22
      go_wp2
      go_ret
      exact ⟨rfl, hb1 _⟩
  · have hc : chkI iw ih n P = 15 := by unfold chkI; rw [if_pos (.inl hs)]
    rw [hc]
    exact rcheck_bad iw ih ao n c w hs
end Go.Proofs.YthhanoaefdahkaaGreatDoor
