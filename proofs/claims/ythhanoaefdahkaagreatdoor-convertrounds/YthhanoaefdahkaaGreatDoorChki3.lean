/- law51: Check of the program, for every image. -/
import Derived.Test.YthhanoaefdahkaaGreatDoorChki2
namespace Go.Proofs.YthhanoaefdahkaaGreatDoor
open Go.RowKit

theorem okP_ok4 (P : Nat → Nat → Int) (j : Nat) : okP P j = ok4 (P j 0) (P j 1) (P j 2) (P j 3) := rfl
theorem okTo_stay {P : Nat → Nat → Int} : ∀ {n j : Nat}, j < n → okP P j = false → okTo P n = false
  | 0, j, h, _ => by omega
  | n + 1, j, h, hj => by
    by_cases e : j = n
    · subst e; simp [okTo, hj]
    · simp [okTo, okTo_stay (show j < n by omega) hj]

set_option maxHeartbeats 3200000 in
theorem check_any (iw ih : Int) (ao : Option Addr) (n c : Nat) (P : Nat → Nat → Int) (w : World) (him : Img w ao n c P) :
    Calls Tryz.prog 18 #[.agg #[.int .i64 iw, .int .i64 ih, .slice ao n c]] w fun e w' => e = .returned (.int .i64 (chkI iw ih n P)) ∧ Below w.heap.size w w' := by
  have hb1 : ∀ ob, Below w.heap.size w (w.alloc ob) := fun ob => (Below.refl _ _).alloc (Nat.le_refl _) _
  have ks := fun W => sides_any iw ih W
  cases hs : badSide iw ih
  · simp only [hs] at ks
    obtain ⟨b1, b2, b3, b4, a0, a1⟩ := area hs
    have hwr : wrap64 (iw * ih) = iw * ih := by unfold wrap64; omega
    by_cases hn : (n : Int) = iw * ih
    · have hc : chkI iw ih n P = if okTo P n = true then 0 else 2 := by unfold chkI; rw [if_neg (by simp [hs, hn])]
      obtain ⟨E, hE⟩ : ∃ E : Int, (if okTo P n = true then 0 else 2) = E := ⟨_, rfl⟩
      rw [hc, hE]
      clear hc
      have hwn : wrap64 (iw * ih) = (n : Int) := hwr.trans hn.symm
      have hn6 : n ≤ 65536 := by omega
      clear hwr hn a0 a1
      rcases him with ⟨rfl, rfl, rfl⟩ | ⟨a, rfl, hp⟩
      · go_enter Tryz.func18, Tryz.ntmps18
        go_wp2_with (go_at_call 38; refine (ks _).mono ?_; rintro e w2 ⟨rfl, rfl⟩)
        refine wp_loop_rounds 1 ?_
        rw [rounds_succ]
        go_wp2
        go_ret
        exact ⟨by rw [← hE]; rfl, hb1 _⟩
      · go_enter Tryz.func18, Tryz.ntmps18
        go_wp2_with (go_at_call 38; refine (ks _).mono ?_; rintro e w2 ⟨rfl, rfl⟩)
        go_loopw [25] (fun i wr => ∃ k : Nat, k ≤ n ∧ i = .int .i64 k ∧ okTo P k = true ∧ Below w.heap.size w wr) (fun i _ => n - (intOf i).toNat)
        case atStart => exact ⟨0, Nat.zero_le _, rfl, rfl, hb1 _⟩
        case round =>
          clear hwn
          obtain ⟨k, hk, rfl, hok, hbel⟩ := hrel
          have hpr := hp.mono hbel
          by_cases hkl : k < n
          · have h0 := hpr.c0 k hkl
            have h1 := hpr.c1 k hkl
            have h2 := hpr.c2 k hkl
            have h3 := hpr.c3 k hkl
            have hkl' : (k : Int) < (n : Int) := by omega
            have hbe : ∀ ob, Below w.heap.size w (wr.alloc ob) := fun ob => hbel.alloc hbel.size ob
            have kv := fun W => valid_any (P k 0) (P k 1) (P k 2) (P k 3) W
            rw [← okP_ok4] at kv
            cases hv : okP P k
            · simp only [hv] at kv
              have hfin : okTo P n = false := okTo_stay hkl hv
              go_wp2_with (go_at_call 39; refine (kv _).mono ?_; rintro e w2 ⟨rfl, hb2⟩)
              go_ret
              exact ⟨by rw [← hE, if_neg (by simp [hfin])]; rfl, (hbe _).trans (hb2.mono (hbe _).size)⟩
            · simp only [hv] at kv
              go_wp2_with (go_at_call 39; refine (kv _).mono ?_; rintro e w2 ⟨rfl, hb2⟩)
              exact ⟨⟨k + 1, by omega, by go_num, by simp [okTo, hok, hv], (hbe _).trans (hb2.mono (hbe _).size)⟩, by simp [intOf]; omega⟩
          · obtain rfl : k = n := by omega
            go_wp2
            go_ret
            exact ⟨by rw [← hE, if_pos hok]; rfl, hbel⟩
    · have hc : chkI iw ih n P = 15 := by unfold chkI; rw [if_pos (.inr hn)]
      rw [hc]
      obtain ⟨m, hm⟩ : ∃ m, iw * ih = m := ⟨_, rfl⟩
      have hwn : wrap64 (iw * ih) = m := hwr.trans hm
      have hne : ((n : Int) != m) = true := by rw [← hm]; simp [hn]
      clear hwr hn a0 a1 hm
      go_enter Tryz.func18, Tryz.ntmps18
      go_wp2_with (go_at_call 38; refine (ks _).mono ?_; rintro e w2 ⟨rfl, rfl⟩)
      go_ret
      exact ⟨rfl, hb1 _⟩
  · have hc : chkI iw ih n P = 15 := by unfold chkI; rw [if_pos (.inl hs)]
    rw [hc]
    simp only [hs] at ks
    go_enter Tryz.func18, Tryz.ntmps18
    go_wp2_with (go_at_call 38; refine (ks _).mono ?_; rintro e w2 ⟨rfl, rfl⟩)
    go_ret
    exact ⟨rfl, hb1 _⟩
end Go.Proofs.YthhanoaefdahkaaGreatDoor
