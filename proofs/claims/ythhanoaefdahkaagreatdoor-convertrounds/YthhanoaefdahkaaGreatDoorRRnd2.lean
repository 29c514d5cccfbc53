/- law51: Round of the specification at the depths 8 and 16. -/
import Derived.Test.YthhanoaefdahkaaGreatDoorRRnd
import Derived.Test.YthhanoaefdahkaaGreatDoorSame
import Derived.OwnWalk
import Derived.Deep.QuietTactic
namespace Go.Proofs.YthhanoaefdahkaaGreatDoor
open Go.RowKit
theorem set_third {W : World} {b : Nat} {x y z u : Value} {t : TypeId} (h : W.heap[b]? = some (.cells #[x, y, z] t (0, 0))) : (W.setCell ⟨b, 2, none⟩ u).heap[b]? = some (.cells #[x, y, u] t (0, 0)) := by
  simp [World.setCell, Array.getElem?_modify, h]
set_option maxRecDepth 100000 in
set_option maxHeartbeats 6400000 in
theorem rround_16 (iw ih : Int) (ao : Option Addr) (n c : Nat) (P : Nat → Nat → Int) (hn : n ≤ 65536) (w : World) (him : Img w ao n c P)
    (kc : ∀ W, Below w.heap.size w W → Calls Tryz.prog 22 #[.agg #[.int .i64 iw, .int .i64 ih, .slice ao n c]] W fun e w' => e = .returned (.int .i64 0) ∧ Below W.heap.size W w') :
    Calls Tryz.prog 10 #[.agg #[.int .i64 iw, .int .i64 ih, .slice ao n c], .int .i64 16] w fun e w' => ∃ ao' c', e = .returned (.tuple #[.agg #[.int .i64 iw, .int .i64 ih, .slice ao' n c'], .int .i64 0]) ∧ Img w' ao' n c' (P) ∧ Below w.heap.size w w' := by
  have hb1 : ∀ ob, Below w.heap.size w (w.alloc ob) := fun ob => (Below.refl _ _).alloc (Nat.le_refl _) _
  have hb2 : ∀ ob o2, Below w.heap.size w ((w.alloc ob).alloc o2) := fun ob o2 => (hb1 ob).alloc (hb1 ob).size _
  obtain ⟨i35, z35, j1, j2, j3, j4, j5⟩ := info35
  go_enter Tryz.func10, Tryz.ntmps10
  go_wp2_with (go_at_call 22; refine (kc _ (hb2 _ _)).mono ?_; rintro e w3 ⟨rfl, hb3⟩
               have g3 := (hb2 _ _).trans (hb3.mono (hb2 _ _).size)
               have z2 := keep_b hb3 (keep_a (heap_alloc_new w _) _)
               have z4 := keep_b hb3 (two_new w _ _)
               obtain ⟨d0, d1, d2⟩ := three_cells z2
               clear hb3)
  have hlt2 : w.heap.size + 2 ≤ w3.heap.size := (Array.getElem?_eq_some_iff.1 z4).1
  clear d0 d1 d2
  go_loopw [8] (fun i wr => ∃ (k : Nat) (v : Value), k ≤ n ∧ i = .int .i64 k ∧ wr.heap[w3.heap.size]? = some (.cells #[.int .i64 iw, .int .i64 ih, v] 27 (0, 0)) ∧ wr.ownsRow (w3.heap.size + 1) 35 4 v k (cellsP (P) k) ∧
      wr.heap[w.heap.size]? = some (.cells #[.int .i64 iw, .int .i64 ih, .slice ao n c] 27 (0, 0)) ∧ wr.heap[w.heap.size + 1]? = some Z27 ∧ Below w.heap.size w wr) (fun i _ => n - (intOf i).toNat)
  case atStart => exact ⟨0, .slice none 0 0, Nat.zero_le _, rfl, heap_alloc_new w3 _, World.ownsRow_nil _ _ _ _, keep_a z2 _, keep_a z4 _, g3.alloc g3.size _⟩
  case round =>
    clear z2 z4 g3
    obtain ⟨k, v, hk, rfl, hB, hO, hI, hZ, hbel⟩ := hrel
    by_cases hkl : k < n
    · obtain ⟨a, rfl, hp⟩ := (him.mono hbel).some' (by omega)
      have h0 := hp.c0 k hkl
      have h1 := hp.c1 k hkl
      have h2 := hp.c2 k hkl
      have h3 := hp.c3 k hkl
      obtain ⟨d0, d1, d2⟩ := three_cells hI
      have hkk0 : (0 : Int) ≤ (k : Int) := Int.natCast_nonneg _
      have hkl' : (k : Int) < (n : Int) := by omega
      go_upto_if 41 with (fail)
      go_cut [] from 40 to 58 (fun wx => wx.heap[wr.heap.size]? = some (.cells #[.int .i64 (P k 0), .int .i64 (P k 1), .int .i64 (P k 2), .int .i64 (P k 3)] 35 (0, 0)) ∧ Below wr.heap.size wr wx)
      case first =>
        clear hB hO hI hZ d0 d1 d2
        go_wp2
        go_meet
        exact ⟨heap_alloc_new wr _, (Below.refl _ _).alloc (Nat.le_refl _) _⟩
      case rest =>
        obtain ⟨q4, BW⟩ := hcut
        have B7 := keep_b BW hB
        have I7 := keep_b BW hI
        have Z7 := keep_b BW hZ
        have O7 := own_below hO BW
        have G7 := hbel.trans (BW.mono hbel.size)
        have hlt7 : w3.heap.size < wc.heap.size := (Array.getElem?_eq_some_iff.1 B7).1
        obtain ⟨x0, x1, x2⟩ := three_cells B7
        obtain ⟨v0, v1, v2, v3⟩ := four_cells q4
        clear hB hO hI hZ hbel h0 h1 h2 h3 d0 d1 d2 hp
        go_wp2_with (at_builtin; refine wpList_append_own _ rfl (.tmp 60) (.tmp 62) 25 rfl (w3.heap.size + 1) 35 i35 z35 4 32 Tryz.underlying25 j1 j2 j3 j4 j5 (by decide) _ _ _ rfl (O7.alloc _) ⟨wc.heap.size, 0, none⟩ 1 1 [.int .i64 (P k 0), .int .i64 (P k 1), .int .i64 (P k 2), .int .i64 (P k 3)] rfl rfl (World.news_of_block (cs := #[.int .i64 (P k 0), .int .i64 (P k 1), .int .i64 (P k 2), .int .i64 (P k 3)]) (t := 35) (fr := (0, 0)) (heap_alloc_new wc _)) (by simp [Value.oneCell']) (by unfold maxLen; omega) (by omega) (by rw [size_alloc]; omega) ?_; intro v8 w8 hown8 hgrow8 _
                     obtain ⟨g8, c8, rfl, _, _⟩ := hown8.form (Nat.succ_pos k)
                     have E8 := grown_far (O7.alloc _) hgrow8 (Nat.lt_succ_self _) (keep_a B7 _)
                     obtain ⟨s0, s1, s2⟩ := three_cells E8
                     obtain ⟨f0, f1, f2⟩ := three_frozen E8)
        have O8 := own_keep (W' := w8.setCell ⟨w3.heap.size, 2, none⟩ (.slice (some ⟨g8, 0, none⟩) (k + 1) c8)) hown8 fun j hj _ => far_set (by show j ≠ w3.heap.size; omega)
        exact ⟨⟨k + 1, .slice (some ⟨g8, 0, none⟩) (k + 1) c8, by omega, by go_num, set_third E8, by rw [cellsP_succ]; exact O8,
          (far_set (by show w.heap.size ≠ w3.heap.size; omega)).trans (grown_far (O7.alloc _) hgrow8 (by omega) (keep_a I7 _)),
          (far_set (by show w.heap.size + 1 ≠ w3.heap.size; omega)).trans (grown_far (O7.alloc _) hgrow8 (by omega) (keep_a Z7 _)),
          (grown_below (O7.alloc _) hgrow8 (by omega) (by rw [size_alloc]; omega) (G7.alloc G7.size _)).setCell (show w.heap.size ≤ w3.heap.size by omega) _⟩, by simp [intOf]; omega⟩
    · obtain rfl : k = n := by omega
      obtain ⟨ao', c', rfl, hOw⟩ := owns_own hO
      obtain ⟨x0, x1, x2⟩ := three_cells hB
      obtain ⟨d0, d1, d2⟩ := three_cells hI
      obtain ⟨c0, c1, c2⟩ := three_cells hZ
      obtain ⟨f0, f1, f2⟩ := three_frozen hZ
      clear hB hI hZ hO
      go_wp2
      refine bodyPost_ret (v := .tuple #[.agg #[.int .i64 iw, .int .i64 ih, .slice ao' k c'], .int .i64 0]) ?_ rfl ⟨ao', c', rfl, (hOw.step (base' := 0) (Nat.zero_le _) fun j hj _ => ?_).img, ?_⟩
      · rw [results_cell_tmp rfl]
        go_simp
      · rw [far_set (by show j ≠ w.heap.size + 1; omega), far_set (by show j ≠ w.heap.size + 1; omega), far_set (by show j ≠ w.heap.size + 1; omega)]
      · exact ((hbel.setCell (by simp) _).setCell (by simp) _).setCell (by simp) _
set_option maxRecDepth 100000 in
set_option maxHeartbeats 6400000 in
theorem rround_8 (iw ih : Int) (ao : Option Addr) (n c : Nat) (P : Nat → Nat → Int) (hn : n ≤ 65536) (hok : okTo P n = true) (w : World) (him : Img w ao n c P)
    (kc : ∀ W, Below w.heap.size w W → Calls Tryz.prog 22 #[.agg #[.int .i64 iw, .int .i64 ih, .slice ao n c]] W fun e w' => e = .returned (.int .i64 0) ∧ Below W.heap.size W w') :
    Calls Tryz.prog 10 #[.agg #[.int .i64 iw, .int .i64 ih, .slice ao n c], .int .i64 8] w fun e w' => ∃ ao' c', e = .returned (.tuple #[.agg #[.int .i64 iw, .int .i64 ih, .slice ao' n c'], .int .i64 0]) ∧ Img w' ao' n c' (rp P) ∧ Below w.heap.size w w' := by
  have hb1 : ∀ ob, Below w.heap.size w (w.alloc ob) := fun ob => (Below.refl _ _).alloc (Nat.le_refl _) _
  have hb2 : ∀ ob o2, Below w.heap.size w ((w.alloc ob).alloc o2) := fun ob o2 => (hb1 ob).alloc (hb1 ob).size _
  obtain ⟨i35, z35, j1, j2, j3, j4, j5⟩ := info35
  go_enter Tryz.func10, Tryz.ntmps10
  go_wp2_with (go_at_call 22; refine (kc _ (hb2 _ _)).mono ?_; rintro e w3 ⟨rfl, hb3⟩
               have g3 := (hb2 _ _).trans (hb3.mono (hb2 _ _).size)
               have z2 := keep_b hb3 (keep_a (heap_alloc_new w _) _)
               have z4 := keep_b hb3 (two_new w _ _)
               obtain ⟨d0, d1, d2⟩ := three_cells z2
               clear hb3)
  have hlt2 : w.heap.size + 2 ≤ w3.heap.size := (Array.getElem?_eq_some_iff.1 z4).1
  clear d0 d1 d2
  go_loopw [8] (fun i wr => ∃ (k : Nat) (v : Value), k ≤ n ∧ i = .int .i64 k ∧ wr.heap[w3.heap.size]? = some (.cells #[.int .i64 iw, .int .i64 ih, v] 27 (0, 0)) ∧ wr.ownsRow (w3.heap.size + 1) 35 4 v k (cellsP (rp P) k) ∧
      wr.heap[w.heap.size]? = some (.cells #[.int .i64 iw, .int .i64 ih, .slice ao n c] 27 (0, 0)) ∧ wr.heap[w.heap.size + 1]? = some Z27 ∧ Below w.heap.size w wr) (fun i _ => n - (intOf i).toNat)
  case atStart => exact ⟨0, .slice none 0 0, Nat.zero_le _, rfl, heap_alloc_new w3 _, World.ownsRow_nil _ _ _ _, keep_a z2 _, keep_a z4 _, g3.alloc g3.size _⟩
  case round =>
    clear z2 z4 g3
    obtain ⟨k, v, hk, rfl, hB, hO, hI, hZ, hbel⟩ := hrel
    by_cases hkl : k < n
    · obtain ⟨a, rfl, hp⟩ := (him.mono hbel).some' (by omega)
      have h0 := hp.c0 k hkl
      have h1 := hp.c1 k hkl
      have h2 := hp.c2 k hkl
      have h3 := hp.c3 k hkl
      obtain ⟨d0, d1, d2⟩ := three_cells hI
      have hkk0 : (0 : Int) ≤ (k : Int) := Int.natCast_nonneg _
      have hkl' : (k : Int) < (n : Int) := by omega
      obtain ⟨p0, hp0⟩ : ∃ q, rp P k 0 = q := ⟨_, rfl⟩
      obtain ⟨p1, hp1⟩ : ∃ q, rp P k 1 = q := ⟨_, rfl⟩
      obtain ⟨p2, hp2⟩ : ∃ q, rp P k 2 = q := ⟨_, rfl⟩
      obtain ⟨p3, hp3⟩ : ∃ q, rp P k 3 = q := ⟨_, rfl⟩
      go_upto_if 41 with (fail)
      go_cut [] from 40 to 58 (fun wx => wx.heap[wr.heap.size]? = some (.cells #[.int .i64 p0, .int .i64 p1, .int .i64 p2, .int .i64 p3] 35 (0, 0)) ∧ Below wr.heap.size wr wx)
      case first =>
        clear hB hO hI hZ d0 d1 d2
        have hv := okTo_down hok hkl
        have k0 := fun W => eight_any (P k 0) (okP_at hv (by omega)).1 (okP_at hv (by omega)).2 W
        have k1 := fun W => eight_any (P k 1) (okP_at hv (by omega)).1 (okP_at hv (by omega)).2 W
        have k2 := fun W => eight_any (P k 2) (okP_at hv (by omega)).1 (okP_at hv (by omega)).2 W
        have k3 := fun W => eight_any (P k 3) (okP_at hv (by omega)).1 (okP_at hv (by omega)).2 W
        obtain ⟨r0, hr0⟩ : ∃ r, rr (P k 0) = r := ⟨_, rfl⟩
        obtain ⟨r1, hr1⟩ : ∃ r, rr (P k 1) = r := ⟨_, rfl⟩
        obtain ⟨r2, hr2⟩ : ∃ r, rr (P k 2) = r := ⟨_, rfl⟩
        obtain ⟨r3, hr3⟩ : ∃ r, rr (P k 3) = r := ⟨_, rfl⟩
        have hcase : (r3 = 0 ∧ p0 = 0 ∧ p1 = 0 ∧ p2 = 0 ∧ p3 = 0) ∨ (r3 ≠ 0 ∧ p0 = r0 ∧ p1 = r1 ∧ p2 = r2 ∧ p3 = r3) := by
          rw [← hp0, ← hp1, ← hp2, ← hp3]
          unfold rp
          rw [hr0, hr1, hr2, hr3]
          by_cases h : r3 = 0
          · left; simp [h]
          · right; simp [h]
        simp only [hr0] at k0
        simp only [hr1] at k1
        simp only [hr2] at k2
        simp only [hr3] at k3
        clear hp0 hp1 hp2 hp3 hr0 hr1 hr2 hr3 h0 h1 h2 h3 hp him hok
        go_wp2
        go_cut [] from 42 to 54 (fun wx => wx.heap[wr.heap.size]? = some (.cells #[.int .i64 r0, .int .i64 r1, .int .i64 r2, .int .i64 r3] 35 (0, 0)) ∧ Below wr.heap.size wr wx)
        case first =>
          clear hcase
          refine region_quiet_tail 13 mixed51 (by kernel_rfl) ?_
          simp only [List.take_succ_cons, List.take_zero, List.drop_succ_cons, List.drop_zero]
          repeat (quiet_step (first
            | (go_at_call 23; with_reducible exact Calls.quiet_of (k0 _))
            | (go_at_call 23; with_reducible exact Calls.quiet_of (k1 _))
            | (go_at_call 23; with_reducible exact Calls.quiet_of (k2 _))
            | (go_at_call 23; with_reducible exact Calls.quiet_of (k3 _))))
          refine wpQuiet_nil ?_
          intro nq
          generalize hWd : World.drewN (wr.alloc (.cells #[.int .i64 (P k 0), .int .i64 (P k 1), .int .i64 (P k 2), .int .i64 (P k 3)] 35)) nq = W
          have q4 : W.heap[wr.heap.size]? = some (.cells #[.int .i64 (P k 0), .int .i64 (P k 1), .int .i64 (P k 2), .int .i64 (P k 3)] 35 (0, 0)) := by rw [← hWd]; exact heap_alloc_new wr _
          have BW : Below wr.heap.size wr W := by rw [← hWd]; exact below_drewN ((Below.refl _ _).alloc (Nat.le_refl _) _) _
          clear hWd
          change wpList _ _ _ _ _ W
          obtain ⟨v0, v1, v2, v3⟩ := four_cells q4
          obtain ⟨y0, y1, y2, y3⟩ := four_frozen q4
          clear k0 k1 k2 k3
          go_wp2
          go_meet
          exact ⟨set_four q4, (((BW.setCell (Nat.le_refl _) _).setCell (Nat.le_refl _) _).setCell (Nat.le_refl _) _).setCell (Nat.le_refl _) _⟩
        case rest =>
          obtain ⟨q4, BW⟩ := hcut
          obtain ⟨v0, v1, v2, v3⟩ := four_cells q4
          obtain ⟨y0, y1, y2, y3⟩ := four_frozen q4
          clear k0 k1 k2 k3
          rcases hcase with ⟨rfl, rfl, rfl, rfl, rfl⟩ | ⟨hz, rfl, rfl, rfl, rfl⟩
          · go_wp2
            go_meet
            exact ⟨set_four q4, (((BW.setCell (Nat.le_refl _) _).setCell (Nat.le_refl _) _).setCell (Nat.le_refl _) _).setCell (Nat.le_refl _) _⟩
          · have hzb : (p3 == 0) = false := beq_eq_false_iff_ne.2 hz
            go_wp2
            go_meet
            exact ⟨q4, BW⟩
      case rest =>
        obtain ⟨q4, BW⟩ := hcut
        have B7 := keep_b BW hB
        have I7 := keep_b BW hI
        have Z7 := keep_b BW hZ
        have O7 := own_below hO BW
        have G7 := hbel.trans (BW.mono hbel.size)
        have hlt7 : w3.heap.size < wc.heap.size := (Array.getElem?_eq_some_iff.1 B7).1
        obtain ⟨x0, x1, x2⟩ := three_cells B7
        obtain ⟨v0, v1, v2, v3⟩ := four_cells q4
        clear hB hO hI hZ hbel h0 h1 h2 h3 d0 d1 d2 hp
        go_wp2_with (at_builtin; refine wpList_append_own _ rfl (.tmp 60) (.tmp 62) 25 rfl (w3.heap.size + 1) 35 i35 z35 4 32 Tryz.underlying25 j1 j2 j3 j4 j5 (by decide) _ _ _ rfl (O7.alloc _) ⟨wc.heap.size, 0, none⟩ 1 1 [.int .i64 p0, .int .i64 p1, .int .i64 p2, .int .i64 p3] rfl rfl (World.news_of_block (cs := #[.int .i64 p0, .int .i64 p1, .int .i64 p2, .int .i64 p3]) (t := 35) (fr := (0, 0)) (heap_alloc_new wc _)) (by simp [Value.oneCell']) (by unfold maxLen; omega) (by omega) (by rw [size_alloc]; omega) ?_; intro v8 w8 hown8 hgrow8 _
                     obtain ⟨g8, c8, rfl, _, _⟩ := hown8.form (Nat.succ_pos k)
                     have E8 := grown_far (O7.alloc _) hgrow8 (Nat.lt_succ_self _) (keep_a B7 _)
                     obtain ⟨s0, s1, s2⟩ := three_cells E8
                     obtain ⟨f0, f1, f2⟩ := three_frozen E8)
        have O8 := own_keep (W' := w8.setCell ⟨w3.heap.size, 2, none⟩ (.slice (some ⟨g8, 0, none⟩) (k + 1) c8)) hown8 fun j hj _ => far_set (by show j ≠ w3.heap.size; omega)
        exact ⟨⟨k + 1, .slice (some ⟨g8, 0, none⟩) (k + 1) c8, by omega, by go_num, set_third E8, by rw [cellsP_succ, hp0, hp1, hp2, hp3]; exact O8,
          (far_set (by show w.heap.size ≠ w3.heap.size; omega)).trans (grown_far (O7.alloc _) hgrow8 (by omega) (keep_a I7 _)),
          (far_set (by show w.heap.size + 1 ≠ w3.heap.size; omega)).trans (grown_far (O7.alloc _) hgrow8 (by omega) (keep_a Z7 _)),
          (grown_below (O7.alloc _) hgrow8 (by omega) (by rw [size_alloc]; omega) (G7.alloc G7.size _)).setCell (show w.heap.size ≤ w3.heap.size by omega) _⟩, by simp [intOf]; omega⟩
    · obtain rfl : k = n := by omega
      obtain ⟨ao', c', rfl, hOw⟩ := owns_own hO
      obtain ⟨x0, x1, x2⟩ := three_cells hB
      obtain ⟨d0, d1, d2⟩ := three_cells hI
      obtain ⟨c0, c1, c2⟩ := three_cells hZ
      obtain ⟨f0, f1, f2⟩ := three_frozen hZ
      clear hB hI hZ hO
      go_wp2
      refine bodyPost_ret (v := .tuple #[.agg #[.int .i64 iw, .int .i64 ih, .slice ao' k c'], .int .i64 0]) ?_ rfl ⟨ao', c', rfl, (hOw.step (base' := 0) (Nat.zero_le _) fun j hj _ => ?_).img, ?_⟩
      · rw [results_cell_tmp rfl]
        go_simp
      · rw [far_set (by show j ≠ w.heap.size + 1; omega), far_set (by show j ≠ w.heap.size + 1; omega), far_set (by show j ≠ w.heap.size + 1; omega)]
      · exact ((hbel.setCell (by simp) _).setCell (by simp) _).setCell (by simp) _
end Go.Proofs.YthhanoaefdahkaaGreatDoor
