/- law51: Round of the program at depth 8. -/
import Derived.Test.YthhanoaefdahkaaGreatDoorRnd2
import Derived.StillTailTactics
import Derived.Lib.Hide
namespace Go.Proofs.YthhanoaefdahkaaGreatDoor
open Go.RowKit

theorem mixed51 : Tryz.prog.follows .mixedOrders = true := by kernel_rfl
theorem four_cells {W : World} {b : Nat} {x y z u : Value} {t : TypeId} (h : W.heap[b]? = some (.cells #[x, y, z, u] t (0, 0))) : W.cell? ⟨b, 0, none⟩ = some x ∧ W.cell? ⟨b, 1, none⟩ = some y ∧ W.cell? ⟨b, 2, none⟩ = some z ∧ W.cell? ⟨b, 3, none⟩ = some u := by simp [World.cell?, h]
theorem four_frozen {W : World} {b : Nat} {x y z u : Value} {t : TypeId} (h : W.heap[b]? = some (.cells #[x, y, z, u] t (0, 0))) : W.frozen? ⟨b, 0, none⟩ = false ∧ W.frozen? ⟨b, 1, none⟩ = false ∧ W.frozen? ⟨b, 2, none⟩ = false ∧ W.frozen? ⟨b, 3, none⟩ = false := by simp [World.frozen?, h]
theorem set_four {W : World} {b : Nat} {x y z u x' y' z' u' : Value} {t : TypeId} (h : W.heap[b]? = some (.cells #[x, y, z, u] t (0, 0))) :
    ((((W.setCell ⟨b, 0, none⟩ x').setCell ⟨b, 1, none⟩ y').setCell ⟨b, 2, none⟩ z').setCell ⟨b, 3, none⟩ u').heap[b]? = some (.cells #[x', y', z', u'] t (0, 0)) := by
  simp [World.setCell, Array.getElem?_modify, h]
theorem put4_far {W : World} {p : Addr} {x0 x1 x2 x3 : Value} {b : Nat} (h : b ≠ p.block) : ((((W.setCell p x0).setCell ⟨p.block, p.off + 1, none⟩ x1).setCell ⟨p.block, p.off + 2, none⟩ x2).setCell ⟨p.block, p.off + 3, none⟩ x3).heap[b]? = W.heap[b]? := by
  rw [far_set (by exact h), far_set (by exact h), far_set (by exact h), far_set h]
theorem put4_below {w W : World} {B : Nat} {p : Addr} {x0 x1 x2 x3 : Value} (hb : Below B w W) (h : B ≤ p.block) : Below B w ((((W.setCell p x0).setCell ⟨p.block, p.off + 1, none⟩ x1).setCell ⟨p.block, p.off + 2, none⟩ x2).setCell ⟨p.block, p.off + 3, none⟩ x3) :=
  (((hb.setCell h _).setCell (by exact h) _).setCell (by exact h) _).setCell (by exact h) _
/-- The first k pixels rounded, the others as they were. -/
def mix (P : Nat → Nat → Int) (k j q : Nat) : Int := if j < k then rp P j q else P j q
set_option maxRecDepth 100000 in
set_option maxHeartbeats 3200000 in
theorem round_8 (iw ih : Int) (ao : Option Addr) (n c : Nat) (P : Nat → Nat → Int) (hn : n ≤ 65536) (hok : okTo P n = true) (w : World) (him : Img w ao n c P)
    (kc : ∀ W, Below w.heap.size w W → Calls Tryz.prog 18 #[.agg #[.int .i64 iw, .int .i64 ih, .slice ao n c]] W fun e w' => e = .returned (.int .i64 0) ∧ Below W.heap.size W w') :
    Calls Tryz.prog 9 #[.agg #[.int .i64 iw, .int .i64 ih, .slice ao n c], .int .i64 8] w fun e w' => ∃ ao' c', e = .returned (.tuple #[.agg #[.int .i64 iw, .int .i64 ih, .slice ao' n c'], .int .i64 0]) ∧ Img w' ao' n c' (rp P) ∧ Below w.heap.size w w' := by
  have hb1 : ∀ ob, Below w.heap.size w (w.alloc ob) := fun ob => (Below.refl _ _).alloc (Nat.le_refl _) _
  have hb2 : ∀ ob o2, Below w.heap.size w ((w.alloc ob).alloc o2) := fun ob o2 => (hb1 ob).alloc (hb1 ob).size _
  obtain ⟨i35, z35, j1, j2, j3, j4, j5⟩ := info35
  go_enter Tryz.func9, Tryz.ntmps9
  go_wp2_with (go_at_call 18; refine (kc _ (hb2 _ _)).mono ?_; rintro e w3 ⟨rfl, hb3⟩
               have g3 := (hb2 _ _).trans (hb3.mono (hb2 _ _).size)
               have z2 := keep_b hb3 (keep_a (heap_alloc_new w _) _)
               have z4 := keep_b hb3 (two_new w _ _)
               obtain ⟨d0, d1, d2⟩ := three_cells z2
               obtain ⟨c0, c1, c2⟩ := three_cells z4
               obtain ⟨f0, f1, f2⟩ := three_frozen z4
               have him3 : Img w3.drew ao n c P := him.mono (below_drew g3)
               have hltw : w.heap.size < w3.heap.size := (by have h := (Array.getElem?_eq_some_iff.1 z4).1; omega)
               have hlt : w.heap.size ≠ w3.heap.size := Nat.ne_of_lt hltw
               have hbz : Below w3.heap.size w3 (w3.alloc (.cells #[.int .i64 0, .int .i64 0, .slice none 0 0] 27)) := (Below.refl _ _).alloc (Nat.le_refl _) _
               have him7 : Img (w3.alloc (.cells #[.int .i64 0, .int .i64 0, .slice none 0 0] 27)).drew ao n c P := (him.mono g3).mono (below_drew hbz)
               have y7 := heap_alloc_new w3 (.cells #[.int .i64 0, .int .i64 0, .slice none 0 0] 27)
               clear hb3 f0 f1 f2 c0 c1 c2)
  have hlt2 : w.heap.size + 2 ≤ w3.heap.size := (Array.getElem?_eq_some_iff.1 z4).1
  go_cut [7] from 24 to 31 (fun s7 wx => ∃ (b7 : Nat) (ao' : Option Addr) (c' : Nat), s7 = .pointer (some ⟨b7, 0, none⟩) ∧ wx.heap[b7]? = some (.cells #[.int .i64 iw, .int .i64 ih, .slice ao' n c'] 27 (0, 0)) ∧ Own (w.heap.size + 2) wx ao' n c' P ∧ wx.heap[w.heap.size + 1]? = some Z27 ∧ w.heap.size + 2 ≤ b7 ∧ Below w.heap.size w wx)
  case first =>
    go_region_held3 (fun w' => w'.cell? ⟨w.heap.size, 0, none⟩ = some (.int .i64 iw) ∧ w'.cell? ⟨w.heap.size, 1, none⟩ = some (.int .i64 ih) ∧ w'.cell? ⟨w.heap.size, 2, none⟩ = some (.slice ao n c))
      (first
        | go_keep
        | (go_split_ands; (with_reducible refine ⟨cell_keep hb5 ?_, cell_keep hb5 ?_, cell_keep hb5 ?_⟩) <;> assumption)
        | (go_split_ands; (with_reducible refine ⟨cell_refill (o := Z27) hlt5 ?_, cell_refill (o := Z27) hlt5 ?_, cell_refill (o := Z27) hlt5 ?_⟩) <;> assumption)
        | (go_split_ands; (with_reducible refine ⟨cell_alloc ?_, cell_alloc ?_, cell_alloc ?_⟩) <;> assumption)
        | (go_split_ands; (with_reducible refine ⟨cell_set hlt (cell_set hlt (cell_set hlt ?_)), cell_set hlt (cell_set hlt (cell_set hlt ?_)), cell_set hlt (cell_set hlt (cell_set hlt ?_))⟩) <;> assumption))
      (first
        | (refine step_append_img _ rfl (.const (.slice none 0 0)) (.tmp 29) 25 rfl i35 z35 Tryz.underlying25 j1 j2 j3 j4 j5 rfl ao n c P rfl him3 hn ?_; intro ao' c' w5 hown5 hb5; have hlt5 : w.heap.size ≠ w5.heap.size := Nat.ne_of_lt (Nat.lt_of_lt_of_le hltw hb5.size))
        | (refine step_append_img _ rfl (.const (.slice none 0 0)) (.tmp 29) 25 rfl i35 z35 Tryz.underlying25 j1 j2 j3 j4 j5 rfl ao n c P rfl him7 hn ?_; intro ao' c' w5 hown5 hb5; have q7 : w5.heap[w3.heap.size]? = some Z27 := keep_b hb5 (show (w3.alloc Z27).drew.heap[w3.heap.size]? = some Z27 from y7); obtain ⟨e0, e1, e2⟩ := three_cells q7; obtain ⟨t0, t1, t2⟩ := three_frozen q7))
    all_goals go_wp2
    all_goals go_meet
    · have G5 : Below w.heap.size w w5 := (below_drew g3).trans (hb5.mono (below_drew g3).size)
      have hz5 : w3.heap.size ≤ w5.heap.size := hb5.size
      exact ⟨_, _, _, rfl, heap_alloc_new w5 _, hown5.step (show w.heap.size + 2 ≤ w3.heap.size from hlt2) (fun k _ hk => Below.heap_alloc _ _ _ hk), keep_a (keep_b hb5 (show w3.drew.heap[w.heap.size + 1]? = some Z27 from z4)) _, by omega, G5.alloc G5.size _⟩
    · have G7 : Below w.heap.size w (w3.alloc Z27).drew := below_drew (g3.trans (hbz.mono g3.size))
      have G5 : Below w.heap.size w w5 := G7.trans (hb5.mono G7.size)
      have hsz : (w3.alloc Z27).heap.size = w3.heap.size + 1 := size_alloc _ _
      exact ⟨_, _, _, rfl, set_three q7, hown5.step (show w.heap.size + 2 ≤ (w3.alloc Z27).heap.size by omega) (fun k hk _ => by
          have hk : (w3.alloc Z27).heap.size ≤ k := hk
          rw [far_set (by show k ≠ w3.heap.size; omega), far_set (by show k ≠ w3.heap.size; omega), far_set (by show k ≠ w3.heap.size; omega)]),
        by rw [far_set (by show w.heap.size + 1 ≠ w3.heap.size; omega), far_set (by show w.heap.size + 1 ≠ w3.heap.size; omega), far_set (by show w.heap.size + 1 ≠ w3.heap.size; omega)]
           exact keep_b hb5 (show (w3.alloc Z27).drew.heap[w.heap.size + 1]? = some Z27 from keep_a z4 _), by omega,
        ((G5.setCell (show w.heap.size ≤ w3.heap.size by omega) _).setCell (show w.heap.size ≤ w3.heap.size by omega) _).setCell (show w.heap.size ≤ w3.heap.size by omega) _⟩
  case rest =>
    obtain ⟨b7, ao', c', rfl, hB, hO, hZ, hb7, G⟩ := hcut
    clear d0 d1 d2 him3 him7 y7 z2 z4 g3 hltw hlt hbz hlt2
    rcases hO with ⟨rfl, rfl, rfl⟩ | ⟨a, rfl, hR, hba⟩
    · obtain ⟨x0, x1, x2⟩ := three_cells hB
      obtain ⟨f0, f1, f2⟩ := three_frozen hZ
      obtain ⟨c0, c1, c2⟩ := three_cells hZ
      clear hB
      go_wp2
      refine wp_loop_rounds 1 ?_
      rw [rounds_succ]
      go_wp2
      refine bodyPost_ret (v := .tuple #[.agg #[.int .i64 iw, .int .i64 ih, .slice none 0 0], .int .i64 0]) ?_ rfl ⟨none, 0, rfl, .inl ⟨rfl, rfl, rfl⟩, ?_⟩
      · rw [results_cell_tmp rfl]
        go_simp
      · exact ((G.setCell (by simp) _).setCell (by simp) _).setCell (by simp) _
    · have R0 : Row wc a n (mix P 0) := hR.congr fun j q _ _ => (by simp [mix])
      obtain ⟨x0, x1, x2⟩ := three_cells hB
      clear hR
      go_wp2
      go_loopw [38] (fun i wr => ∃ k : Nat, k ≤ n ∧ i = .int .i64 k ∧ wr.heap[b7]? = some (.cells #[.int .i64 iw, .int .i64 ih, .slice (some a) n c'] 27 (0, 0)) ∧ Row wr a n (mix P k) ∧ wr.heap[w.heap.size + 1]? = some Z27 ∧ Below w.heap.size w wr) (fun i _ => n - (intOf i).toNat)
      case atStart => exact ⟨0, Nat.zero_le _, rfl, hB, R0, hZ, G⟩
      case round =>
        clear hB R0 hZ G x0 x1 x2
        obtain ⟨k, hk, rfl, hB, hR, hZ, hbel⟩ := hrel
        by_cases hkl : k < n
        · have hp := hR.pic
          have h0 := hp.c0 k hkl
          have h1 := hp.c1 k hkl
          have h2 := hp.c2 k hkl
          have h3 := hp.c3 k hkl
          simp only [mix, if_neg (Nat.lt_irrefl k)] at h0 h1 h2 h3
          clear hp
          have hk0 : (0 : Int) ≤ (k : Int) := Int.natCast_nonneg _
          have hkl' : (k : Int) < (n : Int) := by omega
          have hv := okTo_down hok hkl
          have k0 := fun W => round_any (P k 0) (okP_at hv (by omega)).1 (okP_at hv (by omega)).2 W
          have k1 := fun W => round_any (P k 1) (okP_at hv (by omega)).1 (okP_at hv (by omega)).2 W
          have k2 := fun W => round_any (P k 2) (okP_at hv (by omega)).1 (okP_at hv (by omega)).2 W
          have k3 := fun W => round_any (P k 3) (okP_at hv (by omega)).1 (okP_at hv (by omega)).2 W
          go_wp2
          obtain ⟨r0, hr0⟩ : ∃ r, rr (P k 0) = r := ⟨_, rfl⟩
          obtain ⟨r1, hr1⟩ : ∃ r, rr (P k 1) = r := ⟨_, rfl⟩
          obtain ⟨r2, hr2⟩ : ∃ r, rr (P k 2) = r := ⟨_, rfl⟩
          obtain ⟨r3, hr3⟩ : ∃ r, rr (P k 3) = r := ⟨_, rfl⟩
          simp only [hr0] at k0
          simp only [hr1] at k1
          simp only [hr2] at k2
          simp only [hr3] at k3
          go_cut [] from 43 to 59 (fun wx => wx.heap[wr.heap.size]? = some (.cells #[.int .i64 r0, .int .i64 r1, .int .i64 r2, .int .i64 r3] 35 (0, 0)) ∧ Below wr.heap.size wr wx)
          case first =>
            clear hB hR hZ hbel hr0 hr1 hr2 hr3
            refine wp_region_still_tail 17 mixed51 (by kernel_rfl) ?_
            simp only [List.take_succ_cons, List.take_zero, List.drop_succ_cons, List.drop_zero]
            generalize hWd : ({ (wr.alloc (.cells #[.int .i64 (P k 0), .int .i64 (P k 1), .int .i64 (P k 2), .int .i64 (P k 3)] 35)) with drawn := (wr.alloc (.cells #[.int .i64 (P k 0), .int .i64 (P k 1), .int .i64 (P k 2), .int .i64 (P k 3)] 35)).drawn + 1 } : World) = W
            have q4 : W.heap[wr.heap.size]? = some (.cells #[.int .i64 (P k 0), .int .i64 (P k 1), .int .i64 (P k 2), .int .i64 (P k 3)] 35 (0, 0)) := by rw [← hWd]; exact heap_alloc_new wr _
            have BW : Below wr.heap.size wr W := by rw [← hWd]; exact below_drew ((Below.refl _ _).alloc (Nat.le_refl _) _)
            clear hWd
            obtain ⟨v0, v1, v2, v3⟩ := four_cells q4
            still_step
            still_step
            still_step
            still_call (k0 _)
            still_step
            still_step
            still_step
            still_call (k1 _)
            still_step
            still_step
            still_step
            still_call (k2 _)
            still_step
            still_step
            still_step
            still_call (k3 _)
            still_step
            refine wpStill_nil ?_
            change wpList _ _ _ _ _ W
            obtain ⟨y0, y1, y2, y3⟩ := four_frozen q4
            clear k0 k1 k2 k3
            go_wp2
            go_meet
            exact ⟨set_four q4, (((BW.setCell (Nat.le_refl _) _).setCell (Nat.le_refl _) _).setCell (Nat.le_refl _) _).setCell (Nat.le_refl _) _⟩
          case rest =>
            obtain ⟨q4, BW⟩ := hcut
            obtain ⟨p0, hp0⟩ : ∃ q, rp P k 0 = q := ⟨_, rfl⟩
            obtain ⟨p1, hp1⟩ : ∃ q, rp P k 1 = q := ⟨_, rfl⟩
            obtain ⟨p2, hp2⟩ : ∃ q, rp P k 2 = q := ⟨_, rfl⟩
            obtain ⟨p3, hp3⟩ : ∃ q, rp P k 3 = q := ⟨_, rfl⟩
            have hcase : (r3 = 0 ∧ p0 = 0 ∧ p1 = 0 ∧ p2 = 0 ∧ p3 = 0) ∨ (r3 ≠ 0 ∧ p0 = r0 ∧ p1 = r1 ∧ p2 = r2 ∧ p3 = r3) := by
              rw [← hp0, ← hp1, ← hp2, ← hp3]
              unfold rp
              rw [hr0, hr1, hr2, hr3]
              by_cases h : r3 = 0
              · left; simp [h]
              · right; simp [h]
            obtain ⟨v0, v1, v2, v3⟩ := four_cells q4
            obtain ⟨y0, y1, y2, y3⟩ := four_frozen q4
            clear k0 k1 k2 k3 h0 h1 h2 h3 hr0 hr1 hr2 hr3
            go_upto_if 62 with (fail)
            go_cut [] from 60 to 63 (fun wx => wx.heap[wr.heap.size]? = some (.cells #[.int .i64 p0, .int .i64 p1, .int .i64 p2, .int .i64 p3] 35 (0, 0)) ∧ Below wr.heap.size wr wx)
            case first =>
              clear hB hR hZ hbel hp0 hp1 hp2 hp3
              rcases hcase with ⟨rfl, rfl, rfl, rfl, rfl⟩ | ⟨hz, rfl, rfl, rfl, rfl⟩
              · go_wp2
                go_meet
                exact ⟨set_four q4, (((BW.setCell (Nat.le_refl _) _).setCell (Nat.le_refl _) _).setCell (Nat.le_refl _) _).setCell (Nat.le_refl _) _⟩
              · have hzb : (p3 == 0) = false := beq_eq_false_iff_ne.2 hz
                go_wp2
                go_meet
                exact ⟨q4, BW⟩
            case rest =>
              clear q4 BW v0 v1 v2 v3 y0 y1 y2 y3 hcase
              obtain ⟨q4, BW⟩ := hcut
              have B7 := keep_b BW hB
              have Z7 := keep_b BW hZ
              have R7 := hR.mono BW
              have G7 := hbel.trans (BW.mono hbel.size)
              have hba7 : b7 ≠ a.block := by
                intro e
                obtain ⟨_, c, hc, _⟩ := R7
                rw [← e, B7] at hc
                cases hc
              obtain ⟨x0, x1, x2⟩ := three_cells B7
              obtain ⟨v0, v1, v2, v3⟩ := four_cells q4
              have hadd := R7.add (k * 4)
              have f0 := R7.frozen (k * 4)
              have f1 := R7.frozen (k * 4 + 1)
              have f2 := R7.frozen (k * 4 + 2)
              have f3 := R7.frozen (k * 4 + 3)
              have s0 := R7.cell (show k * 4 < n * 4 by omega)
              have s1 := R7.cell (show k * 4 + 1 < n * 4 by omega)
              have s2 := R7.cell (show k * 4 + 2 < n * 4 by omega)
              have s3 := R7.cell (show k * 4 + 3 < n * 4 by omega)
              clear hB hR hZ hbel
              have S4 := R7.set4 k p0 p1 p2 p3
              simp only [hadd] at S4
              have S5 := S4.congr (Q := mix P (k + 1)) fun j q _ hq => by
                by_cases e : j = k
                · subst e
                  simp only [mix, if_true, Nat.lt_succ_self]
                  rcases q with _ | _ | _ | _ | q <;> first | omega | exact hp0.symm | exact hp1.symm | exact hp2.symm | exact hp3.symm
                · have e1 : (j < k + 1) = (j < k) := propext ⟨fun h => by omega, fun h => by omega⟩
                  simp only [mix, if_neg e, e1]
              have H := Lib.hid S5
              clear S4 S5 hp0 hp1 hp2 hp3
              go_wp2
              exact ⟨⟨k + 1, by omega, by go_num, (put4_far (p := ⟨a.block, k * 4, none⟩) hba7).trans B7, H.out, (put4_far (p := ⟨a.block, k * 4, none⟩) (by show w.heap.size + 1 ≠ a.block; omega)).trans Z7,
                put4_below (p := ⟨a.block, k * 4, none⟩) G7 (by show w.heap.size ≤ a.block; omega)⟩, by simp [intOf]; omega⟩
        · obtain rfl : k = n := by omega
          obtain ⟨x0, x1, x2⟩ := three_cells hB
          obtain ⟨f0, f1, f2⟩ := three_frozen hZ
          obtain ⟨c0, c1, c2⟩ := three_cells hZ
          clear hB
          go_wp2
          have hR' : Row wr a k (rp P) := hR.congr fun j q hj _ => (by simp [mix, hj])
          refine bodyPost_ret (v := .tuple #[.agg #[.int .i64 iw, .int .i64 ih, .slice (some a) k c'], .int .i64 0]) ?_ rfl ⟨some a, c', rfl, .inr ⟨a, rfl, (hR'.of_block ?_).pic⟩, ?_⟩
          · rw [results_cell_tmp rfl]
            go_simp
          · rw [far_set (by show a.block ≠ w.heap.size + 1; omega), far_set (by show a.block ≠ w.heap.size + 1; omega), far_set (by show a.block ≠ w.heap.size + 1; omega)]
          · exact ((hbel.setCell (by simp) _).setCell (by simp) _).setCell (by simp) _
end Go.Proofs.YthhanoaefdahkaaGreatDoor
