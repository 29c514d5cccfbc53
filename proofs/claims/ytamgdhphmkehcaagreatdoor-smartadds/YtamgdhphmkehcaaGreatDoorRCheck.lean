/- The walk of the specification's Check: for every library of whatever length that lies in memory, and for the nil one. -/
import Derived.Test.YtamgdhphmkehcaaGreatDoorRChk
import Derived.Test.YtamgdhphmkehcaaGreatDoorCheck
namespace Go.Proofs.YtamgdhphmkehcaaGreatDoor
open Go.RowKit

set_option maxHeartbeats 3200000 in
theorem rcheck_some (a : Addr) (len cap : Nat) (N D : Nat → ByteArray) (R : Nat → Int) (w : World) (hl : Lib w a len N D R) (hblk : 0 < len → a.block < w.heap.size)
    (hlen : len ≤ 9223372036854775807) (hN : ∀ j, j < len → (N j).size ≤ 9223372036854775807) :
    Calls Tryz.prog 10 #[.slice (some a) len cap] w fun e w' => e = .returned (.int .i64 (chkL N D R len)) ∧ Below w.heap.size w w' := by
  by_cases h256 : 256 < len
  · have hc : chkL N D R len = 3 := if_pos h256
    rw [hc]
    go_enter Tryz.func10, Tryz.ntmps10
    go_wp2
    go_ret
    exact ⟨rfl, Below.refl _ _⟩
  · have hc : chkL N D R len = chk N D R len := if_neg h256
    rw [hc]
    go_enter Tryz.func10, Tryz.ntmps10
    go_wp2
    go_loopw [10] (fun i wr => ∃ k : Nat, k ≤ len ∧ i = .int .i64 k ∧ chk N D R k = 0 ∧ Below w.heap.size w wr)
      (fun i _ => len - (intOf i).toNat)
    case atStart => exact ⟨0, Nat.zero_le _, rfl, rfl, Below.refl _ _⟩
    case round =>
      obtain ⟨k, hk, rfl, hck, hbel⟩ := hrel
      have hlr : Lib wr a len N D R := hl.mono hbel hblk
      by_cases hkl : k < len
      · have hn := hlr.n k hkl
        have hr := hlr.r k hkl
        have hd := hlr.d k hkl
        have hkl' : (k : Int) < (len : Int) := by omega
        have hup : ∀ w2, Below wr.heap.size wr w2 → Below w.heap.size w w2 := fun w2 h => hbel.trans (h.mono hbel.size)
        obtain ⟨z, hz⟩ : ∃ z, sgl (N k) (D k) (R k) = z := ⟨_, rfl⟩
        have hsg : ∀ W, Calls Tryz.prog 22 #[.agg #[.string (N k), .int .i64 (R k), .string (D k)]] W fun e w' => e = .returned (.int .i64 z) ∧ Below W.heap.size W w' := fun W => by
          have := rsingle_any (N k) (D k) (R k) W (hN k hkl)
          rw [hz] at this; exact this
        by_cases hz0 : z = 0
        · subst hz0
          rcases k with _ | j
          · have hst : chk N D R 1 = 0 := by simp [chk, hz]
            have ha0 : a.add (0 * 3) = a := if_pos (by omega)
            rw [ha0] at hn hr hd
            go_wp2_with (go_at_call 22; refine (hsg _).mono ?_; rintro e w2 ⟨rfl, hb2⟩)
            go_quiet (fail)
            go_wp2
            exact ⟨⟨1, by omega, rfl, hst, below_drewN (hup _ hb2) _⟩, by simp [intOf]; omega⟩
          · obtain ⟨lp, hlp⟩ : ∃ lp, lessP (N j) (N (j + 1)) (R j) (R (j + 1)) = lp := ⟨_, rfl⟩
            have hls : ∀ W, Calls Tryz.prog 23 #[.agg #[.string (N j), .int .i64 (R j), .string (D j)], .agg #[.string (N (j + 1)), .int .i64 (R (j + 1)), .string (D (j + 1))]] W fun e w' => e = .returned (.bool lp) ∧ Below W.heap.size W w' := fun W => by
              have := before_any (N j) (D j) (N (j + 1)) (D (j + 1)) (R j) (R (j + 1)) W
              rw [hlp] at this; exact this
            have hin : ∀ i, i < len → ∀ w2, Below w.heap.size w w2 → w2.cell? (a.add (i * 3)) = some (.string (N i)) ∧ w2.cell? ⟨(a.add (i * 3)).block, (a.add (i * 3)).off + 1, none⟩ = some (.int .i64 (R i)) ∧ w2.cell? ⟨(a.add (i * 3)).block, (a.add (i * 3)).off + 2, none⟩ = some (.string (D i)) :=
              fun i hi w2 h => by have := hl.mono h hblk; exact ⟨this.n i hi, this.r i hi, this.d i hi⟩
            go_wp2_with (go_at_call 22; refine (hsg _).mono ?_; rintro e w2 ⟨rfl, hb2⟩; obtain ⟨hp0, hp1, hp2⟩ := hin j (by omega) w2 (hup _ hb2); obtain ⟨hc0, hc1, hc2⟩ := hin (j + 1) hkl w2 (hup _ hb2))
            have hj0 : (0 : Int) ≤ (j : Int) := Int.natCast_nonneg _
            have hj1 : (j : Int) < (len : Int) := by omega
            have hw1 : IntKind.i64.wrap ((j : Int) + 1 - 1) = j := by rw [IntKind.wrap_i64]; omega
            have hw2 : IntKind.i64.wrap (j : Int) = j := by rw [IntKind.wrap_i64]; omega
            have hj2 : (0 : Int) ≤ (j : Int) + 1 := by omega
            have hj3 : (j : Int) + 1 < (len : Int) := by omega
            go_region_held3 (fun w' => w'.cell? (a.add (j * 3)) = some (.string (N j)) ∧ w'.cell? ⟨(a.add (j * 3)).block, (a.add (j * 3)).off + 1, none⟩ = some (.int .i64 (R j)) ∧ w'.cell? ⟨(a.add (j * 3)).block, (a.add (j * 3)).off + 2, none⟩ = some (.string (D j)) ∧
                w'.cell? (a.add ((j + 1) * 3)) = some (.string (N (j + 1))) ∧ w'.cell? ⟨(a.add ((j + 1) * 3)).block, (a.add ((j + 1) * 3)).off + 1, none⟩ = some (.int .i64 (R (j + 1))) ∧ w'.cell? ⟨(a.add ((j + 1) * 3)).block, (a.add ((j + 1) * 3)).off + 2, none⟩ = some (.string (D (j + 1))))
              (first | go_keep | (go_split_ands; (refine ⟨cell_keep hb3 ?_, cell_keep hb3 ?_, cell_keep hb3 ?_, cell_keep hb3 ?_, cell_keep hb3 ?_, cell_keep hb3 ?_⟩) <;> assumption))
              (first | (go_at_call 23; refine (hls _).mono ?_; rintro e w3 ⟨rfl, hb3⟩))
            have hb4 : Below w.heap.size w w3 := (below_drew (hup _ hb2)).trans (hb3.mono (below_drew (hup _ hb2)).size)
            cases lp
            · have hst : chk N D R (j + 1 + 1) = 24 := by rw [chk, if_neg (by simp [hck]), if_neg (by simp [hz]), if_pos ⟨by omega, by simpa using hlp⟩]
              have hfin : chk N D R len = 24 := (chk_stay (show j + 1 + 1 ≤ len by omega) (by rw [hst]; decide)).trans hst
              go_wp2
              go_ret
              exact ⟨by rw [hfin]; rfl, hb4⟩
            · have hst : chk N D R (j + 1 + 1) = 0 := by rw [chk, if_neg (by simp [hck]), if_neg (by simp [hz]), if_neg (by simp [hlp])]
              go_wp2
              exact ⟨⟨j + 1 + 1, by omega, by go_num, hst, hb4⟩, by simp [intOf]; omega⟩
        · have hst : chk N D R (k + 1) = z := by rw [chk, if_neg (by simp [hck]), hz, if_pos hz0]
          have hfin : chk N D R len = z := (chk_stay (show k + 1 ≤ len by omega) (by rw [hst]; exact hz0)).trans hst
          go_wp2_with (go_at_call 22; refine (hsg _).mono ?_; rintro e w2 ⟨rfl, hb2⟩)
          go_ret
          exact ⟨by rw [hfin]; rfl, hup _ hb2⟩
      · obtain rfl : k = len := by omega
        go_wp2
        go_ret
        exact ⟨by rw [hck]; rfl, hbel⟩

set_option maxHeartbeats 1600000 in
theorem rcheck_nil (w : World) : Calls Tryz.prog 10 #[.slice none 0 0] w fun e w' => e = .returned (.int .i64 0) ∧ Below w.heap.size w w' := by
  go_enter Tryz.func10, Tryz.ntmps10
  go_wp2
  refine wp_loop_rounds 1 ?_
  rw [rounds_succ]
  go_wp2
  go_ret
  exact ⟨rfl, Below.refl _ _⟩
end Go.Proofs.YtamgdhphmkehcaaGreatDoor
