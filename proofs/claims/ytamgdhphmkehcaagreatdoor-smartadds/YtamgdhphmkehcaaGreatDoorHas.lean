/- The walks of Add's closure and of slices.ContainsFunc over a library: whether a file of the name and revision is in it. -/
import Derived.Test.YtamgdhphmkehcaaGreatDoorChk
namespace Go.Proofs.YtamgdhphmkehcaaGreatDoor
open Go.RowKit

/-- Among the first k files is one of the name and the revision. -/
def dup (N : Nat → ByteArray) (R : Nat → Int) (n : ByteArray) (r : Int) : Nat → Bool
  | 0 => false
  | k + 1 => dup N R n r k || ((N k).toList == n.toList && R k == r)
theorem dup_stay {N : Nat → ByteArray} {R : Nat → Int} {n : ByteArray} {r : Int} : ∀ {k m : Nat}, k ≤ m → dup N R n r k = true → dup N R n r m = true
  | k, 0, h, hb => by obtain rfl : k = 0 := by omega
                      exact hb
  | k, m + 1, h, hb => by
    by_cases e : k = m + 1
    · subst e; exact hb
    · simp [dup, dup_stay (show k ≤ m by omega) hb]
theorem dup_no {N : Nat → ByteArray} {R : Nat → Int} {n : ByteArray} {r : Int} : ∀ {k : Nat}, dup N R n r k = false → ∀ i, i < k → ¬ ((N i).toList = n.toList ∧ R i = r)
  | 0, _, i, hi => by omega
  | k + 1, h, i, hi => by
    simp only [dup, Bool.or_eq_false_iff] at h
    by_cases e : i = k
    · subst e
      rintro ⟨h1, h2⟩
      have := h.2
      simp [h1, h2] at this
    · exact dup_no h.1 i (by omega)

set_option maxHeartbeats 800000 in
theorem eqf_any (n d m : ByteArray) (r s : Int) (b : Nat) (w : World) (h0 : w.cell? ⟨b, 0, none⟩ = some (.string m)) (h1 : w.cell? ⟨b, 1, none⟩ = some (.int .i64 s)) :
    Calls Tryz.prog 19 #[.agg #[.string n, .int .i64 r, .string d], .pointer (some ⟨b, 0, none⟩)] w fun e w' => e = .returned (.bool (n.toList == m.toList && r == s)) ∧ Below w.heap.size w w' := by
  have hlt : b < w.heap.size := World.block_lt_of_cell? w _ h0
  have g0 : ∀ ob, (w.alloc ob).cell? ⟨b, 0, none⟩ = some (.string m) := fun ob => (((Below.refl _ _).alloc (Nat.le_refl _) _).cell hlt).trans h0
  have g1 : ∀ ob, (w.alloc ob).cell? ⟨b, 1, none⟩ = some (.int .i64 s) := fun ob => (((Below.refl _ _).alloc (Nat.le_refl _) _).cell hlt).trans h1
  go_enter Tryz.func19, Tryz.ntmps19
  go_wp2
  all_goals go_ret
  all_goals exact ⟨by simp_all, (Below.refl _ _).alloc (Nat.le_refl _) _⟩

set_option maxHeartbeats 1600000 in
theorem idxf_some (a : Addr) (len cap : Nat) (N D : Nat → ByteArray) (R : Nat → Int) (n : ByteArray) (r : Int) (b : Nat) (w : World) (hl : Lib w a len N D R) (hblk : 0 < len → a.block < w.heap.size)
    (hlen : len ≤ 9223372036854775807) (h0 : w.cell? ⟨b, 0, none⟩ = some (.string n)) (h1 : w.cell? ⟨b, 1, none⟩ = some (.int .i64 r)) :
    Calls Tryz.prog 34 #[.slice (some a) len cap, .func (.func 19) #[] #[.pointer (some ⟨b, 0, none⟩)]] w fun e w' => (∃ z, e = .returned (.int .i64 z) ∧ ((0 ≤ z) ↔ dup N R n r len = true)) ∧ Below w.heap.size w w' := by
  have hlt : b < w.heap.size := World.block_lt_of_cell? w _ h0
  go_enter Tryz.func34, Tryz.ntmps34
  go_wp2
  go_loopw [8] (fun i wr => ∃ k : Nat, k ≤ len ∧ i = .int .i64 k ∧ dup N R n r k = false ∧ Below w.heap.size w wr) (fun i _ => len - (intOf i).toNat)
  case atStart => exact ⟨0, Nat.zero_le _, rfl, rfl, Below.refl _ _⟩
  case round =>
    obtain ⟨k, hk, rfl, hno, hbel⟩ := hrel
    have hlr : Lib wr a len N D R := hl.mono hbel hblk
    by_cases hkl : k < len
    · have hn := hlr.n k hkl
      have hr := hlr.r k hkl
      have hd := hlr.d k hkl
      have hkl' : (k : Int) < (len : Int) := by omega
      have key := eqf_any (N k) (D k) n (R k) r b wr ((hbel.cell hlt).trans h0) ((hbel.cell hlt).trans h1)
      obtain ⟨x, hx⟩ : ∃ x, ((N k).toList == n.toList && R k == r) = x := ⟨_, rfl⟩
      rw [hx] at key
      cases x
      · go_wp2_with (go_at_call 19; refine key.mono ?_; rintro e w2 ⟨rfl, hb2⟩)
        exact ⟨⟨k + 1, by omega, by simp, by simp [dup, hno, hx], hbel.trans (hb2.mono hbel.size)⟩, by simp [intOf]; omega⟩
      · go_wp2_with (go_at_call 19; refine key.mono ?_; rintro e w2 ⟨rfl, hb2⟩)
        go_ret
        refine ⟨⟨k, rfl, ?_⟩, hbel.trans (hb2.mono hbel.size)⟩
        have : dup N R n r (k + 1) = true := by simp only [dup, hx, Bool.or_true]
        simp [dup_stay (show k + 1 ≤ len by omega) this]
    · obtain rfl : k = len := by omega
      go_wp2
      go_ret
      exact ⟨⟨-1, rfl, by simp [hno]⟩, hbel⟩

set_option maxHeartbeats 800000 in
theorem hasf_some (a : Addr) (len cap : Nat) (N D : Nat → ByteArray) (R : Nat → Int) (n : ByteArray) (r : Int) (b : Nat) (w : World) (hl : Lib w a len N D R) (hblk : 0 < len → a.block < w.heap.size)
    (hlen : len ≤ 9223372036854775807) (h0 : w.cell? ⟨b, 0, none⟩ = some (.string n)) (h1 : w.cell? ⟨b, 1, none⟩ = some (.int .i64 r)) :
    Calls Tryz.prog 18 #[.slice (some a) len cap, .func (.func 19) #[] #[.pointer (some ⟨b, 0, none⟩)]] w fun e w' => e = .returned (.bool (dup N R n r len)) ∧ Below w.heap.size w w' := by
  have key := idxf_some a len cap N D R n r b w hl hblk hlen h0 h1
  go_enter Tryz.func18, Tryz.ntmps18
  go_wp2_with (go_at_call 34; refine key.mono ?_; rintro e w2 ⟨⟨z, rfl, hz⟩, hb2⟩)
  all_goals go_ret
  all_goals refine ⟨?_, hb2⟩
  all_goals
    cases hb : dup N R n r len <;> simp [hb] at hz <;> simp <;> omega

set_option maxHeartbeats 800000 in
theorem hasf_nil (g : Value) (w : World) :
    Calls Tryz.prog 18 #[.slice none 0 0, .func (.func 19) #[] #[g]] w fun e w' => e = .returned (.bool false) ∧ Below w.heap.size w w' := by
  have key : ∀ w, Calls Tryz.prog 34 #[.slice none 0 0, .func (.func 19) #[] #[g]] w fun e w' => e = .returned (.int .i64 (-1)) ∧ Below w.heap.size w w' := fun w => by
    go_enter Tryz.func34, Tryz.ntmps34
    go_wp2
    refine wp_loop_rounds 1 ?_
    rw [rounds_succ]
    go_wp2
    go_ret
    exact ⟨rfl, Below.refl _ _⟩
  go_enter Tryz.func18, Tryz.ntmps18
  go_wp2_with (go_at_call 34; refine (key _).mono ?_; rintro e w2 ⟨rfl, hb2⟩)
  all_goals go_ret
  all_goals exact ⟨rfl, hb2⟩
end Go.Proofs.YtamgdhphmkehcaaGreatDoor
