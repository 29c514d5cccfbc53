/- The walks of the specification's hundred and Wants, for every library of whatever length that lies in memory. -/
import Derived.Test.YtamgdhphmkehcaaGreatDoorWants
import Derived.Deep.QuietTactic
import Derived.BigQuiet
namespace Go.Proofs.YtamgdhphmkehcaaGreatDoor
open Go.RowKit

theorem tmod_neg (a : Int) : a.tmod 100 < 0 ↔ (¬ a.tmod 100 = 0 ∧ a < 0) := by
  by_cases h : a < 0
  · have h1 : 0 ≤ (-a).tmod 100 := Int.tmod_nonneg 100 (by omega)
    rw [Int.neg_tmod] at h1
    constructor
    · intro h2; exact ⟨by omega, h⟩
    · rintro ⟨h2, _⟩; omega
  · have h1 : 0 ≤ a.tmod 100 := Int.tmod_nonneg 100 (by omega)
    constructor
    · intro h2; omega
    · rintro ⟨_, h2⟩; omega

set_option maxHeartbeats 400000 in
theorem hundred_any (a : Int) (w : World) :
    Calls Tryz.prog 32 #[.int .i64 a] w fun e w' => e = .returned (.int .i64 (fl a)) ∧ w' = w := by
  go_enter Tryz.func32, Tryz.ntmps32
  go_wp2
  all_goals go_ret
  all_goals refine ⟨?_, rfl⟩
  · rename_i h
    have : fl a = wrap64 (wrap64 (a.tdiv 100) - 1) := if_pos ((tmod_neg a).1 h)
    simp [this]
  · rename_i h
    have : fl a = wrap64 (a.tdiv 100) := if_neg (fun h1 => by have := (tmod_neg a).2 h1; omega)
    simp [this]

/-- What the specification's loop holds behind k files. -/
def rst (N : Nat → ByteArray) (R : Nat → Int) (name : ByteArray) (p : Int → Bool) (rev : Int) : Nat → Option Int
  | 0 => none
  | k + 1 => if ((N k).toList == name.toList && decide ((rst N R name p rev k).getD rev < R k) && p (R k)) = true then some (R k) else rst N R name p rev k
theorem rst_eq {N : Nat → ByteArray} {R : Nat → Int} {name : ByteArray} {p : Int → Bool} {rev : Int} : ∀ k, rst N R name p rev k = wantOf R rev (st N R name p k)
  | 0 => rfl
  | k + 1 => by
    have ih := rst_eq (N := N) (R := R) (name := name) (p := p) (rev := rev) k
    simp only [rst, st, ih]
    cases hn : ((N k).toList == name.toList) with
    | false => simp
    | true =>
      cases hp : p (R k) with
      | false => simp
      | true =>
        cases hs : st N R name p k with
        | none =>
          simp only [wantOf, better, Option.getD_none, Bool.true_and, Bool.and_true, if_true]
          by_cases h : rev < R k
          · simp [h]
          · simp [h]
        | some j =>
          by_cases h : R j ≤ rev
          · simp only [wantOf, better, if_pos h, Option.getD_none, Bool.true_and, Bool.and_true, decide_eq_true_eq]
            by_cases h1 : rev < R k
            · rw [if_pos h1, if_pos (by omega)]
              simp only [wantOf]
              rw [if_neg (by omega)]
            · rw [if_neg h1]
              by_cases h2 : R j < R k
              · rw [if_pos h2]; simp only [wantOf]; rw [if_pos (by omega)]
              · rw [if_neg h2]; simp only [wantOf]; rw [if_pos h]
          · simp only [wantOf, better, if_neg h, Option.getD_some, Bool.true_and, Bool.and_true, decide_eq_true_eq]
            by_cases h2 : R j < R k
            · rw [if_pos h2, if_pos h2]; simp only [wantOf]; rw [if_neg (by omega)]
            · rw [if_neg h2, if_neg h2]; simp only [wantOf]; rw [if_neg h]
/-- The specification's condition on a revision. -/
def rp (rule rev : Int) : Int → Bool := fun r => rule == 1 || (rule == 2 && fl r == fl rev)
theorem rst_no {N : Nat → ByteArray} {R : Nat → Int} {name : ByteArray} {p : Int → Bool} {rev : Int} (hp : ∀ r, p r = false) : ∀ k, rst N R name p rev k = none
  | 0 => rfl
  | k + 1 => by simp [rst, hp, rst_no hp k]
theorem rst_wants {N : Nat → ByteArray} {R : Nat → Int} {len : Nat} {nm : ByteArray} {rule rev : Int} : rst N R nm (rp rule rev) rev len = wants N R len nm rule rev := by
  unfold wants
  by_cases h1 : rule = 1
  · have : rp rule rev = pred rule rev := by funext r; simp [rp, pred, h1]
    rw [if_pos (.inl h1), this, rst_eq]
  · by_cases h2 : rule = 2
    · have : rp rule rev = pred rule rev := by funext r; simp [rp, pred, h1, h2]
      rw [if_pos (.inr h2), this, rst_eq]
    · rw [if_neg (by rintro (h | h) <;> contradiction)]
      exact rst_no (fun r => by simp [rp, h1, h2]) _

set_option maxHeartbeats 3200000 in
theorem rwants_any (a : Addr) (len cap : Nat) (N D : Nat → ByteArray) (R : Nat → Int) (id : Int) (nm : ByteArray) (rule rev iw ih : Int) (pb : Option Addr) (pl pc : Nat) (w : World) (hl : Lib w a len N D R) (hblk : 0 < len → a.block < w.heap.size)
    (hlen : len ≤ 9223372036854775807) :
    Calls Tryz.prog 16 #[.agg (linkV id nm rule rev iw ih (.slice pb pl pc)), .slice (some a) len cap] w fun e w' =>
      e = .returned (.tuple #[.int .i64 ((wants N R len nm rule rev).getD 0), .bool (wants N R len nm rule rev).isSome]) ∧ Below w.heap.size w w' := by
  unfold linkV
  obtain ⟨W1, hW1⟩ : ∃ W1, W1 = w.alloc (.cells #[.int .i64 id, .string nm, .int .i64 rule, .int .i64 rev, .int .i64 iw, .int .i64 ih, .slice pb pl pc] 36) := ⟨_, rfl⟩
  have hs1 : W1.heap.size = w.heap.size + 1 := by rw [hW1]; show (w.heap.push _).size = _; simp
  have hb1 : Below w.heap.size w W1 := by rw [hW1]; exact (Below.refl _ _).alloc (Nat.le_refl _) _
  have hheap : W1.heap[w.heap.size]? = some (.cells #[.int .i64 id, .string nm, .int .i64 rule, .int .i64 rev, .int .i64 iw, .int .i64 ih, .slice pb pl pc] 36 (0, 0)) := by rw [hW1]; exact heap_alloc_new w _
  have hfin : ∀ w2, Below W1.heap.size W1 w2 → Below w.heap.size w w2 := fun w2 h => hb1.trans (h.mono (by omega))
  have hblock : ∀ w2, Below W1.heap.size W1 w2 → w2.heap[w.heap.size]? = some (.cells #[.int .i64 id, .string nm, .int .i64 rule, .int .i64 rev, .int .i64 iw, .int .i64 ih, .slice pb pl pc] 36 (0, 0)) := fun w2 h => (h.block _ (by omega)).trans hheap
  have hl1 : Lib W1 a len N D R := hl.mono hb1 hblk
  have hblk1 : 0 < len → a.block < W1.heap.size := fun h => by have := hblk h; omega
  have hrw : rst N R nm (rp rule rev) rev len = wants N R len nm rule rev := rst_wants
  have hinit : Below W1.heap.size W1 W1 := Below.refl _ _
  rw [← hrw]
  obtain ⟨p, hp⟩ : ∃ p, rp rule rev = p := ⟨_, rfl⟩
  rw [hp]
  go_enter Tryz.func16, Tryz.ntmps16
  go_wp2
  go_loopw [6, 7, 14] (fun rv fo i wr => ∃ k : Nat, k ≤ len ∧ i = .int .i64 k ∧ rv = .int .i64 ((rst N R nm p rev k).getD rev) ∧ fo = .bool (rst N R nm p rev k).isSome ∧
      Below W1.heap.size W1 wr)
    (fun _ _ i _ => len - (intOf i).toNat)
  case atStart =>
    refine ⟨0, Nat.zero_le _, rfl, rfl, rfl, ?_⟩
    rw [← hW1]; exact hinit
  case round =>
    obtain ⟨k, hk, rfl, rfl, rfl, hbel⟩ := hrel
    have hlr : Lib wr a len N D R := hl1.mono hbel hblk1
    have hblk2 := hblock _ hbel
    have hB1 : w.heap.size < wr.heap.size := by have := hbel.size; omega
    have halloc : ∀ ob, (wr.alloc ob).heap[w.heap.size]? = wr.heap[w.heap.size]? := fun ob => Below.heap_alloc _ _ _ hB1
    have hx1 : ∀ ob, (wr.alloc ob).cell? ⟨w.heap.size, 1, none⟩ = some (.string nm) := fun ob => by simp only [World.cell?, halloc, hblk2]; rfl
    have hx2 : ∀ ob, (wr.alloc ob).cell? ⟨w.heap.size, 2, none⟩ = some (.int .i64 rule) := fun ob => by simp only [World.cell?, halloc, hblk2]; rfl
    have hx3 : ∀ ob, (wr.alloc ob).cell? ⟨w.heap.size, 3, none⟩ = some (.int .i64 rev) := fun ob => by simp only [World.cell?, halloc, hblk2]; rfl
    obtain ⟨o, ho⟩ : ∃ o, rst N R nm p rev k = o := ⟨_, rfl⟩
    rw [ho]
    have hbe : ∀ ob, Below W1.heap.size W1 (wr.alloc ob) := fun ob => hbel.alloc hbel.size ob
    clear hheap hblock halloc hl hl1 hb1 hrw hinit
    by_cases hkl : k < len
    · have hn := hlr.n k hkl
      have hr := hlr.r k hkl
      have hd := hlr.d k hkl
      have hkl' : (k : Int) < (len : Int) := by omega
      have hstep : rst N R nm p rev (k + 1) = if ((N k).toList == nm.toList && decide (o.getD rev < R k) && p (R k)) = true then some (R k) else o := by rw [rst, ho]
      clear hlr
      by_cases hN : (N k).toList = nm.toList
      · by_cases hR : o.getD rev < R k
        · by_cases h1 : rule = 1
          · have hst : rst N R nm p rev (k + 1) = some (R k) := by rw [hstep, if_pos]; simp [hN, hR, ← hp, rp, h1]
            subst h1
            go_wp2
            go_quiet (fail)
            go_wp2
            exact ⟨⟨k + 1, by omega, by simp, by rw [hst]; rfl, by rw [hst]; rfl, below_drewN (hbe _) _⟩, by simp [intOf]; omega⟩
          · by_cases h2 : rule = 2
            · subst h2
              by_cases h3 : fl (R k) = fl rev
              · have hst : rst N R nm p rev (k + 1) = some (R k) := by rw [hstep, if_pos]; simp [hN, hR, ← hp, rp, h3]
                go_wp2
                go_quiet ((go_at_call 32; exact Calls.quiet_of_same (hundred_any _ _)))
                go_wp2
                exact ⟨⟨k + 1, by omega, by simp, by rw [hst]; rfl, by rw [hst]; rfl, below_drewN (hbe _) _⟩, by simp [intOf]; omega⟩
              · have hst : rst N R nm p rev (k + 1) = o := by rw [hstep, if_neg]; simp [← hp, rp, h3]
                have h3' : (fl (R k) == fl rev) = false := by simpa using h3
                go_wp2
                go_quiet ((go_at_call 32; exact Calls.quiet_of_same (hundred_any _ _)))
                go_wp2
                exact ⟨⟨k + 1, by omega, by simp, by rw [hst], by rw [hst], below_drewN (hbe _) _⟩, by simp [intOf]; omega⟩
            · have hst : rst N R nm p rev (k + 1) = o := by rw [hstep, if_neg]; simp [← hp, rp, h1, h2]
              have h1' : (rule == 1) = false := by simpa using h1
              have h2' : (rule == 2) = false := by simpa using h2
              go_wp2
              go_quiet (fail)
              go_wp2
              exact ⟨⟨k + 1, by omega, by simp, by rw [hst], by rw [hst], below_drewN (hbe _) _⟩, by simp [intOf]; omega⟩
        · have hst : rst N R nm p rev (k + 1) = o := by rw [hstep, if_neg]; simp [hR]
          have hR' : R k ≤ o.getD rev := by omega
          go_wp2
          exact ⟨⟨k + 1, by omega, by simp, by rw [hst], by rw [hst], hbe _⟩, by simp [intOf]; omega⟩
      · have hN' : ((N k).toList == nm.toList) = false := by simpa using hN
        have hst : rst N R nm p rev (k + 1) = o := by rw [hstep, if_neg]; simp [hN']
        go_wp2
        exact ⟨⟨k + 1, by omega, by simp, by rw [hst], by rw [hst], hbe _⟩, by simp [intOf]; omega⟩
    · have hkl' : k = len := by omega
      subst hkl'
      rcases o with _ | n
      · go_wp2
        go_ret2
        exact ⟨by rw [ho]; simp, hfin _ hbel⟩
      · go_wp2
        go_ret2
        exact ⟨by rw [ho]; simp, hfin _ hbel⟩
end Go.Proofs.YtamgdhphmkehcaaGreatDoor
