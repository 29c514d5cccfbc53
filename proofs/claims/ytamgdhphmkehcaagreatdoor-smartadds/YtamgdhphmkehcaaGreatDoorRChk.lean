/- The walks of the specification's Name, single, before and Check. -/
import Derived.Test.YtamgdhphmkehcaaGreatDoorChk
import Derived.Deep.RegionHeld3
namespace Go.Proofs.YtamgdhphmkehcaaGreatDoor
open Go.RowKit

set_option maxHeartbeats 800000 in
theorem rname_any (s : ByteArray) (w : World) (hs : s.size ≤ 9223372036854775807) : Calls Tryz.prog 36 #[.string s] w fun e w' => e = .returned (.bool (okName s)) ∧ Below w.heap.size w w' := by
  go_enter Tryz.func36, Tryz.ntmps36
  go_wp2
  go_loopw [3] (fun i wr => ∃ k : Nat, k ≤ s.size ∧ i = .int .i64 k ∧ badTo s k = false ∧ w = wr) (fun i _ => s.size - (intOf i).toNat)
  case atStart => exact ⟨0, Nat.zero_le _, rfl, rfl, rfl⟩
  case round =>
    obtain ⟨k, hk, rfl, hno, rfl⟩ := hrel
    by_cases hkl : k < s.size
    · have hb : byteAt s k = ((s[k]'hkl).toNat : Int) := by
        have hk2 : k < s.data.size := hkl
        unfold byteAt
        rw [Array.getElem?_eq_getElem hk2]; rfl
      cases hbk : badB (byteAt s k)
      · have h1 : ¬ (byteAt s k < 33) := by intro h; simp [badB, h] at hbk
        have h2 : ¬ (126 < byteAt s k) := by intro h; simp [badB, h] at hbk
        rw [hb] at h1 h2
        go_wp2
        exact ⟨⟨k + 1, by omega, by simp, by simp [badTo, hno, hbk], trivial⟩, by simp [intOf]; omega⟩
      · have hbad : okName s = false := by
          have h1 : badTo s (k + 1) = true := by simp [badTo, hbk]
          have h2 := badTo_stay (show k + 1 ≤ s.size by omega) h1
          simp [okName, h2]
        by_cases h1 : byteAt s k < 33
        · rw [hb] at h1
          go_wp2
          go_ret
          exact ⟨by first | rfl | (rw [hbad]; rfl), Below.refl _ _⟩
        · have h2 : 126 < byteAt s k := by simpa [badB, h1] using hbk
          rw [hb] at h1 h2
          go_wp2
          go_ret
          exact ⟨by first | rfl | (rw [hbad]; rfl), Below.refl _ _⟩
    · obtain rfl : k = s.size := by omega
      go_wp2
      all_goals go_ret
      all_goals refine ⟨?_, Below.refl _ _⟩
      all_goals simp [okName, hno]
      all_goals first | omega | (rw [Bool.eq_iff_iff]; simp only [decide_eq_true_eq, Bool.and_eq_true]; omega)

set_option maxHeartbeats 1600000 in
theorem rsingle_any (n d : ByteArray) (r : Int) (w : World) (hn : n.size ≤ 9223372036854775807) : Calls Tryz.prog 22 #[.agg #[.string n, .int .i64 r, .string d]] w fun e w' => e = .returned (.int .i64 (sgl n d r)) ∧ Below w.heap.size w w' := by
  have hb1 : ∀ ob, Below w.heap.size w (w.alloc ob) := fun ob => (Below.refl _ _).alloc (Nat.le_refl _) _
  have hcl : ∀ w2, Below (w.alloc (.cells #[.string n, .int .i64 r, .string d] 24)).heap.size (w.alloc (.cells #[.string n, .int .i64 r, .string d] 24)) w2 → w2.heap[w.heap.size]? = some (.cells #[.string n, .int .i64 r, .string d] 24 (0, 0)) :=
    fun w2 h => (h.block _ (by show w.heap.size < (w.heap.push _).size; simp)).trans (heap_alloc_new w _)
  have hfin : ∀ w2, Below (w.alloc (.cells #[.string n, .int .i64 r, .string d] 24)).heap.size (w.alloc (.cells #[.string n, .int .i64 r, .string d] 24)) w2 → Below w.heap.size w w2 := fun w2 h => (hb1 _).trans (h.mono (hb1 _).size)
  cases hok : okName n
  all_goals
    go_enter Tryz.func22, Tryz.ntmps22
    go_wp2_with (go_at_call 36; refine (rname_any n _ hn).mono ?_; rintro e w2 ⟨rfl, hb2⟩; simp only [hok]; have hz := hcl w2 hb2; have hc1 : w2.cell? ⟨w.heap.size, 1, none⟩ = some (.int .i64 r) := (by simp [World.cell?, hz]); have hc2 : w2.cell? ⟨w.heap.size, 2, none⟩ = some (.string d) := (by simp [World.cell?, hz]))
    all_goals go_ret
    all_goals refine ⟨?_, hfin _ hb2⟩
    all_goals simp [sgl, hok]
    all_goals omega

set_option maxHeartbeats 1600000 in
theorem before_any (n d m f : ByteArray) (r s : Int) (w : World) : Calls Tryz.prog 23 #[.agg #[.string n, .int .i64 r, .string d], .agg #[.string m, .int .i64 s, .string f]] w fun e w' => e = .returned (.bool (lessP n m r s)) ∧ Below w.heap.size w w' := by
  have hb1 : ∀ ob ob2, Below w.heap.size w ((w.alloc ob).alloc ob2) := fun ob ob2 => ((Below.refl _ _).alloc (Nat.le_refl _) _).alloc ((Below.refl _ _).alloc (Nat.le_refl _) _).size _
  go_enter Tryz.func23, Tryz.ntmps23
  go_wp2
  all_goals go_ret
  all_goals exact ⟨by simp_all [lessP], hb1 _ _⟩
end Go.Proofs.YtamgdhphmkehcaaGreatDoor
