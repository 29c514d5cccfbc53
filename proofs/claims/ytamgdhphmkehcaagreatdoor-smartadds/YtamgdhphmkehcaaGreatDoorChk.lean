/- The walks of isName, single, less and of the specification's Name, single, before: what each answers. -/
import Derived.Test.YtamgdhphmkehcaaGreatDoorPlain
import Derived.Deep.QuietTactic
import Derived.BigQuiet
import Derived.Laws.IdiomStrings
namespace Go.Proofs.YtamgdhphmkehcaaGreatDoor
open Go.RowKit

set_option maxHeartbeats 400000 in
theorem bad_any (c : Int) (w : World) : Calls Tryz.prog 43 #[.int .u8 c] w fun e w' => e = .returned (.bool (badB c)) ∧ w' = w := by
  go_enter Tryz.func43, Tryz.ntmps43
  go_wp2
  all_goals go_ret
  all_goals refine ⟨?_, rfl⟩
  all_goals simp [badB]
  all_goals omega

set_option maxHeartbeats 800000 in
theorem idxb_any (b : Nat) (s : ByteArray) (cap : Nat) (w : World) (hs : s.size ≤ 9223372036854775807) (hc : ∀ j, j < s.size → w.cell? ⟨b, j, none⟩ = some (.int .u8 (byteAt s j))) :
    Calls Tryz.prog 58 #[.slice (some ⟨b, 0, none⟩) s.size cap, .func (.func 43) #[] #[]] w fun e w' => (∃ z, e = .returned (.int .i64 z) ∧ ((0 ≤ z) ↔ badTo s s.size = true)) ∧ w' = w := by
  go_enter Tryz.func58, Tryz.ntmps58
  go_wp2
  go_loopw [8] (fun i wr => ∃ k : Nat, k ≤ s.size ∧ i = .int .i64 k ∧ badTo s k = false ∧ wr = w) (fun i _ => s.size - (intOf i).toNat)
  case atStart => exact ⟨0, Nat.zero_le _, rfl, rfl, rfl⟩
  case round =>
    obtain ⟨k, hk, rfl, hno, rfl⟩ := hrel
    by_cases hkl : k < s.size
    · have hk := hc k hkl
      cases hbk : badB (byteAt s k)
      · go_wp2_with (go_at_call 43; refine (bad_any _ _).mono ?_; rintro e w2 ⟨rfl, rfl⟩; simp only [hbk])
        exact ⟨⟨k + 1, by omega, by simp, by simp [badTo, hno, hbk], trivial⟩, by simp [intOf]; omega⟩
      · go_wp2_with (go_at_call 43; refine (bad_any _ _).mono ?_; rintro e w2 ⟨rfl, rfl⟩; simp only [hbk])
        go_ret
        refine ⟨⟨k, rfl, ?_⟩, rfl⟩
        have : badTo s (k + 1) = true := by simp [badTo, hbk]
        simp [badTo_stay (show k + 1 ≤ s.size by omega) this]
    · obtain rfl : k = s.size := by omega
      go_wp2
      go_ret
      exact ⟨⟨-1, rfl, by simp [hno]⟩, rfl⟩

set_option maxHeartbeats 800000 in
theorem hasb_any (b : Nat) (s : ByteArray) (cap : Nat) (w : World) (hs : s.size ≤ 9223372036854775807) (hc : ∀ j, j < s.size → w.cell? ⟨b, j, none⟩ = some (.int .u8 (byteAt s j))) :
    Calls Tryz.prog 42 #[.slice (some ⟨b, 0, none⟩) s.size cap, .func (.func 43) #[] #[]] w fun e w' => e = .returned (.bool (badTo s s.size)) ∧ w' = w := by
  go_enter Tryz.func42, Tryz.ntmps42
  go_wp2_with (go_at_call 58; refine (idxb_any b s cap w hs hc).mono ?_; rintro e w2 ⟨⟨z, rfl, hz⟩, rfl⟩)
  all_goals go_ret
  all_goals refine ⟨?_, rfl⟩
  all_goals
    cases hb : badTo s s.size <;> simp [hb] at hz <;> simp <;> omega

theorem bytesRow_cell (w : World) (s : ByteArray) (cap : Nat) (fr : Nat × Nat) (j : Nat) (hj : j < s.size) : (w.drew.alloc (.cells (bytesRow s cap) 5 fr)).cell? ⟨w.heap.size, j, none⟩ = some (.int .u8 (byteAt s j)) := by
  have : (w.drew.alloc (.cells (bytesRow s cap) 5 fr)).heap[w.heap.size]? = some (.cells (bytesRow s cap) 5 fr) := by
    show (w.heap.push _)[w.heap.size]? = _
    simp
  have hj' : j < s.data.size := hj
  unfold World.cell?
  rw [this]
  show (bytesRow s cap)[j]? = _
  unfold bytesRow
  rw [Array.getElem?_append_left (by simpa using hj')]
  rw [Array.getElem?_map, Array.getElem?_eq_getElem hj']
  simp only [byteAt, Array.getElem?_eq_getElem hj', Option.map_some, Option.getD_some]

theorem below_drew {B : Nat} {a w : World} (h : Below B a w) : Below B a w.drew := ⟨h.os, h.tape, h.output, h.size, h.block⟩

set_option maxHeartbeats 800000 in
theorem isname_any (s : ByteArray) (w : World) : Calls Tryz.prog 33 #[.string s] w fun e w' => e = .returned (.bool (okName s)) ∧ Below w.heap.size w w' := by
  have hcv := fun w s => run_bytes_of_string (P := Tryz.prog) w 9 77 5 s Tryz.underlying9 Tryz.underlying77 Tryz.underlying5
  by_cases h0 : s.size = 0
  · have he : (s.toList == []) = true := by
      have : s = ⟨#[]⟩ := by
        have h1 : s.data = #[] := Array.eq_empty_of_size_eq_zero h0
        cases s; simp_all
      subst this
      rw [ByteArray.toList_eq]; rfl
    have hok : okName s = false := by simp [okName, h0]
    rw [hok]
    go_enter Tryz.func33, Tryz.ntmps33
    go_wp2
    all_goals go_ret
    all_goals exact ⟨by simp, Below.refl _ _⟩
  · have he : (s.toList == []) = false := by
      rw [ByteArray.toList_eq]
      have : s.data.toList ≠ [] := fun h => h0 (by
        have h1 : s.data = #[] := by simpa using h
        show s.data.size = 0
        rw [h1]; rfl)
      simpa using this
    by_cases h32 : s.size ≤ 32
    · have hb := fun w1 cap h => hasb_any w.heap.size s cap w1 (by omega) h
      have hcell := bytesRow_cell w s
      have hok : okName s = !badTo s s.size := by simp [okName, h32]; omega
      rw [hok]
      go_enter Tryz.func33, Tryz.ntmps33
      go_wp2_with (go_at_call 42; refine (hasb_any _ _ _ _ (by omega) (hcell _ _)).mono ?_; rintro e w2 ⟨rfl, rfl⟩)
      all_goals go_ret
      all_goals exact ⟨by simp, (below_drew (Below.refl _ _)).alloc (Nat.le_refl _) _⟩
    · have hok : okName s = false := by simp [okName, h32]
      rw [hok]
      go_enter Tryz.func33, Tryz.ntmps33
      go_wp2
      all_goals go_ret
      all_goals exact ⟨by simp, Below.refl _ _⟩

set_option maxHeartbeats 1600000 in
theorem single_any (n d : ByteArray) (r : Int) (w : World) : Calls Tryz.prog 17 #[.agg #[.string n, .int .i64 r, .string d]] w fun e w' => e = .returned (.int .i64 (sgl n d r)) ∧ Below w.heap.size w w' := by
  have hb1 : ∀ ob, Below w.heap.size w (w.alloc ob) := fun ob => (Below.refl _ _).alloc (Nat.le_refl _) _
  have hcl : ∀ w2, Below (w.alloc (.cells #[.string n, .int .i64 r, .string d] 24)).heap.size (w.alloc (.cells #[.string n, .int .i64 r, .string d] 24)) w2 → w2.heap[w.heap.size]? = some (.cells #[.string n, .int .i64 r, .string d] 24 (0, 0)) :=
    fun w2 h => (h.block _ (by show w.heap.size < (w.heap.push _).size; simp)).trans (heap_alloc_new w _)
  have hfin : ∀ w2, Below (w.alloc (.cells #[.string n, .int .i64 r, .string d] 24)).heap.size (w.alloc (.cells #[.string n, .int .i64 r, .string d] 24)) w2 → Below w.heap.size w w2 := fun w2 h => (hb1 _).trans (h.mono (hb1 _).size)
  cases hok : okName n
  all_goals
    go_enter Tryz.func17, Tryz.ntmps17
    go_wp2_with (go_at_call 33; refine (isname_any n _).mono ?_; rintro e w2 ⟨rfl, hb2⟩; simp only [hok]; have hz := hcl w2 hb2; have hc1 : w2.cell? ⟨w.heap.size, 1, none⟩ = some (.int .i64 r) := (by simp [World.cell?, hz]); have hc2 : w2.cell? ⟨w.heap.size, 2, none⟩ = some (.string d) := (by simp [World.cell?, hz]))
    all_goals go_ret
    all_goals refine ⟨?_, hfin _ hb2⟩
    all_goals simp [sgl, hok]
    all_goals omega

set_option maxHeartbeats 1600000 in
theorem less_any (n d m f : ByteArray) (r s : Int) (w : World) : Calls Tryz.prog 20 #[.agg #[.string n, .int .i64 r, .string d], .agg #[.string m, .int .i64 s, .string f]] w fun e w' => e = .returned (.bool (lessP n m r s)) ∧ Below w.heap.size w w' := by
  have hb1 : ∀ ob ob2, Below w.heap.size w ((w.alloc ob).alloc ob2) := fun ob ob2 => ((Below.refl _ _).alloc (Nat.le_refl _) _).alloc ((Below.refl _ _).alloc (Nat.le_refl _) _).size _
  go_enter Tryz.func20, Tryz.ntmps20
  go_wp2
  all_goals go_ret
  all_goals exact ⟨by simp_all [lessP], hb1 _ _⟩
end Go.Proofs.YtamgdhphmkehcaaGreatDoor
