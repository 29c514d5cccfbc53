/- The walks of slices.Grow (from a nil slice) and slices.Concat over slices of files. -/
import Derived.Test.YtamgdhphmkehcaaGreatDoorChk
import Derived.OwnWalk
import Derived.Laws.AppendOwnNone
namespace Go.Proofs.YtamgdhphmkehcaaGreatDoor
open Go.RowKit

def zfile : Value := .agg #[.string ⟨#[]⟩, .int .i64 0, .string ⟨#[]⟩]
theorem info24 : (Tryz.prog.info? 24).map (fun i => (i.zero, i.size, i.bytes)) = some (some (.agg #[.string ⟨#[]⟩, .int .i64 0, .string ⟨#[]⟩]), 3, 40) := by kernel_rfl

set_option maxRecDepth 100000 in
set_option maxHeartbeats 800000 in
theorem grow_any (m : Nat) (w : World) (h0 : 0 < m) (hm : m ≤ 1000) : Calls Tryz.prog 35 #[.slice none 0 0, .int .i64 m] w fun e w' => ∃ v, e = .returned v ∧ w'.ownsRow w.heap.size 24 3 v 0 [] ∧ Below w.heap.size w w' := by
  obtain ⟨i0, hi, hz0, hz1, hz2⟩ := info_parts info24
  have ht : Tryz.t24.bytes = 40 := rfl
  have hns : Builtin.nextslicecap m 0 = m := by unfold Builtin.nextslicecap; rw [if_pos (by omega)]
  have h48 : (m : Int) * 40 ≤ 281474976710656 := by omega
  have h49 : ¬ (281474976710656 < m * 40) := by omega
  have hg1 := grownCap_ge w m 0 24
  have hg2 := grownCap_le_maxLen w m 0 24 (by unfold maxLen; omega)
  go_enter Tryz.func35, Tryz.ntmps35
  go_wp2
  go_ret
  refine ⟨_, rfl, ⟨by simp, .inr ⟨w.heap.size, grownCap w m 0 24, _, rfl, Nat.le_refl _, heap_alloc_new w _, Nat.zero_le _, hg2, ?_, by simp⟩⟩, below_drew ((Below.refl _ _).alloc (Nat.le_refl _) _)⟩
  have e : (Question.appendCap m 0 24).cut (w.tape w.drawn (Question.appendCap m 0 24)) = grownCap w m 0 24 := rfl
  rw [e]
  simp only [Array.size_append, size_zeroCells]
  show m * 3 + (grownCap w m 0 24 - m) * 3 = _
  omega

/-- A slice of files whose m elements are the cells xs. -/
def Src (w : World) (ao : Option Addr) (m c : Nat) (xs : List Value) : Prop :=
  xs.length = m * 3 ∧ (ao = none → m = 0 ∧ c = 0) ∧ (∀ u ∈ xs, u.oneCell' = true) ∧ ∀ ad, ao = some ad → ∀ j u, xs[j]? = some u → w.cell? (ad.add j) = some u
def sumTo (M : Nat → Nat) : Nat → Nat
  | 0 => 0
  | k + 1 => sumTo M k + M k
def catTo (X : Nat → List Value) : Nat → List Value
  | 0 => []
  | k + 1 => catTo X k ++ X k
theorem sumTo_le {M : Nat → Nat} : ∀ {k n : Nat}, k ≤ n → sumTo M k ≤ sumTo M n
  | k, 0, h => by obtain rfl : k = 0 := by omega
                  exact Nat.le_refl _
  | k, n + 1, h => by
    by_cases e : k = n + 1
    · subst e; exact Nat.le_refl _
    · have := sumTo_le (M := M) (show k ≤ n by omega); simp only [sumTo]; omega

set_option maxRecDepth 100000 in
set_option maxHeartbeats 3200000 in
theorem concat_any (B cnt cp : Nat) (ao : Nat → Option Addr) (M C : Nat → Nat) (X : Nat → List Value) (w : World) (hcnt : cnt ≤ 3)
    (hB : ∀ k, k < cnt → w.cell? ⟨B, k, none⟩ = some (.slice (ao k) (M k) (C k))) (hBs : B < w.heap.size) (hS : ∀ k, k < cnt → Src w (ao k) (M k) (C k) (X k)) (hpos : 0 < sumTo M cnt) (hsum : sumTo M cnt ≤ 1000) :
    Calls Tryz.prog 21 #[.slice (some ⟨B, 0, none⟩) cnt cp] w fun e w' => ∃ v, e = .returned v ∧ w'.ownsRow w.heap.size 24 3 v (sumTo M cnt) (catTo X cnt) ∧ Below w.heap.size w w' := by
  obtain ⟨i0, hi, hz0, hz1, hz2⟩ := info_parts info24
  go_enter Tryz.func21, Tryz.ntmps21
  go_wp2
  go_loopw [3, 11] (fun s i wr => ∃ k : Nat, k ≤ cnt ∧ i = .int .i64 k ∧ s = .int .i64 (sumTo M k) ∧ w = wr) (fun _ i _ => cnt - (intOf i).toNat)
  case atStart => exact ⟨0, Nat.zero_le _, rfl, rfl, rfl⟩
  case round =>
    obtain ⟨k, hk, rfl, rfl, rfl⟩ := hrel
    by_cases hkl : k < cnt
    · have hc := hB k hkl
      have hle := sumTo_le (M := M) (show k + 1 ≤ cnt by omega)
      have hst : sumTo M (k + 1) = sumTo M k + M k := rfl
      go_wp2
      exact ⟨⟨k + 1, by omega, by simp, by rw [hst]; simp, trivial⟩, by simp [intOf]; omega⟩
    · obtain rfl : k = cnt := by omega
      go_wp2_with (go_at_call 35; refine (grow_any _ _ hpos hsum).mono ?_; rintro e w2 ⟨v, rfl, hown, hb2⟩)
      have hb2s := hb2.size
      go_loopw [6, 27] (fun v i wr => ∃ j : Nat, j ≤ k ∧ i = .int .i64 j ∧ wr.ownsRow w.heap.size 24 3 v (sumTo M j) (catTo X j) ∧ Below w.heap.size w wr) (fun _ i _ => k - (intOf i).toNat)
      case atStart => exact ⟨0, Nat.zero_le _, rfl, hown, hb2⟩
      case round =>
        obtain ⟨j, hj, rfl, hownj, hbel⟩ := hrel
        by_cases hjl : j < k
        · have hc : wr.cell? ⟨B, j, none⟩ = some (.slice (ao j) (M j) (C j)) := (hbel.cell hBs).trans (hB j hjl)
          have hle := sumTo_le (M := M) (show j + 1 ≤ k by omega)
          have hst : sumTo M (j + 1) = sumTo M j + M j := rfl
          obtain ⟨hxl, hnil, hone, hcells⟩ := hS j hjl
          rcases hao : ao j with _ | ad
          · obtain ⟨hm0, hc0⟩ := hnil hao
            have hx0 : X j = [] := List.eq_nil_of_length_eq_zero (by rw [hxl, hm0])
            rw [hao, hm0, hc0] at hc
            go_wp2_with (at_builtin; refine wpList_append_own_none rfl _ _ 22 rfl w.heap.size 24 i0 3 Tryz.underlying22 hi _ _ _ rfl hownj rfl ?_)
            exact ⟨⟨j + 1, by omega, by go_num, by rw [hst, hm0]; simpa [catTo, hx0] using hownj, hbel⟩, by simp [intOf]; omega⟩
          · rw [hao] at hc
            have hcl : ∀ i u, (X j)[i]? = some u → wr.cell? (ad.add i) = some u := fun i u hu => by
              have h1 := hcells ad hao i u hu
              exact (hbel.cell (World.block_lt_of_cell? w _ h1)).trans h1
            go_wp2_with (at_builtin; refine wpList_append_own _ rfl _ _ 22 rfl w.heap.size 24 i0 _ 3 40 Tryz.underlying22 hi hz0 hz1 hz2 rfl (by decide) _ _ _ rfl hownj ad (M j) (C j) (X j) rfl hxl hcl hone (by unfold maxLen; omega) (by omega) hbel.size ?_; intro v' w1 hown' hgrow _)
            exact ⟨⟨j + 1, by omega, by go_num, hown', hbel.grown hgrow hbel.size (fun k hk => (hownj.lt k hk).1)⟩, by simp [intOf]; omega⟩
        · obtain rfl : j = k := by omega
          go_wp2
          go_ret
          exact ⟨_, rfl, hownj, hbel⟩

theorem concat3 (B g c0 c1 c2 m0 m2 cp : Nat) (ao0 ao2 : Option Addr) (x0 x1 x2 : List Value) (w : World) (hB : w.heap[B]? = some (.cells #[.slice ao0 m0 c0, .slice (some ⟨g, 0, none⟩) 1 c1, .slice ao2 m2 c2] 22 (0, 0)))
    (h0 : Src w ao0 m0 c0 x0) (h1 : Src w (some ⟨g, 0, none⟩) 1 c1 x1) (h2 : Src w ao2 m2 c2 x2) (hsum : m0 + 1 + m2 ≤ 1000) :
    Calls Tryz.prog 21 #[.slice (some ⟨B, 0, none⟩) 3 cp] w fun e w' => ∃ v, e = .returned v ∧ w'.ownsRow w.heap.size 24 3 v (m0 + 1 + m2) (x0 ++ x1 ++ x2) ∧ Below w.heap.size w w' := by
  have h := concat_any B 3 cp (fun k => match k with | 0 => ao0 | 1 => some ⟨g, 0, none⟩ | _ => ao2) (fun k => match k with | 0 => m0 | 1 => 1 | _ => m2) (fun k => match k with | 0 => c0 | 1 => c1 | _ => c2) (fun k => match k with | 0 => x0 | 1 => x1 | _ => x2) w (by omega)
    (fun k hk => by
      match k, hk with
      | 0, _ => simp [World.cell?, hB]
      | 1, _ => simp [World.cell?, hB]
      | 2, _ => simp [World.cell?, hB])
    (Array.getElem?_eq_some_iff.1 hB).1
    (fun k hk => by
      match k, hk with
      | 0, _ => exact h0
      | 1, _ => exact h1
      | 2, _ => exact h2)
    (by simp [sumTo]; omega) (by simp [sumTo]; omega)
  simpa [sumTo, catTo] using h
end Go.Proofs.YtamgdhphmkehcaaGreatDoor
