/- Plain laws on the order of files: a strict linear order; what a sorted library with a file put in at its place is; no program in sight. -/
import Derived.Test.YtamgdhphmkehcaaGreatDoorSeek
namespace Go.Proofs.YtamgdhphmkehcaaGreatDoor

theorem bl_irr : ∀ x : List UInt8, Op.bytesLess x x = false
  | [] => rfl
  | a :: x => by simp [Op.bytesLess, bl_irr x]
theorem bl_trans : ∀ {x y z : List UInt8}, Op.bytesLess x y = true → Op.bytesLess y z = true → Op.bytesLess x z = true
  | _, [], _, h, _ => by simp [Op.bytesLess] at h
  | _, _ :: _, [], _, h => by simp [Op.bytesLess] at h
  | [], _ :: _, _ :: _, _, _ => rfl
  | a :: x, b :: y, c :: z, h1, h2 => by
    simp only [Op.bytesLess, Bool.or_eq_true, decide_eq_true_eq, Bool.and_eq_true, beq_iff_eq] at h1 h2 ⊢
    rcases h1 with h1 | ⟨rfl, h1⟩
    · rcases h2 with h2 | ⟨rfl, h2⟩
      · left; exact UInt8.lt_trans h1 h2
      · left; exact h1
    · rcases h2 with h2 | ⟨rfl, h2⟩
      · left; exact h2
      · right; exact ⟨rfl, bl_trans h1 h2⟩
theorem bl_tri : ∀ {x y : List UInt8}, Op.bytesLess x y = false → Op.bytesLess y x = false → x = y
  | [], [], _, _ => rfl
  | [], _ :: _, h, _ => by simp [Op.bytesLess] at h
  | _ :: _, [], _, h => by simp [Op.bytesLess] at h
  | a :: x, b :: y, h1, h2 => by
    simp only [Op.bytesLess, Bool.or_eq_false_iff, decide_eq_false_iff_not, Bool.and_eq_false_iff, beq_eq_false_iff_ne] at h1 h2
    have hab : a = b := by
      have h3 := h1.1; have h4 := h2.1
      rw [UInt8.lt_iff_toNat_lt] at h3 h4
      exact UInt8.toNat_inj.1 (by omega)
    subst hab
    have h3 : Op.bytesLess x y = false := h1.2.resolve_left (by simp)
    have h4 : Op.bytesLess y x = false := h2.2.resolve_left (by simp)
    rw [bl_tri h3 h4]

/-- One file comes before another: by its name, then by its revision. -/
def lessP (n m : ByteArray) (r s : Int) : Bool := Op.bytesLess n.toList m.toList || (n.toList == m.toList && decide (r < s))
theorem lp_irr (n : ByteArray) (r : Int) : lessP n n r r = false := by simp [lessP, bl_irr]
theorem lp_trans {n m p : ByteArray} {r s t : Int} (h1 : lessP n m r s = true) (h2 : lessP m p s t = true) : lessP n p r t = true := by
  simp only [lessP, Bool.or_eq_true, Bool.and_eq_true, beq_iff_eq, decide_eq_true_eq] at h1 h2 ⊢
  rcases h1 with h1 | ⟨e1, h1⟩
  · rcases h2 with h2 | ⟨e2, h2⟩
    · left; exact bl_trans h1 h2
    · left; rw [← e2]; exact h1
  · rcases h2 with h2 | ⟨e2, h2⟩
    · left; rw [e1]; exact h2
    · right; exact ⟨e1.trans e2, by omega⟩
theorem lp_asymm {n m : ByteArray} {r s : Int} (h1 : lessP n m r s = true) : lessP m n s r = false := by
  cases h2 : lessP m n s r with
  | false => rfl
  | true => have := lp_trans h1 h2; rw [lp_irr] at this; cases this
theorem lp_tri {n m : ByteArray} {r s : Int} (h1 : lessP n m r s = false) (h2 : lessP m n s r = false) : n.toList = m.toList ∧ r = s := by
  simp only [lessP, Bool.or_eq_false_iff, Bool.and_eq_false_iff, beq_eq_false_iff_ne, decide_eq_false_iff_not] at h1 h2
  have e := bl_tri h1.1 h2.1
  refine ⟨e, ?_⟩
  have h3 := h1.2.resolve_left (fun h => h e)
  have h4 := h2.2.resolve_left (fun h => h e.symm)
  omega

section
variable {N : Nat → ByteArray} {R : Nat → Int} {nm : ByteArray}
/-- Where the search finds nothing, no file has the name. -/
theorem st_none : ∀ {k : Nat}, st N R nm yes k = none → ∀ i, i < k → (N i).toList ≠ nm.toList
  | 0, _, i, hi => by omega
  | k + 1, h, i, hi => by
    simp only [st] at h
    split at h
    · cases h
    · rename_i hc
      by_cases e : i = k
      · subst e
        intro hn
        simp [hn, yes, h, better] at hc
      · exact st_none h i (by omega)
/-- What the search for the latest file finds: the first of the greatest revision. -/
theorem st_max : ∀ {k j : Nat}, st N R nm yes k = some j → j < k ∧ (N j).toList = nm.toList ∧ ∀ i, i < k → (N i).toList = nm.toList → R i ≤ R j
  | 0, j, h => by cases h
  | k + 1, j, h => by
    simp only [st] at h
    split at h
    · rename_i hc
      cases h
      simp only [Bool.and_eq_true, beq_iff_eq, yes] at hc
      refine ⟨by omega, hc.1.1, fun i hi hn => ?_⟩
      by_cases e : i = k
      · subst e; exact Int.le_refl _
      · cases hs : st N R nm yes k with
        | none =>
          exact absurd hn (st_none hs i (by omega))
        | some l =>
          obtain ⟨_, _, h3⟩ := st_max hs
          have := h3 i (by omega) hn
          have hb := hc.2
          rw [hs] at hb
          simp only [better, decide_eq_true_eq] at hb
          omega
    · rename_i hc
      obtain ⟨h1, h2, h3⟩ := st_max h
      refine ⟨by omega, h2, fun i hi hn => ?_⟩
      by_cases e : i = k
      · subst e
        simp only [Bool.and_eq_true, beq_iff_eq, yes, h, better, decide_eq_true_eq, not_and, and_true] at hc
        have := hc hn
        omega
      · exact h3 i (by omega) hn
end
end Go.Proofs.YtamgdhphmkehcaaGreatDoor
