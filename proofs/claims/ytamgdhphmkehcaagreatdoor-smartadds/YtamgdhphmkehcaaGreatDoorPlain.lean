/- Plain laws on libraries: when a library is valid, what putting a file in at its place makes of it, and of the searches; no program in sight. -/
import Derived.Test.YtamgdhphmkehcaaGreatDoorOrder
namespace Go.Proofs.YtamgdhphmkehcaaGreatDoor

/-- The byte of a text at a place. -/
def byteAt (s : ByteArray) (k : Nat) : Int := ((s.data[k]?.getD 0).toNat : Int)
def badB (c : Int) : Bool := decide (c < 33) || decide (126 < c)
def badTo (s : ByteArray) : Nat → Bool
  | 0 => false
  | k + 1 => badTo s k || badB (byteAt s k)
def okName (s : ByteArray) : Bool := decide (1 ≤ s.size) && decide (s.size ≤ 32) && !badTo s s.size
theorem badTo_stay {s : ByteArray} : ∀ {k m : Nat}, k ≤ m → badTo s k = true → badTo s m = true
  | k, 0, h, hb => by obtain rfl : k = 0 := by omega
                      exact hb
  | k, m + 1, h, hb => by
    by_cases e : k = m + 1
    · subst e; exact hb
    · simp [badTo, badTo_stay (show k ≤ m by omega) hb]
/-- The error of a file alone. -/
def sgl (n d : ByteArray) (r : Int) : Int := if okName n = false then 13 else if r < 1 ∨ 1073741824 < r then 2 else if 1048576 < d.size then 3 else 0
/-- The error of the first k files. -/
def chk (N D : Nat → ByteArray) (R : Nat → Int) : Nat → Int
  | 0 => 0
  | k + 1 => if chk N D R k ≠ 0 then chk N D R k else if sgl (N k) (D k) (R k) ≠ 0 then sgl (N k) (D k) (R k) else if 0 < k ∧ lessP (N (k - 1)) (N k) (R (k - 1)) (R k) = false then 24 else 0
/-- The error of a library. -/
def chkL (N D : Nat → ByteArray) (R : Nat → Int) (len : Nat) : Int := if 256 < len then 3 else chk N D R len

section
variable {N D : Nat → ByteArray} {R : Nat → Int}
theorem chk_stay : ∀ {k m : Nat}, k ≤ m → chk N D R k ≠ 0 → chk N D R m = chk N D R k
  | k, 0, h, hb => by obtain rfl : k = 0 := by omega
                      rfl
  | k, m + 1, h, hb => by
    by_cases e : k = m + 1
    · subst e; rfl
    · have h1 := chk_stay (show k ≤ m by omega) hb
      rw [chk, if_pos (by rw [h1]; exact hb), h1]
theorem chk_zero : ∀ {k : Nat}, chk N D R k = 0 ↔ (∀ i, i < k → sgl (N i) (D i) (R i) = 0) ∧ ∀ i, i + 1 < k → lessP (N i) (N (i + 1)) (R i) (R (i + 1)) = true
  | 0 => by constructor
            · intro _; exact ⟨fun i hi => by omega, fun i hi => by omega⟩
            · intro _; rfl
  | k + 1 => by
    rw [chk]
    constructor
    · intro h
      split at h
      · rename_i h1; exact absurd h h1
      · rename_i h1
        have h1 : chk N D R k = 0 := by simpa using h1
        obtain ⟨a, b⟩ := chk_zero.1 h1
        split at h
        · rename_i h2; exact absurd h h2
        · rename_i h2
          have h2 : sgl (N k) (D k) (R k) = 0 := by simpa using h2
          split at h
          · cases h
          · rename_i h3
            refine ⟨fun i hi => ?_, fun i hi => ?_⟩
            · by_cases e : i = k
              · subst e; exact h2
              · exact a i (by omega)
            · by_cases e : i + 1 = k
              · subst e
                cases h4 : lessP (N i) (N (i + 1)) (R i) (R (i + 1)) with
                | true => rfl
                | false => exact absurd ⟨by omega, by simpa using h4⟩ h3
              · exact b i (by omega)
    · rintro ⟨a, b⟩
      have h1 : chk N D R k = 0 := chk_zero.2 ⟨fun i hi => a i (by omega), fun i hi => b i (by omega)⟩
      rw [if_neg (by simp [h1]), if_neg (by simp [a k (by omega)]), if_neg]
      rintro ⟨h2, h3⟩
      have := b (k - 1) (by omega)
      rw [show k - 1 + 1 = k by omega] at this
      rw [this] at h3; cases h3
/-- In a sorted library an earlier file comes before a later one. -/
theorem sorted_lt {len : Nat} (h : ∀ i, i + 1 < len → lessP (N i) (N (i + 1)) (R i) (R (i + 1)) = true) : ∀ {i j : Nat}, i < j → j < len → lessP (N i) (N j) (R i) (R j) = true
  | i, 0, hij, _ => by omega
  | i, j + 1, hij, hj => by
    by_cases e : i = j
    · subst e; exact h i hj
    · exact lp_trans (sorted_lt h (show i < j by omega) (by omega)) (h j hj)
end

/-- A value put in at a place. -/
def insF {α : Type} (at_ : Nat) (x : α) (F : Nat → α) (j : Nat) : α := if j < at_ then F j else if j = at_ then x else F (j - 1)
section
variable {α : Type} {at_ : Nat} {x : α} {F : Nat → α}
theorem ins_lo {j : Nat} (h : j < at_) : insF at_ x F j = F j := if_pos h
theorem ins_at : insF at_ x F at_ = x := by simp [insF]
theorem ins_hi {j : Nat} (h : at_ ≤ j) : insF at_ x F (j + 1) = F j := by
  unfold insF
  rw [if_neg (by omega), if_neg (by omega)]
  simp
end

section
variable {N D : Nat → ByteArray} {R : Nat → Int} {n d : ByteArray} {r : Int} {len at_ : Nat}
theorem chk_ins (hc : chk N D R len = 0) (hs : sgl n d r = 0) (ha : at_ ≤ len) (hpre : ∀ i, i < at_ → lessP (N i) n (R i) r = true) (hat : at_ < len → lessP (N at_) n (R at_) r = false)
    (hno : ∀ i, i < len → ¬ ((N i).toList = n.toList ∧ R i = r)) : chk (insF at_ n N) (insF at_ d D) (insF at_ r R) (len + 1) = 0 := by
  obtain ⟨h1, h2⟩ := chk_zero.1 hc
  refine chk_zero.2 ⟨fun i hi => ?_, fun i hi => ?_⟩
  · rcases Nat.lt_trichotomy i at_ with h | h | h
    · rw [ins_lo h, ins_lo h, ins_lo h]; exact h1 i (by omega)
    · subst h; rw [ins_at, ins_at, ins_at]; exact hs
    · obtain ⟨j, rfl⟩ : ∃ j, i = j + 1 := ⟨i - 1, by omega⟩
      rw [ins_hi (by omega), ins_hi (by omega), ins_hi (by omega)]; exact h1 j (by omega)
  · rcases Nat.lt_trichotomy (i + 1) at_ with h | h | h
    · rw [ins_lo h, ins_lo h, ins_lo (show i < at_ by omega), ins_lo (show i < at_ by omega)]; exact h2 i (by omega)
    · subst h; rw [ins_at, ins_at, ins_lo (by omega), ins_lo (by omega)]; exact hpre i (by omega)
    · by_cases e : i = at_
      · subst e
        rw [ins_at, ins_at, ins_hi (Nat.le_refl _), ins_hi (Nat.le_refl _)]
        have h3 := hat (by omega)
        cases h4 : lessP n (N i) r (R i) with
        | true => rfl
        | false =>
          obtain ⟨e1, e2⟩ := lp_tri h3 h4
          exact absurd ⟨e1, e2⟩ (hno i (by omega))
      · obtain ⟨j, rfl⟩ : ∃ j, i = j + 1 := ⟨i - 1, by omega⟩
        rw [ins_hi (by omega), ins_hi (by omega), ins_hi (by omega), ins_hi (by omega)]; exact h2 j (by omega)

/-- The two searches find the same file. -/
def Same (N D N' D' : Nat → ByteArray) (R R' : Nat → Int) : Option Nat → Option Nat → Prop
  | none, none => True
  | some i, some j => N i = N' j ∧ D i = D' j ∧ R i = R' j
  | _, _ => False
theorem same_vals {N' D' : Nat → ByteArray} {R' : Nat → Int} {o o' : Option Nat} (h : Same N D N' D' R R' o o') : bN N o = bN N' o' ∧ bN D o = bN D' o' ∧ bR R o = bR R' o' ∧ o.isSome = o'.isSome := by
  cases o <;> cases o' <;> simp_all [Same, bN, bR]
theorem better_same {N' D' : Nat → ByteArray} {R' : Nat → Int} {o o' : Option Nat} (h : Same N D N' D' R R' o o') (x : Int) : better R x o = better R' x o' := by
  cases o <;> cases o' <;> simp_all [Same, better]
theorem st_lo {o : ByteArray} : ∀ {k : Nat}, k ≤ at_ → st (insF at_ n N) (insF at_ r R) o yes k = st N R o yes k
  | 0, _ => rfl
  | k + 1, h => by
    have ih := st_lo (o := o) (show k ≤ at_ by omega)
    simp only [st, ih, ins_lo (show k < at_ by omega)]
    have : better (insF at_ r R) (R k) (st N R o yes k) = better R (R k) (st N R o yes k) := by
      cases hs : st N R o yes k with
      | none => rfl
      | some j => simp only [better]; rw [ins_lo]; have := (st_max hs).1; omega
    rw [this]
theorem st_other {o : ByteArray} (ho : n.toList ≠ o.toList) : ∀ {k : Nat}, at_ ≤ k → Same N D (insF at_ n N) (insF at_ d D) R (insF at_ r R) (st N R o yes k) (st (insF at_ n N) (insF at_ r R) o yes (k + 1))
  | k, h => by
    by_cases e : at_ = k
    · subst e
      have h1 : st (insF at_ n N) (insF at_ r R) o yes (at_ + 1) = st N R o yes at_ := by
        rw [st, if_neg (by rw [ins_at]; simp [ho]), st_lo (Nat.le_refl _)]
      rw [h1]
      cases hs : st N R o yes at_ with
      | none => trivial
      | some j =>
        have := (st_max hs).1
        exact ⟨(ins_lo this).symm, (ins_lo this).symm, (ins_lo this).symm⟩
    · obtain ⟨m, rfl⟩ : ∃ m, k = m + 1 := ⟨k - 1, by omega⟩
      have ih := st_other ho (show at_ ≤ m by omega)
      have hb := better_same ih (R m)
      rw [st, st]
      rw [ins_hi (show at_ ≤ m by omega), ins_hi (show at_ ≤ m by omega), ← hb]
      by_cases hc : ((N m).toList == o.toList && yes (R m) && better R (R m) (st N R o yes m)) = true
      · rw [if_pos hc, if_pos hc]
        exact ⟨(ins_hi (by omega)).symm, (ins_hi (by omega)).symm, (ins_hi (by omega)).symm⟩
      · rw [if_neg hc, if_neg hc]
        exact ih
theorem st_mine (hlt : ∀ i, i < len → (N i).toList = n.toList → R i < r) : ∀ {k : Nat}, at_ ≤ k → k ≤ len → st (insF at_ n N) (insF at_ r R) n yes (k + 1) = some at_
  | k, h, hk => by
    by_cases e : at_ = k
    · subst e
      rw [st, if_pos]
      rw [ins_at, ins_at, st_lo (Nat.le_refl _)]
      cases hs : st N R n yes at_ with
      | none => simp [yes, better]
      | some j =>
        obtain ⟨h1, h2, _⟩ := st_max hs
        have := hlt j (by omega) h2
        simp only [yes, better, ins_lo h1]
        simp [this]
    · obtain ⟨m, rfl⟩ : ∃ m, k = m + 1 := ⟨k - 1, by omega⟩
      have ih := st_mine hlt (show at_ ≤ m by omega) (by omega)
      rw [st, if_neg, ih]
      rw [ih, ins_hi (show at_ ≤ m by omega), ins_hi (show at_ ≤ m by omega)]
      simp only [better, ins_at, Bool.and_eq_true, beq_iff_eq, decide_eq_true_eq]
      rintro ⟨⟨h1, _⟩, h2⟩
      have := hlt m (by omega) h1
      omega
end
end Go.Proofs.YtamgdhphmkehcaaGreatDoor
