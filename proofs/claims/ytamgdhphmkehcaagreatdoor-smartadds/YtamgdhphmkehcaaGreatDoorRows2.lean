/- Files as rows of cells: what a row of files holds, and a row that the call owns read as a library. -/
import Derived.Test.YtamgdhphmkehcaaGreatDoorPlain
import Derived.OwnWalk
namespace Go.Proofs.YtamgdhphmkehcaaGreatDoor
open Go.RowKit

theorem keep_b {W W' : World} {b : Nat} {ob : Obj} (h : Below W.heap.size W W') (hb : W.heap[b]? = some ob) : W'.heap[b]? = some ob := (h.block _ (Array.getElem?_eq_some_iff.1 hb).1).trans hb
theorem keep_a {W : World} {b : Nat} {ob : Obj} (hb : W.heap[b]? = some ob) (o : Obj) : (W.alloc o).heap[b]? = some ob := (Below.heap_alloc _ _ _ (Array.getElem?_eq_some_iff.1 hb).1).trans hb
theorem three_cells {W : World} {b : Nat} {x y z : Value} {t : TypeId} (h : W.heap[b]? = some (.cells #[x, y, z] t (0, 0))) : W.cell? ⟨b, 0, none⟩ = some x ∧ W.cell? ⟨b, 1, none⟩ = some y ∧ W.cell? ⟨b, 2, none⟩ = some z := by simp [World.cell?, h]

/-- The cells of k files from the place i on. -/
def cellsOf (N D : Nat → ByteArray) (R : Nat → Int) (i : Nat) : Nat → List Value
  | 0 => []
  | k + 1 => cellsOf N D R i k ++ [.string (N (i + k)), .int .i64 (R (i + k)), .string (D (i + k))]
section
variable {N D N' D' : Nat → ByteArray} {R R' : Nat → Int} {i j k : Nat}
theorem cellsOf_len : ∀ k, (cellsOf N D R i k).length = k * 3
  | 0 => rfl
  | k + 1 => by simp [cellsOf, cellsOf_len k]; omega
theorem cellsOf_one : ∀ k, ∀ u ∈ cellsOf N D R i k, u.oneCell' = true
  | 0, u, h => by cases h
  | k + 1, u, h => by
    simp only [cellsOf, List.mem_append, List.mem_cons, List.not_mem_nil, or_false] at h
    rcases h with h | rfl | rfl | rfl
    · exact cellsOf_one k u h
    · rfl
    · rfl
    · rfl
theorem cellsOf_get : ∀ {k j : Nat}, j < k → (cellsOf N D R i k)[j * 3]? = some (.string (N (i + j))) ∧ (cellsOf N D R i k)[j * 3 + 1]? = some (.int .i64 (R (i + j))) ∧ (cellsOf N D R i k)[j * 3 + 2]? = some (.string (D (i + j)))
  | 0, j, h => by omega
  | k + 1, j, h => by
    have hl := cellsOf_len (N := N) (D := D) (R := R) (i := i) k
    by_cases e : j = k
    · subst e
      simp only [cellsOf]
      rw [List.getElem?_append_right (by omega), List.getElem?_append_right (by omega), List.getElem?_append_right (by omega), hl]
      refine ⟨?_, ?_, ?_⟩
      · rw [Nat.sub_self]; rfl
      · rw [show j * 3 + 1 - j * 3 = 1 by omega]; rfl
      · rw [show j * 3 + 2 - j * 3 = 2 by omega]; rfl
    · simp only [cellsOf]
      rw [List.getElem?_append_left (by omega), List.getElem?_append_left (by omega), List.getElem?_append_left (by omega)]
      exact cellsOf_get (by omega)
theorem cellsOf_add : ∀ (a b : Nat), cellsOf N D R i (a + b) = cellsOf N D R i a ++ cellsOf N D R (i + a) b
  | a, 0 => by simp [cellsOf]
  | a, b + 1 => by
    rw [← Nat.add_assoc]
    simp only [cellsOf, cellsOf_add a b, List.append_assoc]
    simp [Nat.add_assoc]
theorem cellsOf_congr {N D N' D' : Nat → ByteArray} {R R' : Nat → Int} {i j : Nat} : ∀ {k : Nat}, (∀ t, t < k → N (i + t) = N' (j + t) ∧ D (i + t) = D' (j + t) ∧ R (i + t) = R' (j + t)) → cellsOf N D R i k = cellsOf N' D' R' j k
  | 0, _ => rfl
  | k + 1, h => by
    obtain ⟨h1, h2, h3⟩ := h k (by omega)
    have ih := cellsOf_congr (N := N) (D := D) (R := R) (N' := N') (D' := D') (R' := R') (i := i) (j := j) (k := k) (fun t ht => h t (by omega))
    simp only [cellsOf, ih, h1, h2, h3]
theorem cellsOf_ins {n d : ByteArray} {r : Int} {len at_ : Nat} (h : at_ ≤ len) : cellsOf N D R 0 at_ ++ [.string n, .int .i64 r, .string d] ++ cellsOf N D R at_ (len - at_) = cellsOf (insF at_ n N) (insF at_ d D) (insF at_ r R) 0 (len + 1) := by
  have e : len + 1 = (at_ + 1) + (len - at_) := by omega
  rw [e, cellsOf_add, cellsOf_add]
  congr 1
  · congr 1
    · exact cellsOf_congr fun t ht => by simp only [Nat.zero_add]; exact ⟨(ins_lo ht).symm, (ins_lo ht).symm, (ins_lo ht).symm⟩
    · simp only [cellsOf, List.nil_append, Nat.zero_add, Nat.add_zero, ins_at]
  · refine cellsOf_congr fun t ht => ?_
    rw [show 0 + (at_ + 1) + t = (at_ + t) + 1 by omega, ins_hi (by omega), ins_hi (by omega), ins_hi (by omega)]
    exact ⟨rfl, rfl, rfl⟩
end

theorem lib_of_owns {w : World} {base m : Nat} {v : Value} {N D : Nat → ByteArray} {R : Nat → Int} (hown : w.ownsRow base 24 3 v m (cellsOf N D R 0 m)) (hm : 0 < m) :
    ∃ g cap, v = .slice (some ⟨g, 0, none⟩) m cap ∧ Lib w ⟨g, 0, none⟩ m N D R ∧ base ≤ g ∧ g < w.heap.size ∧ m ≤ cap := by
  rcases hown.2 with ⟨rfl, h⟩ | ⟨g, cap, cur, rfl, hb, hg, hmc, _, _, _⟩
  · omega
  · have hadd : ∀ j, (⟨g, 0, none⟩ : Addr).add j = ⟨g, j, none⟩ := fun j => by unfold Addr.add; split <;> simp_all
    have hc : ∀ j u, (cellsOf N D R 0 m)[j]? = some u → w.cell? ⟨g, j, none⟩ = some u := fun j u hu => by
      have := hown.cells (g := g) rfl j u hu
      rwa [hadd] at this
    refine ⟨g, cap, rfl, ⟨fun j hj => ?_, fun j hj => ?_, fun j hj => ?_⟩, hb, (Array.getElem?_eq_some_iff.1 hg).1, hmc⟩
    · rw [hadd]; have := (cellsOf_get (N := N) (D := D) (R := R) (i := 0) hj).1; rw [Nat.zero_add] at this; exact hc _ _ this
    · rw [hadd]; have := (cellsOf_get (N := N) (D := D) (R := R) (i := 0) hj).2.1; rw [Nat.zero_add] at this; exact hc _ _ this
    · rw [hadd]; have := (cellsOf_get (N := N) (D := D) (R := R) (i := 0) hj).2.2; rw [Nat.zero_add] at this; exact hc _ _ this

theorem spot_none {w : World} {a : Addr} {u : Value} (h : w.cell? a = some u) : a.spot = none := by
  cases hs : a.spot with
  | none => rfl
  | some x =>
    unfold World.cell? at h
    split at h
    · simp [hs] at h
    · cases h
theorem Lib.cells {w : World} {a : Addr} {len : Nat} {N D : Nat → ByteArray} {R : Nat → Int} (h : Lib w a len N D R) {i k : Nat} (hik : i + k ≤ len) : ∀ j u, (cellsOf N D R i k)[j]? = some u → w.cell? ((a.add (i * 3)).add j) = some u := by
  intro j u hu
  have hj : j < k * 3 := by
    have := (List.getElem?_eq_some_iff.1 hu).1
    rw [cellsOf_len] at this; exact this
  have hsp : a.spot = none := by
    have h0 := h.n 0 (by omega)
    rw [show a.add (0 * 3) = a from if_pos (by omega)] at h0
    exact spot_none h0
  have haddz : ∀ m, a.add m = ⟨a.block, a.off + m, none⟩ := fun m => by
    unfold Addr.add
    split
    · rename_i e; subst e; cases a; simp_all
    · rfl
  have hadd2 : (a.add (i * 3)).add j = ⟨a.block, a.off + (i * 3 + j), none⟩ := by
    rw [haddz]; unfold Addr.add
    split
    · rename_i e; subst e; rfl
    · simp [Nat.add_assoc]
  rw [hadd2]
  obtain ⟨q, rfl | rfl | rfl⟩ : ∃ q, j = q * 3 ∨ j = q * 3 + 1 ∨ j = q * 3 + 2 := ⟨j / 3, by omega⟩
  · rw [(cellsOf_get (show q < k by omega)).1] at hu
    cases hu
    have := h.n (i + q) (by omega)
    rw [haddz] at this
    rw [← this]; congr 2; omega
  · rw [(cellsOf_get (show q < k by omega)).2.1] at hu
    cases hu
    have := h.r (i + q) (by omega)
    simp only [haddz] at this
    rw [← this]; congr 2; omega
  · rw [(cellsOf_get (show q < k by omega)).2.2] at hu
    cases hu
    have := h.d (i + q) (by omega)
    simp only [haddz] at this
    rw [← this]; congr 2; omega
end Go.Proofs.YtamgdhphmkehcaaGreatDoor
