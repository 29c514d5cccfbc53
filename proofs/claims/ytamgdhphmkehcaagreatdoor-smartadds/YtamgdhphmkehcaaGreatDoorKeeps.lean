/- SmartKeeps: whatever the library (nil too), the file and the other name, it answers true; what was in memory stays. -/
import Derived.Test.YtamgdhphmkehcaaGreatDoorKWalk
import Derived.Test.YtamgdhphmkehcaaGreatDoorAdd
import Derived.Test.YtamgdhphmkehcaaGreatDoorAddNil
namespace Go.Proofs.YtamgdhphmkehcaaGreatDoor
open Go.RowKit

/-- A library that lies in memory, or the nil one. -/
def LibV (w : World) (lv : Value) (len : Nat) (N D : Nat → ByteArray) (R : Nat → Int) : Prop :=
  (lv = .slice none 0 0 ∧ len = 0) ∨ ∃ a cap, lv = .slice (some a) len cap ∧ Lib w a len N D R ∧ (0 < len → a.block < w.heap.size) ∧ len ≤ 9223372036854775807 ∧ len ≤ cap
section
variable {w W : World} {lv : Value} {len : Nat} {N D : Nat → ByteArray} {R : Nat → Int}
theorem LibV.mono (h : LibV w lv len N D R) (hb : Below w.heap.size w W) : LibV W lv len N D R := by
  rcases h with h | ⟨a, cap, h1, h2, h3, h4, h5⟩
  · exact .inl h
  · exact .inr ⟨a, cap, h1, h2.mono hb h3, fun h0 => Nat.lt_of_lt_of_le (h3 h0) hb.size, h4, h5⟩
theorem latest_v (h : LibV w lv len N D R) (nm : ByteArray) : Calls Tryz.prog 13 #[lv, .string nm] w fun e w' =>
    e = .returned (.tuple #[.agg #[.string (bN N (st N R nm yes len)), .int .i64 (bR R (st N R nm yes len)), .string (bN D (st N R nm yes len))], .bool (st N R nm yes len).isSome]) ∧ Below w.heap.size w w' := by
  rcases h with ⟨rfl, rfl⟩ | ⟨a, cap, rfl, h2, h3, h4, h5⟩
  · exact latest_nil nm w
  · exact latest_any a len cap N D R nm w h2 h3 h4
theorem check_v (h : LibV w lv len N D R) : Calls Tryz.prog 9 #[lv] w fun e w' => e = .returned (.int .i64 (chkL N D R len)) ∧ Below w.heap.size w w' := by
  rcases h with ⟨rfl, rfl⟩ | ⟨a, cap, rfl, h2, h3, h4, h5⟩
  · exact check_nil w
  · exact check_some a len cap N D R w h2 h3 h4
theorem add_v (h : LibV w lv len N D R) (n d : ByteArray) (r : Int) : Calls Tryz.prog 7 #[lv, .agg #[.string n, .int .i64 r, .string d]] w fun e w' => ∃ v, e = .returned (.tuple #[v, .int .i64 (addE N D R len n d r)]) ∧ Below w.heap.size w w' ∧
      (addE N D R len n d r ≠ 0 → v = .slice none 0 0) ∧
      (addE N D R len n d r = 0 → ∃ at_, At N R len n r at_ ∧ w'.ownsRow w.heap.size 24 3 v (len + 1) (cellsOf (insF at_ n N) (insF at_ d D) (insF at_ r R) 0 (len + 1))) := by
  rcases h with ⟨rfl, rfl⟩ | ⟨a, cap, rfl, h2, h3, h4, h5⟩
  · exact add_nil N D R n d r w
  · exact add_some a len cap N D R n d r w h2 h3 h4 h5
end

theorem addE_zero {N D : Nat → ByteArray} {R : Nat → Int} {len : Nat} {n d : ByteArray} {r : Int} (h : addE N D R len n d r = 0) :
    len < 256 ∧ chk N D R len = 0 ∧ sgl n d r = 0 ∧ (∀ i, i < len → ¬ ((N i).toList = n.toList ∧ R i = r)) ∧ ∀ i, i < len → (N i).toList = n.toList → R i < r := by
  unfold addE at h
  split at h
  · rename_i h1; exact absurd h h1
  · rename_i h1
    split at h
    · rename_i h2; exact absurd h h2
    · rename_i h2
      split at h
      · cases h
      · rename_i h3
        split at h
        · cases h
        · rename_i h4
          split at h
          · cases h
          · rename_i h5
            have hno := dup_no (by simpa using h3)
            have hc : chkL N D R len = 0 := by simpa using h1
            unfold chkL at hc
            rw [if_neg (by omega)] at hc
            refine ⟨by omega, hc, by simpa using h2, hno, fun i hi hn => ?_⟩
            have h6 := hno i hi
            cases hs : st N R n yes len with
            | none => exact absurd hn (st_none hs i hi)
            | some j =>
              have h7 := (st_max hs).2.2 i hi hn
              rw [hs] at h4
              simp only [stale, decide_eq_true_eq] at h4
              have : R i ≠ r := fun e => h6 ⟨hn, e⟩
              omega

theorem keeps_v {w : World} {lv : Value} {len : Nat} {N D : Nat → ByteArray} {R : Nat → Int} (h : LibV w lv len N D R) (n d other : ByteArray) (r : Int) :
    Calls Tryz.prog 5 #[lv, .agg #[.string n, .int .i64 r, .string d], .string other] w fun e w' => e = .returned (.bool true) ∧ Below w.heap.size w w' := by
  by_cases hE : addE N D R len n d r = 0
  · obtain ⟨h1, h2, h3, h4, h5⟩ := addE_zero hE
    refine keeps_ok lv len (len + 1) (by omega) ?_ (by omega) n d other (bN N (st N R other yes len)) (bN D (st N R other yes len)) r (bR R (st N R other yes len)) (st N R other yes len).isSome w (fun W hW => ?_) (fun W hW => latest_v (h.mono hW) other)
    · rcases h with h | ⟨a, cap, h, _⟩
      · exact .inr h
      · exact .inl ⟨a, cap, h⟩
    · refine (add_v (h.mono hW) n d r).mono fun e w' ⟨v, he, hb, _, hz⟩ => ?_
      obtain ⟨at_, hat, hown⟩ := hz hE
      obtain ⟨g, cap, rfl, hlib, hg1, hg2, hc⟩ := lib_of_owns hown (by omega)
      rw [hE] at he
      have hv : ∀ W', Below w'.heap.size w' W' → LibV W' (.slice (some ⟨g, 0, none⟩) (len + 1) cap) (len + 1) (insF at_ n N) (insF at_ d D) (insF at_ r R) := fun W' hW' =>
        LibV.mono (.inr ⟨_, _, rfl, hlib, fun _ => hg2, by omega, hc⟩) hW'
      refine ⟨g, cap, he, hb, fun W' hW' => ?_, ?_, fun W' hW' => ?_⟩
      · have := latest_v (hv W' hW') n
        rw [st_mine h5 hat.le (Nat.le_refl _)] at this
        simp only [bN, bR, ins_at] at this
        exact this
      · refine ⟨_, _, _, _, fun hne => ?_, fun W' hW' => latest_v (hv W' hW') other⟩
        obtain ⟨e1, e2, e3, e4⟩ := same_vals (st_other (N := N) (D := D) (R := R) (n := n) (d := d) (r := r) (fun e => hne e.symm) hat.le)
        exact ⟨e1.symm, e3.symm, e2.symm, e4.symm⟩
      · have := check_v (hv W' hW')
        have hc : chkL (insF at_ n N) (insF at_ d D) (insF at_ r R) (len + 1) = 0 := by
          unfold chkL
          rw [if_neg (by omega)]
          exact chk_ins h2 h3 hat.le hat.pre hat.stop h4
        rwa [hc] at this
  · exact keeps_err lv n d other r _ hE w fun W hW => (add_v (h.mono hW) n d r).mono fun e w' ⟨v, he, hb, hn, _⟩ => by
      rw [hn hE] at he
      exact ⟨he, hb⟩
end Go.Proofs.YtamgdhphmkehcaaGreatDoor
