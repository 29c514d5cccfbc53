/- law51: what Round answers, in plain words: its error, sizes and pixels. -/
import Derived.Test.YthhanoaefdahkaaGreatDoorChki
namespace Go.Proofs.YthhanoaefdahkaaGreatDoor
open Go.RowKit

def rp (P : Nat → Nat → Int) (j k : Nat) : Int := if rr (P j 3) = 0 then 0 else rr (P j k)
theorem rp_in {P : Nat → Nat → Int} {j k : Nat} (h : okP P j = true) (hk : k < 4) : 0 ≤ rp P j k ∧ rp P j k ≤ 65535 := by
  obtain ⟨h1, h2⟩ := okP_at h hk
  have := rr_in h1 h2
  unfold rp; split <;> omega
theorem rp_rp (P : Nat → Nat → Int) (j k : Nat) : rp (rp P) j k = rp P j k := by
  unfold rp
  by_cases h : rr (P j 3) = 0
  · simp only [h, if_true]; rw [rr_zero]; rfl
  · simp only [if_neg h, rr_rr]
/-- The error of Round. -/
def eR (iw ih : Int) (n : Nat) (P : Nat → Nat → Int) (dep : Int) : Int := if chkI iw ih n P ≠ 0 then chkI iw ih n P else if dep = 8 ∨ dep = 16 then 0 else 2
def pR (P : Nat → Nat → Int) (dep : Int) : Nat → Nat → Int := if dep = 8 then rp P else P
def sR (e x : Int) : Int := if e = 0 then x else 0
def nR (e : Int) (n : Nat) : Nat := if e = 0 then n else 0
/-- A call of a Round at a world. -/
def Rnds (f : FuncId) (iw ih : Int) (ao : Option Addr) (n c : Nat) (P : Nat → Nat → Int) (dep : Int) (W : World) : Prop :=
  Calls Tryz.prog f #[.agg #[.int .i64 iw, .int .i64 ih, .slice ao n c], .int .i64 dep] W fun e w' =>
    ∃ ao' c', e = .returned (.tuple #[.agg #[.int .i64 (sR (eR iw ih n P dep) iw), .int .i64 (sR (eR iw ih n P dep) ih), .slice ao' (nR (eR iw ih n P dep) n) c'], .int .i64 (eR iw ih n P dep)]) ∧ Img w' ao' (nR (eR iw ih n P dep) n) c' (pR P dep) ∧ Below W.heap.size W w'
end Go.Proofs.YthhanoaefdahkaaGreatDoor
