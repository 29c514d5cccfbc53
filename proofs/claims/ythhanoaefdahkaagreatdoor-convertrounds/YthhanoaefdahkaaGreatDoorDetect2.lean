/- law51: Detect and the specification's Detect answer alike, for every text. -/
import Derived.Test.YthhanoaefdahkaaGreatDoorDetect
namespace Go.Proofs.YthhanoaefdahkaaGreatDoor
open Go.RowKit

def det (s : ByteArray) : Int :=
  if (pre s ⟨#[80, 53]⟩ || pre s ⟨#[80, 54]⟩ || pre s ⟨#[80, 55]⟩) = true then 1 else if pre s ⟨#[137, 80, 78, 71, 13, 10, 26, 10]⟩ = true then 2
  else if (pre s ⟨#[73, 73, 42, 0]⟩ || pre s ⟨#[77, 77, 0, 42]⟩) = true then 3 else if pre s ⟨#[73, 69, 68, 49]⟩ = true then 4 else 0

set_option maxHeartbeats 3200000 in
theorem rdetect_any (s : ByteArray) (w : World) : Calls Tryz.prog 8 #[.string s] w fun e w' => e = .returned (.int .i64 (det s)) ∧ Below w.heap.size w w' := by
  have k := fun p W => begins_any s p W
  cases h1 : pre s ⟨#[80, 53]⟩ <;> cases h2 : pre s ⟨#[80, 54]⟩ <;> cases h3 : pre s ⟨#[80, 55]⟩ <;> cases h4 : pre s ⟨#[137, 80, 78, 71, 13, 10, 26, 10]⟩ <;> first | skip | skip
  all_goals
    go_enter Tryz.func8, Tryz.ntmps8
    go_wp2_with (go_at_call 17; refine (k _ _).mono ?_; rintro e w2 ⟨rfl, rfl⟩; try simp only [h1, h2, h3, h4])
    all_goals go_ret
    all_goals exact ⟨by simp_all [det], Below.refl _ _⟩

theorem three_of {W : World} {B : Nat} {x y z : Value} {t : TypeId} (h : W.heap[B]? = some (.cells #[x, y, z] t (0, 0))) : W.cell? ⟨B, 0, none⟩ = some x ∧ W.cell? ⟨B, 1, none⟩ = some y ∧ W.cell? ⟨B, 2, none⟩ = some z := by simp [World.cell?, h]
end Go.Proofs.YthhanoaefdahkaaGreatDoor
