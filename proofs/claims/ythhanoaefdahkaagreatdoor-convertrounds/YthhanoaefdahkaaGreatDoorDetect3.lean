/- law51: the program's Detect answers `det`, for every text. -/
import Derived.Test.YthhanoaefdahkaaGreatDoorDetect2
namespace Go.Proofs.YthhanoaefdahkaaGreatDoor
open Go.RowKit

def psOf (xs : Array Value) (k : Nat) : ByteArray := match xs[k]? with
  | some (.string p) => p
  | _ => ⟨#[]⟩

theorem beg_call (W0 : World) (xs : Array Value) (B H cnt : Nat) (s : ByteArray) (t : TypeId) (hB : W0.heap.size = B) (hxs : ∀ k, k < cnt → xs[k]? = some (.string (psOf xs k)))
    (hH : W0.heap[H]? = some (.cells #[.string s] 9 (0, 0))) (hc : cnt ≤ 3) :
    Calls Tryz.prog 15 #[.slice (some ⟨B, 0, none⟩) cnt cnt, .pointer (some ⟨H, 0, none⟩)] (W0.alloc (.cells xs t)) fun e w' => e = .returned (.bool (anyP s (psOf xs) cnt)) ∧ w'.heap[H]? = some (.cells #[.string s] 9 (0, 0)) ∧ Below W0.heap.size W0 w' := by
  subst hB
  have h1 := heap_alloc_new W0 (.cells xs t)
  have h2 : (W0.alloc (.cells xs t)).heap[H]? = some (.cells #[.string s] 9 (0, 0)) := (Below.heap_alloc W0 _ H (Array.getElem?_eq_some_iff.1 hH).1).trans hH
  refine (beg_any W0.heap.size H cnt cnt (psOf xs) s (W0.alloc (.cells xs t)) hc (fun k hk => by unfold World.cell?; simp only [h1]; exact hxs k hk) (by unfold World.cell?; simp only [h2]; rfl)).mono ?_
  rintro e w' ⟨rfl, rfl⟩
  exact ⟨rfl, h2, (Below.refl _ _).alloc (Nat.le_refl _) _⟩
end Go.Proofs.YthhanoaefdahkaaGreatDoor
