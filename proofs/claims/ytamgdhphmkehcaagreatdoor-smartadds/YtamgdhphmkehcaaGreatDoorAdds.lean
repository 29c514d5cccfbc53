/- SmartAdds: whatever the library (nil too) and the file, it answers true; what was in memory stays. -/
import Derived.Test.YtamgdhphmkehcaaGreatDoorAWalk
import Derived.Test.YtamgdhphmkehcaaGreatDoorRAddNil
import Derived.Test.YtamgdhphmkehcaaGreatDoorSame
import Derived.Test.YtamgdhphmkehcaaGreatDoorKeeps
namespace Go.Proofs.YtamgdhphmkehcaaGreatDoor
open Go.RowKit

section
variable {w W : World} {lv : Value} {len : Nat} {N D : Nat → ByteArray} {R : Nat → Int}
theorem rcheck_v (h : LibV w lv len N D R) (hN : ∀ j, j < len → (N j).size ≤ 9223372036854775807) : Calls Tryz.prog 10 #[lv] w fun e w' => e = .returned (.int .i64 (chkL N D R len)) ∧ Below w.heap.size w w' := by
  rcases h with ⟨rfl, rfl⟩ | ⟨a, cap, rfl, h2, h3, h4, h5⟩
  · exact rcheck_nil w
  · exact rcheck_some a len cap N D R w h2 h3 h4 hN
theorem radd_v (h : LibV w lv len N D R) (hN : ∀ j, j < len → (N j).size ≤ 9223372036854775807) (n d : ByteArray) (r : Int) (hns : n.size ≤ 9223372036854775807) :
    Calls Tryz.prog 8 #[lv, .agg #[.string n, .int .i64 r, .string d]] w fun e w' => ∃ v, e = .returned (.tuple #[v, .int .i64 (addE N D R len n d r)]) ∧ Below w.heap.size w w' ∧
      (addE N D R len n d r ≠ 0 → v = .slice none 0 0) ∧
      (addE N D R len n d r = 0 → ∃ at_, At N R len n r at_ ∧ w'.ownsRow w.heap.size 24 3 v (len + 1) (cellsOf (insF at_ n N) (insF at_ d D) (insF at_ r R) 0 (len + 1))) := by
  rcases h with ⟨rfl, rfl⟩ | ⟨a, cap, rfl, h2, h3, h4, h5⟩
  · exact radd_nil N D R n d r w hns
  · exact radd_some a len cap N D R n d r w h2 h3 h4 hN hns
end

theorem adds_v {w : World} {lv : Value} {len : Nat} {N D : Nat → ByteArray} {R : Nat → Int} (h : LibV w lv len N D R) (hN : ∀ j, j < len → (N j).size ≤ 9223372036854775807) (n d : ByteArray) (r : Int) (hns : n.size ≤ 9223372036854775807) :
    Calls Tryz.prog 3 #[lv, .agg #[.string n, .int .i64 r, .string d]] w fun e w' => e = .returned (.bool true) ∧ Below w.heap.size w w' := by
  refine adds_walk lv n d r (addE N D R len n d r) (chkL N D R len) w
    (fun W v => (addE N D R len n d r ≠ 0 ∧ v = .slice none 0 0) ∨ (addE N D R len n d r = 0 ∧ len < 256 ∧ ∃ at_ g cap, At N R len n r at_ ∧ v = .slice (some ⟨g, 0, none⟩) (len + 1) cap ∧ Lib W ⟨g, 0, none⟩ (len + 1) (insF at_ n N) (insF at_ d D) (insF at_ r R) ∧ g < W.heap.size))
    (fun W hW => ?_) (fun W w0 v hW hT hb => ?_) (fun W hW => check_v (h.mono hW)) (fun W hW => rcheck_v (h.mono hW) hN)
  · refine (add_v (h.mono hW) n d r).mono fun e w' ⟨v, he, hb, hn, hz⟩ => ⟨v, he, hb, ?_⟩
    by_cases hE : addE N D R len n d r = 0
    · obtain ⟨at_, hat, hown⟩ := hz hE
      obtain ⟨g, cap, rfl, hlib, _, hg2, _⟩ := lib_of_owns hown (by omega)
      exact .inr ⟨hE, (addE_zero hE).1, at_, g, cap, hat, rfl, hlib, hg2⟩
    · exact .inl ⟨hE, hn hE⟩
  · refine (radd_v (h.mono hW) hN n d r hns).mono fun e w' ⟨v', he, hb', hn, hz⟩ => ⟨v', he, hb', fun W' hW' => ?_⟩
    rcases hT with ⟨hE, rfl⟩ | ⟨hE, hlt, at_, g, cap, hat, rfl, hlib, hg⟩
    · rw [hn hE]
      exact same_nil W'
    · obtain ⟨at2, hat2, hown⟩ := hz hE
      obtain rfl := at_unique hat hat2
      obtain ⟨g2, cap2, rfl, hlib2, _, hg2, _⟩ := lib_of_owns hown (by omega)
      have b1 : Below w0.heap.size w0 W' := (hb.trans (hb'.mono hb.size)).trans (hW'.mono (hb.trans (hb'.mono hb.size)).size)
      exact same_some ⟨g, 0, none⟩ ⟨g2, 0, none⟩ (len + 1) cap cap2 _ _ _ W' (hlib.mono b1 (fun _ => hg)) (hlib2.mono hW' (fun _ => hg2)) (by omega)
end Go.Proofs.YtamgdhphmkehcaaGreatDoor
