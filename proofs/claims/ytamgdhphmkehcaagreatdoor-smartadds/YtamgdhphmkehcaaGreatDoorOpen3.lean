/- Reading the arguments of SmartAdds: the lengths of the names. -/
import Derived.Test.YtamgdhphmkehcaaGreatDoorOpen2
namespace Go.Proofs.YtamgdhphmkehcaaGreatDoor
open Go.Joins Go.ChangeShapes Go.WideShapes Go.RowKit Go.Deep

section
variable {H : Type} {enc : TypeId × Value → H} {w : World} {base : Nat} {spare : Nat → Bool} {held : Bool}

set_option maxRecDepth 100000 in
theorem open_file2 {r : Reach} {b0 : Nat} {v : Value} {d : DataW H} {p : List MemPlace} (hv : Value.okWide Tryz.prog w r b0 24 v) (h : DataW.Trod enc Tryz.prog w base spare held 24 v d p) :
    ∃ (n : ByteArray) (r : Int) (d : ByteArray), v = .agg #[.string n, .int .i64 r, .string d] ∧ n.size ≤ 9223372036854775807 := by
  obtain ⟨cs, rfl, hsz⟩ := okWide_struct Tryz.underlying24 hv
  obtain ⟨l⟩ := cs
  match l, hsz.trans three24 with
  | [c0, c1, c2], _ =>
    obtain ⟨fuel, hf⟩ := h
    obtain ⟨xs, n, _, hx, _, hlen, hg⟩ := DataW.trod_struct Tryz.underlying24 hf
    match xs, hlen with
    | [y0, y1, y2], _ =>
      have g0 : DataW.trod enc Tryz.prog w base spare held n 9 [c0] = some y0 := by have := hg 0 _ rfl; simpa [one9, Value.cells] using this
      have g1 : DataW.trod enc Tryz.prog w base spare held n 3 [c1] = some y1 := by have := hg 1 _ rfl; simpa [one3, Value.cells] using this
      have g2 : DataW.trod enc Tryz.prog w base spare held n 9 [c2] = some y2 := by have := hg 2 _ rfl; simpa [one9, Value.cells] using this
      obtain ⟨z0, e0, _, hs⟩ := DataW.trod_string Tryz.underlying9 g0
      obtain ⟨z1, e1, _⟩ := DataW.trod_int Tryz.underlying3 g1
      obtain ⟨z2, e2, _⟩ := DataW.trod_string Tryz.underlying9 g2
      cases e0; cases e1; cases e2
      exact ⟨_, _, _, rfl, by unfold maxLen at hs; omega⟩
set_option maxRecDepth 100000 in
theorem lib_sizes {a : Addr} {len cap : Nat} {d : DataW H} {p : List MemPlace} (h : DataW.Trod enc Tryz.prog w base spare held 22 (.slice (some a) len cap) d p) : ∀ j, j < len → (strAt w (a.add (j * 3))).size ≤ 9223372036854775807 := by
  obtain ⟨fuel, hf⟩ := h
  have hf : DataW.trod enc Tryz.prog w base spare held fuel 22 [.slice (some a) len cap] = some (d, p) := by simpa [Value.cells] using hf
  rcases open_slice Tryz.underlying22 hf with ⟨e, _⟩ | ⟨a', len', cap', m, n, D, Pl, e, hb, hl, hm, hmm, hx, hi⟩
  · cases e
  · cases e
    intro j hj
    have hlm : len ≤ m := by rw [hmm]; split <;> omega
    obtain ⟨cs', hc, ht⟩ := hi j (by omega)
    rw [three24] at hc
    obtain ⟨_, hcl, hat⟩ := World.cells?_some hc
    obtain ⟨ys, n', _, _, _, hlen', hg⟩ := DataW.trod_struct Tryz.underlying24 ht
    match cs', hcl, ys, hlen' with
    | [c0, c1, c2], _, [u0, u1, u2], _ =>
      have g0 : DataW.trod enc Tryz.prog w base spare held n' 9 [c0] = some u0 := by have := hg 0 _ rfl; simpa [one9] using this
      obtain ⟨z0, e0, _, hs⟩ := DataW.trod_string Tryz.underlying9 g0
      cases e0
      have h0 := hat 0 (by omega)
      have : w.cell? (a.add (j * 3)) = some (.string z0) := h0
      unfold strAt
      rw [this]
      unfold maxLen at hs
      show z0.size ≤ _
      omega
end
end Go.Proofs.YtamgdhphmkehcaaGreatDoor
