/- Reading the arguments of SmartAdds and SmartKeeps: a file by value, a text, and a library's capacity. -/
import Derived.Test.YtamgdhphmkehcaaGreatDoorOpen
namespace Go.Proofs.YtamgdhphmkehcaaGreatDoor
open Go.Joins Go.ChangeShapes Go.WideShapes Go.RowKit Go.Deep

section
variable {H : Type} {enc : TypeId × Value → H} {w : World} {base : Nat} {spare : Nat → Bool} {held : Bool}

set_option maxRecDepth 100000 in
theorem open_file {r : Reach} {b0 : Nat} {v : Value} {d : DataW H} {p : List MemPlace} (hv : Value.okWide Tryz.prog w r b0 24 v) (h : DataW.Trod enc Tryz.prog w base spare held 24 v d p) :
    ∃ (n : ByteArray) (r : Int) (d : ByteArray), v = .agg #[.string n, .int .i64 r, .string d] := by
  obtain ⟨cs, rfl, hsz⟩ := okWide_struct Tryz.underlying24 hv
  obtain ⟨l⟩ := cs
  match l, hsz.trans three24 with
  | [c0, c1, c2], _ =>
    obtain ⟨fuel, hf⟩ := h
    obtain ⟨xs, n, _, hx, _, hlen, hg⟩ := DataW.trod_struct Tryz.underlying24 hf
    match xs, hlen with
    | [y0, y1, y2], _ =>
      have g0 : DataW.trod enc Tryz.prog w base spare held n 9 [c0] = some y0 := by have := hg 0 _ rfl; simpa [one9, Value.cells] using this
      have g1 : DataW.trod enc Tryz.prog w base spare held n 3 [c1] = some y1 := by have := hg 1 _ rfl; simpa [one3, Value.cells] using this
      have g2 : DataW.trod enc Tryz.prog w base spare held n 9 [c2] = some y2 := by have := hg 2 _ rfl; simpa [one9, Value.cells] using this
      obtain ⟨z0, e0, _⟩ := DataW.trod_string Tryz.underlying9 g0
      obtain ⟨z1, e1, _⟩ := DataW.trod_int Tryz.underlying3 g1
      obtain ⟨z2, e2, _⟩ := DataW.trod_string Tryz.underlying9 g2
      cases e0; cases e1; cases e2
      exact ⟨_, _, _, rfl⟩
set_option maxRecDepth 100000 in
theorem open_text {r : Reach} {b0 : Nat} {v : Value} {d : DataW H} {p : List MemPlace} (hv : Value.okWide Tryz.prog w r b0 9 v) (h : DataW.Trod enc Tryz.prog w base spare held 9 v d p) : ∃ s, v = .string s := by
  obtain ⟨s, rfl⟩ := okWide_string Tryz.underlying9 hv
  exact ⟨_, rfl⟩
set_option maxRecDepth 100000 in
theorem lib_cap {a : Addr} {len cap : Nat} {d : DataW H} {p : List MemPlace} (h : DataW.Trod enc Tryz.prog w base spare held 22 (.slice (some a) len cap) d p) : len ≤ cap := by
  obtain ⟨fuel, hf⟩ := h
  have hf : DataW.trod enc Tryz.prog w base spare held fuel 22 [.slice (some a) len cap] = some (d, p) := by simpa [Value.cells] using hf
  rcases open_slice Tryz.underlying22 hf with ⟨e, _⟩ | ⟨a', len', cap', m, n, D, Pl, e, hb, hl, _⟩
  · cases e
  · cases e; exact hl
end
end Go.Proofs.YtamgdhphmkehcaaGreatDoor
