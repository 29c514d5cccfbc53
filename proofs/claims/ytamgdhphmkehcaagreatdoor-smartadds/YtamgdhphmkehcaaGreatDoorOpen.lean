/- Reading the arguments of SmartRules: a link by value and a slice of files, opened to values and cells. -/
import Derived.Test.YtamgdhphmkehcaaGreatDoorWants
import Derived.WalkKit
import Derived.ProofKit
import Derived.OpenShut
import Derived.Deep.Slices
import Derived.Deep.Fields
import Derived.ChangeSame
import Derived.Lib.SmallJoins
namespace Go.Proofs.YtamgdhphmkehcaaGreatDoor
open Go.Joins Go.ChangeShapes Go.WideShapes Go.RowKit Go.Deep

section
variable {H : Type} {enc : TypeId × Value → H} {w : World} {base : Nat} {spare : Nat → Bool} {held : Bool}

set_option maxRecDepth 100000 in
theorem one3 : Tryz.prog.cellsOf 3 = 1 := by kernel_rfl
set_option maxRecDepth 100000 in
theorem one9 : Tryz.prog.cellsOf 9 = 1 := by kernel_rfl
set_option maxRecDepth 100000 in
theorem one32 : Tryz.prog.cellsOf 32 = 1 := by kernel_rfl
set_option maxRecDepth 100000 in
theorem three34 : Tryz.prog.cellsOf 34 = 3 := by kernel_rfl
set_option maxRecDepth 100000 in
theorem three24 : Tryz.prog.cellsOf 24 = 3 := by kernel_rfl
set_option maxRecDepth 100000 in
theorem seven36 : Tryz.prog.cellsOf 36 = 7 := by kernel_rfl

set_option maxRecDepth 100000 in
theorem open_link {r : Reach} {b0 : Nat} {v : Value} {d : DataW H} {p : List MemPlace} (hv : Value.okWide Tryz.prog w r b0 36 v) (h : DataW.Trod enc Tryz.prog w base spare held 36 v d p) :
    ∃ (id : Int) (nm : ByteArray) (rule rev iw ih : Int) (pb : Option Addr) (pl pc : Nat), v = .agg #[.int .i64 id, .string nm, .int .i64 rule, .int .i64 rev, .int .i64 iw, .int .i64 ih, .slice pb pl pc] := by
  obtain ⟨cs, rfl, hsz⟩ := okWide_struct Tryz.underlying36 hv
  obtain ⟨l⟩ := cs
  match l, hsz.trans seven36 with
  | [c0, c1, c2, c3, c4, c5, c6], _ =>
    obtain ⟨fuel, hf⟩ := h
    obtain ⟨xs, n, _, hx, _, hlen, hg⟩ := DataW.trod_struct Tryz.underlying36 hf
    match xs, hlen with
    | [y0, y1, y2, y3, y4], _ =>
      have g0 : DataW.trod enc Tryz.prog w base spare held n 3 [c0] = some y0 := by have := hg 0 _ rfl; simpa [one3, Value.cells] using this
      have g1 : DataW.trod enc Tryz.prog w base spare held n 9 [c1] = some y1 := by have := hg 1 _ rfl; simpa [one9, Value.cells] using this
      have g2 : DataW.trod enc Tryz.prog w base spare held n 3 [c2] = some y2 := by have := hg 2 _ rfl; simpa [one3, Value.cells] using this
      have g3 : DataW.trod enc Tryz.prog w base spare held n 3 [c3] = some y3 := by have := hg 3 _ rfl; simpa [one3, Value.cells] using this
      have g4 : DataW.trod enc Tryz.prog w base spare held n 34 [c4, c5, c6] = some y4 := by have := hg 4 _ rfl; simpa [three34, Value.cells] using this
      obtain ⟨z0, e0, _⟩ := DataW.trod_int Tryz.underlying3 g0
      obtain ⟨z1, e1, _⟩ := DataW.trod_string Tryz.underlying9 g1
      obtain ⟨z2, e2, _⟩ := DataW.trod_int Tryz.underlying3 g2
      obtain ⟨z3, e3, _⟩ := DataW.trod_int Tryz.underlying3 g3
      obtain ⟨ys, n', _, _, _, hlen', hg'⟩ := DataW.trod_struct Tryz.underlying34 g4
      match ys, hlen' with
      | [u0, u1, u2], _ =>
        have k0 : DataW.trod enc Tryz.prog w base spare held n' 3 [c4] = some u0 := by have := hg' 0 _ rfl; simpa [one3] using this
        have k1 : DataW.trod enc Tryz.prog w base spare held n' 3 [c5] = some u1 := by have := hg' 1 _ rfl; simpa [one3] using this
        have k2 : DataW.trod enc Tryz.prog w base spare held n' 32 [c6] = some u2 := by have := hg' 2 _ rfl; simpa [one32] using this
        obtain ⟨x0, f0, _⟩ := DataW.trod_int Tryz.underlying3 k0
        obtain ⟨x1, f1, _⟩ := DataW.trod_int Tryz.underlying3 k1
        have k3 : ∃ pb pl pc, [c6] = [Value.slice pb pl pc] := by
          rcases open_slice Tryz.underlying32 k2 with ⟨e, _⟩ | ⟨a, len, cap, _, _, _, _, e, _⟩
          · exact ⟨_, _, _, e⟩
          · exact ⟨_, _, _, e⟩
        obtain ⟨pb, pl, pc, f2⟩ := k3
        cases e0; cases e1; cases e2; cases e3; cases f0; cases f1; cases f2
        exact ⟨_, _, _, _, _, _, _, _, _, rfl⟩

def strAt (w : World) (x : Addr) : ByteArray := match w.cell? x with
  | some (.string s) => s
  | _ => ⟨#[]⟩
def intAt (w : World) (x : Addr) : Int := match w.cell? x with
  | some (.int _ n) => n
  | _ => 0
set_option maxRecDepth 100000 in
theorem open_lib {r : Reach} {b0 : Nat} {v : Value} {d : DataW H} {p : List MemPlace} (hv : Value.okWide Tryz.prog w r b0 22 v) (h : DataW.Trod enc Tryz.prog w base spare held 22 v d p) :
    v = .slice none 0 0 ∨ ∃ (a : Addr) (len cap : Nat), v = .slice (some a) len cap ∧ len ≤ 9223372036854775807 ∧ (0 < len → a.block < w.heap.size) ∧
      Lib w a len (fun j => strAt w (a.add (j * 3))) (fun j => strAt w ⟨(a.add (j * 3)).block, (a.add (j * 3)).off + 2, none⟩) (fun j => intAt w ⟨(a.add (j * 3)).block, (a.add (j * 3)).off + 1, none⟩) := by
  obtain ⟨va, vl, vc, rfl⟩ := okWide_slice Tryz.underlying22 hv
  obtain ⟨fuel, hf⟩ := h
  have hf : DataW.trod enc Tryz.prog w base spare held fuel 22 [.slice va vl vc] = some (d, p) := by simpa [Value.cells] using hf
  rcases open_slice Tryz.underlying22 hf with ⟨e, _⟩ | ⟨a, len, cap, m, n, D, Pl, e, hb, hl, hm, hmm, hx, hi⟩
  · left; cases e; rfl
  · right
    cases e
    have hlm : vl ≤ m := by rw [hmm]; split <;> omega
    have main : ∀ j, j < vl → (∃ s, w.cell? (a.add (j * 3)) = some (.string s)) ∧ (∃ z, w.cell? ⟨(a.add (j * 3)).block, (a.add (j * 3)).off + 1, none⟩ = some (.int .i64 z)) ∧
        ∃ s, w.cell? ⟨(a.add (j * 3)).block, (a.add (j * 3)).off + 2, none⟩ = some (.string s) := by
      intro j hj
      obtain ⟨cs', hc, ht⟩ := hi j (by omega)
      rw [three24] at hc
      obtain ⟨_, hcl, hat⟩ := World.cells?_some hc
      obtain ⟨ys, n', _, _, _, hlen', hg⟩ := DataW.trod_struct Tryz.underlying24 ht
      match cs', hcl, ys, hlen' with
      | [c0, c1, c2], _, [u0, u1, u2], _ =>
        have g0 : DataW.trod enc Tryz.prog w base spare held n' 9 [c0] = some u0 := by have := hg 0 _ rfl; simpa [one9] using this
        have g1 : DataW.trod enc Tryz.prog w base spare held n' 3 [c1] = some u1 := by have := hg 1 _ rfl; simpa [one3] using this
        have g2 : DataW.trod enc Tryz.prog w base spare held n' 9 [c2] = some u2 := by have := hg 2 _ rfl; simpa [one9] using this
        obtain ⟨z0, e0, _⟩ := DataW.trod_string Tryz.underlying9 g0
        obtain ⟨z1, e1, _⟩ := DataW.trod_int Tryz.underlying3 g1
        obtain ⟨z2, e2, _⟩ := DataW.trod_string Tryz.underlying9 g2
        cases e0; cases e1; cases e2
        exact ⟨⟨_, hat 0 (by omega)⟩, ⟨_, hat 1 (by omega)⟩, ⟨_, hat 2 (by omega)⟩⟩
    refine ⟨a, vl, vc, rfl, by unfold maxLen at hm; omega, fun h0 => ?_, fun j hj => ?_, fun j hj => ?_, fun j hj => ?_⟩
    · obtain ⟨⟨s, h⟩, _⟩ := main 0 h0
      have := World.block_lt_of_cell? w _ h
      rwa [addB] at this
    · obtain ⟨⟨s, h⟩, _⟩ := main j hj
      simp only [strAt, h]
    · obtain ⟨_, ⟨s, h⟩, _⟩ := main j hj
      simp only [intAt, h]
    · obtain ⟨_, _, ⟨s, h⟩⟩ := main j hj
      simp only [strAt, h]
end
end Go.Proofs.YtamgdhphmkehcaaGreatDoor
