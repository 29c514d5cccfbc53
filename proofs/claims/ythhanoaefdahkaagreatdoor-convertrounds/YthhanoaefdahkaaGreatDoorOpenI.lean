/- Reading the arguments of law51's statements: a text, a number, an image by value with its row of pixels. -/
import Derived.Test.YthhanoaefdahkaaGreatDoorImgs
import Derived.WalkKit
import Derived.ProofKit
import Derived.OpenShut
import Derived.Deep.Slices
import Derived.Deep.Fields
import Derived.ChangeSame
import Derived.Lib.SmallJoins
namespace Go.Proofs.YthhanoaefdahkaaGreatDoor
open Go.Joins Go.ChangeShapes Go.WideShapes Go.RowKit Go.Deep

section
variable {H : Type} {enc : TypeId × Value → H} {w : World} {base : Nat} {spare : Nat → Bool} {held : Bool}

set_option maxRecDepth 100000 in
theorem one3 : Tryz.prog.cellsOf 3 = 1 := by kernel_rfl
set_option maxRecDepth 100000 in
theorem one25 : Tryz.prog.cellsOf 25 = 1 := by kernel_rfl
set_option maxRecDepth 100000 in
theorem four35 : Tryz.prog.cellsOf 35 = 4 := by kernel_rfl
set_option maxRecDepth 100000 in
theorem three27 : Tryz.prog.cellsOf 27 = 3 := by kernel_rfl

def intAt (w : World) (x : Addr) : Int := match w.cell? x with
  | some (.int _ n) => n
  | _ => 0
def picAt (w : World) (a : Addr) (j : Nat) : Nat → Int
  | 0 => intAt w (a.add (j * 4))
  | 1 => intAt w ⟨(a.add (j * 4)).block, (a.add (j * 4)).off + 1, none⟩
  | 2 => intAt w ⟨(a.add (j * 4)).block, (a.add (j * 4)).off + 2, none⟩
  | _ => intAt w ⟨(a.add (j * 4)).block, (a.add (j * 4)).off + 3, none⟩

set_option maxRecDepth 100000 in
theorem open_img {r : Reach} {b0 : Nat} {v : Value} {d : DataW H} {p : List MemPlace} (hv : Value.okWide Tryz.prog w r b0 27 v) (h : DataW.Trod enc Tryz.prog w base spare held 27 v d p) :
    ∃ (iw ih : Int) (ao : Option Addr) (n c : Nat) (P : Nat → Nat → Int), v = .agg #[.int .i64 iw, .int .i64 ih, .slice ao n c] ∧ n ≤ 9223372036854775807 ∧ Img w ao n c P := by
  obtain ⟨cs, rfl, hsz⟩ := okWide_struct Tryz.underlying27 hv
  obtain ⟨l⟩ := cs
  match l, hsz.trans three27 with
  | [c0, c1, c2], _ =>
    obtain ⟨fuel, hf⟩ := h
    obtain ⟨xs, n, _, hx, _, hlen, hg⟩ := DataW.trod_struct Tryz.underlying27 hf
    match xs, hlen with
    | [y0, y1, y2], _ =>
      have g0 : DataW.trod enc Tryz.prog w base spare held n 3 [c0] = some y0 := by have := hg 0 _ rfl; simpa [one3, Value.cells] using this
      have g1 : DataW.trod enc Tryz.prog w base spare held n 3 [c1] = some y1 := by have := hg 1 _ rfl; simpa [one3, Value.cells] using this
      have g2 : DataW.trod enc Tryz.prog w base spare held n 25 [c2] = some y2 := by have := hg 2 _ rfl; simpa [one3, one25, Value.cells] using this
      obtain ⟨z0, e0, _⟩ := DataW.trod_int Tryz.underlying3 g0
      obtain ⟨z1, e1, _⟩ := DataW.trod_int Tryz.underlying3 g1
      cases e0; cases e1
      rcases open_slice Tryz.underlying25 g2 with ⟨e, _⟩ | ⟨a, len, cap, m, n, D, Pl, e, hb, hl, hm, hmm, hx, hi⟩
      · cases e
        exact ⟨_, _, none, 0, 0, fun _ _ => 0, rfl, by omega, .inl ⟨rfl, rfl, rfl⟩⟩
      · cases e
        have hlm : len ≤ m := by rw [hmm]; split <;> omega
        have main : ∀ j, j < len → (∃ z, w.cell? (a.add (j * 4)) = some (.int .i64 z)) ∧ (∃ z, w.cell? ⟨(a.add (j * 4)).block, (a.add (j * 4)).off + 1, none⟩ = some (.int .i64 z)) ∧
            (∃ z, w.cell? ⟨(a.add (j * 4)).block, (a.add (j * 4)).off + 2, none⟩ = some (.int .i64 z)) ∧ ∃ z, w.cell? ⟨(a.add (j * 4)).block, (a.add (j * 4)).off + 3, none⟩ = some (.int .i64 z) := by
          intro j hj
          obtain ⟨cs', hc, ht⟩ := hi j (by omega)
          rw [four35] at hc
          obtain ⟨_, hcl, hat⟩ := World.cells?_some hc
          obtain ⟨ys, n', _, _, _, hlen', hg⟩ := DataW.trod_struct Tryz.underlying35 ht
          match cs', hcl, ys, hlen' with
          | [c0, c1, c2, c3], _, [u0, u1, u2, u3], _ =>
            have g0 : DataW.trod enc Tryz.prog w base spare held n' 3 [c0] = some u0 := by have := hg 0 _ rfl; simpa [one3] using this
            have g1 : DataW.trod enc Tryz.prog w base spare held n' 3 [c1] = some u1 := by have := hg 1 _ rfl; simpa [one3] using this
            have g2 : DataW.trod enc Tryz.prog w base spare held n' 3 [c2] = some u2 := by have := hg 2 _ rfl; simpa [one3] using this
            have g3 : DataW.trod enc Tryz.prog w base spare held n' 3 [c3] = some u3 := by have := hg 3 _ rfl; simpa [one3] using this
            obtain ⟨z0, e0, _⟩ := DataW.trod_int Tryz.underlying3 g0
            obtain ⟨z1, e1, _⟩ := DataW.trod_int Tryz.underlying3 g1
            obtain ⟨z2, e2, _⟩ := DataW.trod_int Tryz.underlying3 g2
            obtain ⟨z3, e3, _⟩ := DataW.trod_int Tryz.underlying3 g3
            cases e0; cases e1; cases e2; cases e3
            exact ⟨⟨_, hat 0 (by omega)⟩, ⟨_, hat 1 (by omega)⟩, ⟨_, hat 2 (by omega)⟩, ⟨_, hat 3 (by omega)⟩⟩
        refine ⟨_, _, some a, len, cap, picAt w a, rfl, by unfold maxLen at hm; omega, .inr ⟨a, rfl, fun j hj => ?_, fun j hj => ?_, fun j hj => ?_, fun j hj => ?_⟩⟩
        · obtain ⟨⟨s, h⟩, _⟩ := main j hj
          simp only [picAt, intAt, h]
        · obtain ⟨_, ⟨s, h⟩, _⟩ := main j hj
          simp only [picAt, intAt, h]
        · obtain ⟨_, _, ⟨s, h⟩, _⟩ := main j hj
          simp only [picAt, intAt, h]
        · obtain ⟨_, _, _, ⟨s, h⟩⟩ := main j hj
          simp only [picAt, intAt, h]
set_option maxRecDepth 100000 in
theorem open_num {r : Reach} {b0 : Nat} {v : Value} {d : DataW H} {p : List MemPlace} (h : DataW.Trod enc Tryz.prog w base spare held 3 v d p) (hv : Value.okWide Tryz.prog w r b0 3 v) : ∃ z, v = .int .i64 z := by
  obtain ⟨z, rfl⟩ := okWide_int Tryz.underlying3 hv
  exact ⟨_, rfl⟩
end
end Go.Proofs.YthhanoaefdahkaaGreatDoor
