/- What the rows' laid facts say of the table of powers of ten: it holds them. -/
import Derived.Test.YthhanoaefdahkaaGreatDoorTie
import Derived.Test.YthhanoaefdahkaaGreatDoorMid
import Derived.Test.YthhanoaefdahkaaGreatDoorLay
import Derived.ProofKit
import Derived.OpenShut
import Derived.LaidMore
import Derived.Lay
import Derived.Carry
import Derived.SevenTiedAt
import Derived.Stop.Joined
namespace Go.Proofs.YthhanoaefdahkaaGreatDoor
open Go.ChangeShapes Go.WideShapes Go.ChangeAt Go.RowKit Go.Ev

def pows : List Int := [1, 10, 100, 1000, 10000, 100000, 1000000, 10000000, 100000000, 1000000000, 10000000000, 100000000000, 1000000000000, 10000000000000, 100000000000000, 1000000000000000, 10000000000000000, 100000000000000000, 1000000000000000000, 10000000000000000000]
theorem tabs_pows : tabs51 = [(1, .u64, pows)] := by kernel_rfl
theorem pow_cell {W : World} (h : laidMetH Tryz.prog Rows.convertDetectsRow.laid W) (r : Nat) (n : Int) (hn : pows[r]? = some n) : W.cell? ⟨1, r, none⟩ = some (.int .u64 n) := by
  rw [MakeChecks.laidMetH_plain _ _ _ (by kernel_rfl)] at h
  obtain ⟨ps, ⟨_, _, _, _, _, _, _, _, _, _, ⟨_, _, _, _, _, _, _, _, _, _, ⟨g, t, cs, fuel, p, q, hg, ht, hv, hd, _, _⟩, _⟩, _⟩, _⟩ := h
  obtain rfl := Option.some.inj ((show Tryz.prog.globalNamed "internal/strconv.uint64pow10" = some 1 by kernel_rfl).symm.trans hg)
  obtain rfl := Option.some.inj ((show (Tryz.prog.globals[1]?).map (·.type) = some 423 by kernel_rfl).symm.trans ht)
  obtain ⟨xs, m, _, ex, _, hl, hel⟩ := DataW.trod_array Tryz.underlying423 hd
  have hlen : pows.length = 20 := by kernel_rfl
  have hr : r < 20 := by
    have := (List.getElem?_eq_some_iff.1 hn).1
    rwa [hlen] at this
  have c5 : Tryz.prog.cellsOf 248 = 1 := by kernel_rfl
  have hE := hel r hr
  rw [c5, Nat.mul_one, List.getElem?_eq_getElem (by omega)] at hE
  obtain ⟨z, e1, e2, _⟩ := DataW.trod_int Tryz.underlying248 hE
  have e3 : (xs.map (·.1)) = pows.map fun n => .lit (.int .u64 n) := (DataW.agg.inj (Prod.mk.inj ex).1).symm
  have e4 : (xs.map (·.1))[r]? = (pows.map fun n => (DataW.lit (.int .u64 n) : DataW Unit))[r]? := by rw [e3]
  rw [List.getElem?_map, List.getElem?_map, List.getElem?_eq_getElem (by omega : r < xs.length), hn, e2] at e4
  have hz : z = n := by
    simp only [Option.map_some, Option.some.injEq, DataW.lit.injEq, Lit.int.injEq, true_and] at e4
    exact e4
  rw [World.var?_cell hg hv r, ← hz]
  have : cs.toList[r]? = some (.int .u64 z) := by
    have h0 : ((cs.toList.drop r).take 1)[0]? = some (.int .u64 z) := by rw [e1]; rfl
    simpa using h0
  simpa using this
theorem tabs_of {W : World} (h : laidMetH Tryz.prog Rows.convertDetectsRow.laid W) : TabsIn W tabs51 := by
  rw [tabs_pows]
  intro g k l hm
  obtain ⟨rfl, rfl, rfl⟩ : g = 1 ∧ k = .u64 ∧ l = pows := by simpa using hm
  exact ⟨by omega, fun i n hl => pow_cell h i n hl⟩
end Go.Proofs.YthhanoaefdahkaaGreatDoor
