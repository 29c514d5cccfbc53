/- ConvertRounds, lifted to its row: for every image and depth, whatever else lies in memory, the law returns true and its arguments read as before; its condition: the listed tables start as the program's text lays them. -/
import Derived.Test.YthhanoaefdahkaaGreatDoorTabs
import Derived.Test.YthhanoaefdahkaaGreatDoorRLaw
import Derived.Test.YthhanoaefdahkaaGreatDoorOpenI
namespace Go.Proofs.YthhanoaefdahkaaGreatDoor
open Go.ChangeShapes Go.WideShapes Go.ChangeAt Go.RowKit

theorem crnd_laid (os : Os) : laidMetH Tryz.prog Rows.convertRoundsRow.laid ((World.laidAll Tryz.prog os Rows.convertRoundsRow.laid).forCall (fun _ _ => 0) { blocks := #[], args := #[.agg #[.int .i64 0, .int .i64 0, .slice none 0 0], .int .i64 0] }).memory := by
  rw [MakeChecks.laidMetH_plain _ _ _ (by kernel_rfl)]
  exact laidMet_laidAll _ (by kernel_rfl) (by kernel_rfl)

set_option maxRecDepth 100000 in
theorem crnd_lifted (os : Os) (started : os.Started) (H : Type) (enc : TypeId × Value → H) :
    ReturnsInHanded {} Tryz.checked os 4 .any (fun w args => (Rows.convertRoundsSpec.pre enc Tryz.prog Tryz.f4 Rows.convertRoundsRow.domain false w args ∧ laidMetH Tryz.prog Rows.convertRoundsRow.laid w) ∧ sizedMet enc Tryz.prog Tryz.f4 (OpenSpec.ofChange Rows.convertRoundsSpec) false w args)
      (Rows.convertRoundsSpec.post enc Tryz.prog Tryz.f4 false true false false) := by
  refine returnsInHanded_of_change_and (C := Tryz.checked) (X := fun w _ => laidMetH Tryz.prog Rows.convertRoundsRow.laid w) (fun _ _ _ hh h => h.of_heap hh) own51 started (by kernel_rfl) Tryz.func4
    (ChangeSpec.witness_shaped (enc := enc) (C := Tryz.checked) (os := os) (X := fun w _ => laidMetH Tryz.prog Rows.convertRoundsRow.laid w) false (World.laidAll Tryz.prog os Rows.convertRoundsRow.laid)
      #[.agg #[.int .i64 0, .int .i64 0, .slice none 0 0], .int .i64 0] 8 (World.laidAll_os _ _ _)
      (World.shaped_of_ZipB (by kernel_rfl) (by kernel_rfl)) (by kernel_rfl) (by kernel_rfl) (by kernel_rfl)
      (crnd_laid os)) ?_
  intro W base args ds gs before hval0 hW hc _ hL _
  have hval : ∀ (j : Nat) t v, Tryz.f4.params[j]? = some t → args[j]? = some v → Value.okWide Tryz.prog W .any base t v := hval0
  have hW' := hW
  obtain ⟨p, q, hA0, hV, rfl, _, _⟩ := hW
  have hA : DataW.TrodAll enc Tryz.prog W 0 (fun _ => true) true Tryz.f4.params.toList args.toList ds p := hA0
  rw [Tryz.params4] at hA hval
  obtain ⟨v0, vs0, d0, ds0, p0, q0, hargs, rfl, rfl, h0, r0⟩ := trodAll_cons hA
  obtain ⟨v1, vs1, d1, ds1, p1, q1, rfl, rfl, rfl, h1, r1⟩ := trodAll_cons r0
  obtain ⟨rfl, rfl, rfl⟩ := trodAll_nil r1
  obtain rfl : args = #[v0, v1] := by cases args; simp_all
  obtain ⟨rfl, rfl⟩ := trodVars_none hV
  have hv0 := hval 0 27 v0 rfl rfl
  have hv1 := hval 1 3 v1 rfl rfl
  obtain ⟨iw, ih, ao, n, c, P, rfl, hn, him⟩ := open_img hv0 h0
  obtain ⟨dep, rfl⟩ := open_num h1 hv1
  simp only [List.append_nil] at hW'
  have fin : Calls Tryz.prog 4 #[.agg #[.int .i64 iw, .int .i64 ih, .slice ao n c], .int .i64 dep] W fun e w' => e = .returned (.bool true) ∧ Below W.heap.size W w' := rounds_any iw ih ao n c P dep W (tabs_of hL) hn him
  refine fin.mono fun e W' ⟨he, bel⟩ => ?_
  subst he
  have lt0 : ∀ x ∈ p0, x.block < W.heap.size := fun x hx => by simpa using hW'.lt x (by simp [hx])
  have lt1 : ∀ x ∈ p1, x.block < W.heap.size := fun x hx => by simpa using hW'.lt x (by simp [hx])
  exact ⟨_, rfl, _, _, _, [], _, [], hW', trodAll_mk1 (shut_bool Tryz.underlying4 _),
    trodAll_cons_mk (Below.trod laidOut51 (by kernel_rfl) (of_decide_eq_true (by kernel_rfl)) h0 bel lt0) (trodAll_cons_mk (Below.trod laidOut51 (by kernel_rfl) (of_decide_eq_true (by kernel_rfl)) h1 bel lt1) trodAll_mk0), rfl, bel.frame _, fun h => by cases h⟩
end Go.Proofs.YthhanoaefdahkaaGreatDoor
