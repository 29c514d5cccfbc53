/- SmartWants, lifted to its row: for every link and every library (nil too), whatever else lies in memory, the law returns true and its arguments read as before; its condition: the two listed tables of unicode/utf8 start as the program's text lays them. -/
import Derived.Test.YtamgdhphmkehcaaGreatDoorTie
import Derived.Test.YtamgdhphmkehcaaGreatDoorSWalk
import Derived.Test.YtamgdhphmkehcaaGreatDoorOpen
import Derived.ProofKit
import Derived.OpenShut
import Derived.LaidMore
import Derived.Lay
import Derived.Carry
import Derived.SevenTiedAt
import Derived.Stop.Joined
namespace Go.Proofs.YtamgdhphmkehcaaGreatDoor
open Go.ChangeShapes Go.WideShapes Go.ChangeAt Go.RowKit

theorem swants_own : ownKnob Tryz.prog.godebug = none := by kernel_rfl
theorem swants_laidOut : laidOutB Tryz.prog = true := by kernel_rfl

theorem swants_laid (os : Os) : laidMetH Tryz.prog Rows.smartWantsRow.laid ((World.laidAll Tryz.prog os Rows.smartWantsRow.laid).forCall (fun _ _ => 0) { blocks := #[], args := #[.agg #[.int .i64 0, .string ⟨#[]⟩, .int .i64 0, .int .i64 0, .int .i64 0, .int .i64 0, .slice none 0 0], .slice none 0 0] }).memory := by
  rw [MakeChecks.laidMetH_plain _ _ _ (by kernel_rfl)]
  exact laidMet_laidAll _ (by kernel_rfl) (by kernel_rfl)

set_option maxRecDepth 100000 in
theorem swants_lifted (os : Os) (started : os.Started) (H : Type) (enc : TypeId × Value → H) :
    ReturnsInHanded {} Tryz.checked os 4 .any (fun w args => (Rows.smartWantsSpec.pre enc Tryz.prog Tryz.f4 Rows.smartWantsRow.domain false w args ∧ laidMetH Tryz.prog Rows.smartWantsRow.laid w) ∧ sizedMet enc Tryz.prog Tryz.f4 (OpenSpec.ofChange Rows.smartWantsSpec) false w args)
      (Rows.smartWantsSpec.post enc Tryz.prog Tryz.f4 false true false false) := by
  refine returnsInHanded_of_change_and (C := Tryz.checked) (X := fun w _ => laidMetH Tryz.prog Rows.smartWantsRow.laid w) (fun _ _ _ hh h => h.of_heap hh) swants_own started (by kernel_rfl) Tryz.func4
    (ChangeSpec.witness_shaped (enc := enc) (C := Tryz.checked) (os := os) (X := fun w _ => laidMetH Tryz.prog Rows.smartWantsRow.laid w) false (World.laidAll Tryz.prog os Rows.smartWantsRow.laid)
      #[.agg #[.int .i64 0, .string ⟨#[]⟩, .int .i64 0, .int .i64 0, .int .i64 0, .int .i64 0, .slice none 0 0], .slice none 0 0] 8 (World.laidAll_os _ _ _)
      (World.shaped_of_ZipB (by kernel_rfl) (by kernel_rfl)) (by kernel_rfl) (by kernel_rfl) (by kernel_rfl)
      (swants_laid os)) ?_
  intro W base args ds gs before hval0 hW hc _ hL _
  have hval : ∀ (j : Nat) t v, Tryz.f4.params[j]? = some t → args[j]? = some v → Value.okWide Tryz.prog W .any base t v := hval0
  have hW' := hW
  obtain ⟨p, q, hA0, hV, rfl, _, _⟩ := hW
  have hA : DataW.TrodAll enc Tryz.prog W 0 (fun _ => true) true Tryz.f4.params.toList args.toList ds p := hA0
  rw [Tryz.params4] at hA hval
  obtain ⟨v0, vs0, d0, ds0, p0, q0, hargs, rfl, rfl, h0, r0⟩ := trodAll_cons hA
  obtain ⟨v1, vs1, d1, ds1, p1, q1, rfl, rfl, rfl, h1, r1⟩ := trodAll_cons r0
  obtain ⟨rfl, rfl, rfl⟩ := trodAll_nil r1
  obtain rfl : args = #[v0, v1] := by cases args; simp_all
  obtain ⟨rfl, rfl⟩ := trodVars_none hV
  have hv0 := hval 0 36 v0 rfl rfl
  have hv1 := hval 1 22 v1 rfl rfl
  obtain ⟨id, nm, rule, rev, iw, ih, pb, pl, pc, rfl⟩ := open_link hv0 h0
  simp only [List.append_nil] at hW'
  have fin : Calls Tryz.prog 4 #[.agg (linkV id nm rule rev iw ih (.slice pb pl pc)), v1] W fun e w' => e = .returned (.bool true) ∧ Below W.heap.size W w' := by
    rcases open_lib hv1 h1 with rfl | ⟨a, len, cap, rfl, hlen, hblk, hl⟩
    · exact swants_nil id nm rule rev iw ih pb pl pc W
    · exact swants_some a len cap _ _ _ id nm rule rev iw ih pb pl pc W hl hblk hlen
  refine fin.mono fun e W' ⟨he, bel⟩ => ?_
  subst he
  have lt0 : ∀ x ∈ p0, x.block < W.heap.size := fun x hx => by simpa using hW'.lt x (by simp [hx])
  have lt1 : ∀ x ∈ p1, x.block < W.heap.size := fun x hx => by simpa using hW'.lt x (by simp [hx])
  exact ⟨_, rfl, _, _, _, [], _, [], hW', trodAll_mk1 (shut_bool Tryz.underlying4 _),
    trodAll_cons_mk (Below.trod swants_laidOut (by kernel_rfl) (of_decide_eq_true (by kernel_rfl)) h0 bel lt0) (trodAll_cons_mk (Below.trod swants_laidOut (by kernel_rfl) (of_decide_eq_true (by kernel_rfl)) h1 bel lt1) trodAll_mk0), rfl, bel.frame _, fun h => by cases h⟩
end Go.Proofs.YtamgdhphmkehcaaGreatDoor
