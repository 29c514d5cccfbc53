/- SmartAdds, lifted to its row: for every library (nil too) and file, whatever else lies in memory, the law returns true and its arguments read as before; its condition: the two listed tables of unicode/utf8 start as the program's text lays them. -/
import Derived.Test.YtamgdhphmkehcaaGreatDoorTie
import Derived.Test.YtamgdhphmkehcaaGreatDoorAdds
import Derived.Test.YtamgdhphmkehcaaGreatDoorOpen3
import Derived.ProofKit
import Derived.OpenShut
import Derived.LaidMore
import Derived.Lay
import Derived.Carry
import Derived.SevenTiedAt
import Derived.Stop.Joined
namespace Go.Proofs.YtamgdhphmkehcaaGreatDoor
open Go.ChangeShapes Go.WideShapes Go.ChangeAt Go.RowKit

def addrOf : Value → Addr
  | .slice (some a) _ _ => a
  | _ => ⟨0, 0, none⟩
theorem sadds_own : ownKnob Tryz.prog.godebug = none := by kernel_rfl
theorem sadds_laidOut : laidOutB Tryz.prog = true := by kernel_rfl

theorem sadds_laid (os : Os) : laidMetH Tryz.prog Rows.smartAddsRow.laid ((World.laidAll Tryz.prog os Rows.smartAddsRow.laid).forCall (fun _ _ => 0) { blocks := #[], args := #[.slice none 0 0, .agg #[.string ⟨#[]⟩, .int .i64 0, .string ⟨#[]⟩]] }).memory := by
  rw [MakeChecks.laidMetH_plain _ _ _ (by kernel_rfl)]
  exact laidMet_laidAll _ (by kernel_rfl) (by kernel_rfl)

set_option maxRecDepth 100000 in
theorem sadds_lifted (os : Os) (started : os.Started) (H : Type) (enc : TypeId × Value → H) :
    ReturnsInHanded {} Tryz.checked os 3 .any (fun w args => (Rows.smartAddsSpec.pre enc Tryz.prog Tryz.f3 Rows.smartAddsRow.domain false w args ∧ laidMetH Tryz.prog Rows.smartAddsRow.laid w) ∧ sizedMet enc Tryz.prog Tryz.f3 (OpenSpec.ofChange Rows.smartAddsSpec) false w args)
      (Rows.smartAddsSpec.post enc Tryz.prog Tryz.f3 false true false false) := by
  refine returnsInHanded_of_change_and (C := Tryz.checked) (X := fun w _ => laidMetH Tryz.prog Rows.smartAddsRow.laid w) (fun _ _ _ hh h => h.of_heap hh) sadds_own started (by kernel_rfl) Tryz.func3
    (ChangeSpec.witness_shaped (enc := enc) (C := Tryz.checked) (os := os) (X := fun w _ => laidMetH Tryz.prog Rows.smartAddsRow.laid w) false (World.laidAll Tryz.prog os Rows.smartAddsRow.laid)
      #[.slice none 0 0, .agg #[.string ⟨#[]⟩, .int .i64 0, .string ⟨#[]⟩]] 8 (World.laidAll_os _ _ _)
      (World.shaped_of_ZipB (by kernel_rfl) (by kernel_rfl)) (by kernel_rfl) (by kernel_rfl) (by kernel_rfl)
      (sadds_laid os)) ?_
  intro W base args ds gs before hval0 hW hc _ hL _
  have hval : ∀ (j : Nat) t v, Tryz.f3.params[j]? = some t → args[j]? = some v → Value.okWide Tryz.prog W .any base t v := hval0
  have hW' := hW
  obtain ⟨p, q, hA0, hV, rfl, _, _⟩ := hW
  have hA : DataW.TrodAll enc Tryz.prog W 0 (fun _ => true) true Tryz.f3.params.toList args.toList ds p := hA0
  rw [Tryz.params3] at hA hval
  obtain ⟨v0, vs0, d0, ds0, p0, q0, hargs, rfl, rfl, h0, r0⟩ := trodAll_cons hA
  obtain ⟨v1, vs1, d1, ds1, p1, q1, rfl, rfl, rfl, h1, r1⟩ := trodAll_cons r0
  obtain ⟨rfl, rfl, rfl⟩ := trodAll_nil r1
  obtain rfl : args = #[v0, v1] := by cases args; simp_all
  obtain ⟨rfl, rfl⟩ := trodVars_none hV
  have hv0 := hval 0 22 v0 rfl rfl
  have hv1 := hval 1 24 v1 rfl rfl
  obtain ⟨n, r, d, rfl, hns⟩ := open_file2 hv1 h1
  simp only [List.append_nil] at hW'
  have hlv : ∃ len, LibV W v0 len (fun j => strAt W ((addrOf v0).add (j * 3))) (fun j => strAt W ⟨((addrOf v0).add (j * 3)).block, ((addrOf v0).add (j * 3)).off + 2, none⟩) (fun j => intAt W ⟨((addrOf v0).add (j * 3)).block, ((addrOf v0).add (j * 3)).off + 1, none⟩) ∧
      ∀ j, j < len → (strAt W ((addrOf v0).add (j * 3))).size ≤ 9223372036854775807 := by
    rcases open_lib hv0 h0 with rfl | ⟨a, len, cap, rfl, hlen, hblk, hl⟩
    · exact ⟨0, .inl ⟨rfl, rfl⟩, fun j hj => absurd hj (Nat.not_lt_zero _)⟩
    · exact ⟨len, .inr ⟨a, cap, rfl, hl, hblk, hlen, lib_cap h0⟩, lib_sizes h0⟩
  obtain ⟨len, hlv, hN⟩ := hlv
  have fin : Calls Tryz.prog 3 #[v0, .agg #[.string n, .int .i64 r, .string d]] W fun e w' => e = .returned (.bool true) ∧ Below W.heap.size W w' := adds_v hlv hN n d r hns
  refine fin.mono fun e W' ⟨he, bel⟩ => ?_
  subst he
  have lt0 : ∀ x ∈ p0, x.block < W.heap.size := fun x hx => by simpa using hW'.lt x (by simp [hx])
  have lt1 : ∀ x ∈ p1, x.block < W.heap.size := fun x hx => by simpa using hW'.lt x (by simp [hx])
  exact ⟨_, rfl, _, _, _, [], _, [], hW', trodAll_mk1 (shut_bool Tryz.underlying4 _),
    trodAll_cons_mk (Below.trod sadds_laidOut (by kernel_rfl) (of_decide_eq_true (by kernel_rfl)) h0 bel lt0) (trodAll_cons_mk (Below.trod sadds_laidOut (by kernel_rfl) (of_decide_eq_true (by kernel_rfl)) h1 bel lt1) trodAll_mk0), rfl, bel.frame _, fun h => by cases h⟩
end Go.Proofs.YtamgdhphmkehcaaGreatDoor
