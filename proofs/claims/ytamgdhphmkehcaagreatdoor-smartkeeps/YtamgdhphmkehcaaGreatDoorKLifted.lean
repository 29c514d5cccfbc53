/- SmartKeeps, lifted to its row: for every library (nil too), file and other name, whatever else lies in memory, the law returns true and its arguments read as before; its condition: the two listed tables of unicode/utf8 start as the program's text lays them. -/
import Derived.Test.YtamgdhphmkehcaaGreatDoorTie
import Derived.Test.YtamgdhphmkehcaaGreatDoorKeeps
import Derived.Test.YtamgdhphmkehcaaGreatDoorOpen2
import Derived.ProofKit
import Derived.OpenShut
import Derived.LaidMore
import Derived.Lay
import Derived.Carry
import Derived.SevenTiedAt
import Derived.Stop.Joined
namespace Go.Proofs.YtamgdhphmkehcaaGreatDoor
open Go.ChangeShapes Go.WideShapes Go.ChangeAt Go.RowKit

def addrOf : Value → Addr
  | .slice (some a) _ _ => a
  | _ => ⟨0, 0, none⟩
theorem skeeps_own : ownKnob Tryz.prog.godebug = none := by kernel_rfl
theorem skeeps_laidOut : laidOutB Tryz.prog = true := by kernel_rfl

theorem skeeps_laid (os : Os) : laidMetH Tryz.prog Rows.smartKeepsRow.laid ((World.laidAll Tryz.prog os Rows.smartKeepsRow.laid).forCall (fun _ _ => 0) { blocks := #[], args := #[.slice none 0 0, .agg #[.string ⟨#[]⟩, .int .i64 0, .string ⟨#[]⟩], .string ⟨#[]⟩] }).memory := by
  rw [MakeChecks.laidMetH_plain _ _ _ (by kernel_rfl)]
  exact laidMet_laidAll _ (by kernel_rfl) (by kernel_rfl)

set_option maxRecDepth 100000 in
theorem skeeps_lifted (os : Os) (started : os.Started) (H : Type) (enc : TypeId × Value → H) :
    ReturnsInHanded {} Tryz.checked os 5 .any (fun w args => (Rows.smartKeepsSpec.pre enc Tryz.prog Tryz.f5 Rows.smartKeepsRow.domain false w args ∧ laidMetH Tryz.prog Rows.smartKeepsRow.laid w) ∧ sizedMet enc Tryz.prog Tryz.f5 (OpenSpec.ofChange Rows.smartKeepsSpec) false w args)
      (Rows.smartKeepsSpec.post enc Tryz.prog Tryz.f5 false true false false) := by
  refine returnsInHanded_of_change_and (C := Tryz.checked) (X := fun w _ => laidMetH Tryz.prog Rows.smartKeepsRow.laid w) (fun _ _ _ hh h => h.of_heap hh) skeeps_own started (by kernel_rfl) Tryz.func5
    (ChangeSpec.witness_shaped (enc := enc) (C := Tryz.checked) (os := os) (X := fun w _ => laidMetH Tryz.prog Rows.smartKeepsRow.laid w) false (World.laidAll Tryz.prog os Rows.smartKeepsRow.laid)
      #[.slice none 0 0, .agg #[.string ⟨#[]⟩, .int .i64 0, .string ⟨#[]⟩], .string ⟨#[]⟩] 8 (World.laidAll_os _ _ _)
      (World.shaped_of_ZipB (by kernel_rfl) (by kernel_rfl)) (by kernel_rfl) (by kernel_rfl) (by kernel_rfl)
      (skeeps_laid os)) ?_
  intro W base args ds gs before hval0 hW hc _ hL _
  have hval : ∀ (j : Nat) t v, Tryz.f5.params[j]? = some t → args[j]? = some v → Value.okWide Tryz.prog W .any base t v := hval0
  have hW' := hW
  obtain ⟨p, q, hA0, hV, rfl, _, _⟩ := hW
  have hA : DataW.TrodAll enc Tryz.prog W 0 (fun _ => true) true Tryz.f5.params.toList args.toList ds p := hA0
  rw [Tryz.params5] at hA hval
  obtain ⟨v0, vs0, d0, ds0, p0, q0, hargs, rfl, rfl, h0, r0⟩ := trodAll_cons hA
  obtain ⟨v1, vs1, d1, ds1, p1, q1, rfl, rfl, rfl, h1, r1⟩ := trodAll_cons r0
  obtain ⟨v2, vs2, d2, ds2, p2, q2, rfl, rfl, rfl, h2, r2⟩ := trodAll_cons r1
  obtain ⟨rfl, rfl, rfl⟩ := trodAll_nil r2
  obtain rfl : args = #[v0, v1, v2] := by cases args; simp_all
  obtain ⟨rfl, rfl⟩ := trodVars_none hV
  have hv0 := hval 0 22 v0 rfl rfl
  have hv1 := hval 1 24 v1 rfl rfl
  have hv2 := hval 2 9 v2 rfl rfl
  obtain ⟨n, r, d, rfl⟩ := open_file hv1 h1
  obtain ⟨other, rfl⟩ := open_text hv2 h2
  simp only [List.append_nil] at hW'
  have hlv : ∃ len, LibV W v0 len (fun j => strAt W ((addrOf v0).add (j * 3))) (fun j => strAt W ⟨((addrOf v0).add (j * 3)).block, ((addrOf v0).add (j * 3)).off + 2, none⟩) (fun j => intAt W ⟨((addrOf v0).add (j * 3)).block, ((addrOf v0).add (j * 3)).off + 1, none⟩) := by
    rcases open_lib hv0 h0 with rfl | ⟨a, len, cap, rfl, hlen, hblk, hl⟩
    · exact ⟨0, .inl ⟨rfl, rfl⟩⟩
    · exact ⟨len, .inr ⟨a, cap, rfl, hl, hblk, hlen, lib_cap h0⟩⟩
  obtain ⟨len, hlv⟩ := hlv
  have fin : Calls Tryz.prog 5 #[v0, .agg #[.string n, .int .i64 r, .string d], .string other] W fun e w' => e = .returned (.bool true) ∧ Below W.heap.size W w' := keeps_v hlv n d other r
  refine fin.mono fun e W' ⟨he, bel⟩ => ?_
  subst he
  have lt0 : ∀ x ∈ p0, x.block < W.heap.size := fun x hx => by simpa using hW'.lt x (by simp [hx])
  have lt1 : ∀ x ∈ p1, x.block < W.heap.size := fun x hx => by simpa using hW'.lt x (by simp [hx])
  have lt2 : ∀ x ∈ p2, x.block < W.heap.size := fun x hx => by simpa using hW'.lt x (by simp [hx])
  exact ⟨_, rfl, _, _, _, [], _, [], hW', trodAll_mk1 (shut_bool Tryz.underlying4 _),
    trodAll_cons_mk (Below.trod skeeps_laidOut (by kernel_rfl) (of_decide_eq_true (by kernel_rfl)) h0 bel lt0) (trodAll_cons_mk (Below.trod skeeps_laidOut (by kernel_rfl) (of_decide_eq_true (by kernel_rfl)) h1 bel lt1) (trodAll_cons_mk (Below.trod skeeps_laidOut (by kernel_rfl) (of_decide_eq_true (by kernel_rfl)) h2 bel lt2) trodAll_mk0)), rfl, bel.frame _, fun h => by cases h⟩
end Go.Proofs.YtamgdhphmkehcaaGreatDoor
