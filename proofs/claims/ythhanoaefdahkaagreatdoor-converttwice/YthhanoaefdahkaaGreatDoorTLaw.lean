/- ConvertTwice: for every image, from every memory that holds the table of powers of ten, the law returns true. -/
import Derived.Test.YthhanoaefdahkaaGreatDoorTWalk
import Derived.Test.YthhanoaefdahkaaGreatDoorRnds9
namespace Go.Proofs.YthhanoaefdahkaaGreatDoor
open Go.RowKit Go.Ev
theorem twice_any (iw ih : Int) (ao : Option Addr) (n c : Nat) (P : Nat → Nat → Int) (w : World) (hw : TabsIn w tabs51) (hn : n ≤ 9223372036854775807) (him : Img w ao n c P) :
    Calls Tryz.prog 5 #[.agg #[.int .i64 iw, .int .i64 ih, .slice ao n c]] w fun e w' => e = .returned (.bool true) ∧ Below w.heap.size w w' := by
  by_cases hc : chkI iw ih n P = 0
  · have e8 : ∀ Q, chkI iw ih n Q = 0 → eR iw ih n Q 8 = 0 := fun Q h => by simp [eR, h]
    have e16 : eR iw ih n P 16 = 0 := by simp [eR, hc]
    have hok := (chk_zero hc).2.2
    have hcr : chkI iw ih n (rp P) = 0 := chk_zero_of hc fun j k hj hk => rp_in (okTo_down hok hj) hk
    refine twice_good iw ih ao n c P w hn hw him (fun W hb => ?_) (fun W ao1 c1 hi => ?_) (fun W hb => ?_)
    · have h := rnds9 (iw := iw) (ih := ih) (dep := 8) (him.mono hb)
      unfold Rnds at h
      rw [e8 P hc] at h
      exact h
    · have h := rnds9 (iw := iw) (ih := ih) (dep := 8) hi
      unfold Rnds at h
      rw [e8 _ hcr] at h
      exact h.mono fun e w' ⟨ao', c', he, hi', hb⟩ => ⟨ao', c', he, hi'.congr fun j k _ _ => rp_rp P j k, hb⟩
    · have h := rnds9 (iw := iw) (ih := ih) (dep := 16) (him.mono hb)
      unfold Rnds at h
      rw [e16] at h
      exact h
  · obtain ⟨E, hE⟩ : ∃ E, chkI iw ih n P = E := ⟨_, rfl⟩
    rw [hE] at hc
    refine twice_bad iw ih ao n c (pR P 8) E hc w hw fun W hb => ?_
    have h := rnds9 (iw := iw) (ih := ih) (dep := 8) (him.mono hb)
    unfold Rnds at h
    rw [show eR iw ih n P 8 = E by simp [eR, hE, hc], show sR E iw = 0 from if_neg hc, show sR E ih = 0 from if_neg hc, show nR E n = 0 from if_neg hc] at h
    exact h
end Go.Proofs.YthhanoaefdahkaaGreatDoor
