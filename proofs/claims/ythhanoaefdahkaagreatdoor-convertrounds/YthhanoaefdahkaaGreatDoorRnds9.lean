/- law51: the program's Round answers what Plain says. -/
import Derived.Test.YthhanoaefdahkaaGreatDoorRnd3
namespace Go.Proofs.YthhanoaefdahkaaGreatDoor
open Go.RowKit
theorem rnds9 {iw ih : Int} {ao : Option Addr} {n c : Nat} {P : Nat → Nat → Int} {dep : Int} {W : World} (him : Img W ao n c P) : Rnds 9 iw ih ao n c P dep W := by
  unfold Rnds
  by_cases hc : chkI iw ih n P = 0
  · have kc : ∀ W', Below W.heap.size W W' → Calls Tryz.prog 18 #[.agg #[.int .i64 iw, .int .i64 ih, .slice ao n c]] W' fun e w' => e = .returned (.int .i64 0) ∧ Below W'.heap.size W' w' := fun W' hb => by
      have h := check_any iw ih ao n c P W' (him.mono hb)
      rwa [hc] at h
    have hn := chk_zero_n hc
    have hok := (chk_zero hc).2.2
    by_cases h8 : dep = 8
    · subst h8
      rw [show eR iw ih n P 8 = 0 by simp [eR, hc]]
      exact round_8 iw ih ao n c P hn hok W him kc
    · by_cases h16 : dep = 16
      · subst h16
        rw [show eR iw ih n P 16 = 0 by simp [eR, hc]]
        exact round_16 iw ih ao n c P hn W him kc
      · rw [show eR iw ih n P dep = 2 by simp [eR, hc, h8, h16]]
        exact (round_range iw ih ao n c dep h8 h16 W kc).mono fun e w' ⟨he, hb⟩ => ⟨none, 0, he, .inl ⟨rfl, rfl, rfl⟩, hb⟩
  · obtain ⟨E, hE⟩ : ∃ E, chkI iw ih n P = E := ⟨_, rfl⟩
    rw [hE] at hc
    have kc : ∀ W', Below W.heap.size W W' → Calls Tryz.prog 18 #[.agg #[.int .i64 iw, .int .i64 ih, .slice ao n c]] W' fun e w' => e = .returned (.int .i64 E) ∧ Below W'.heap.size W' w' := fun W' hb => by
      have h := check_any iw ih ao n c P W' (him.mono hb)
      rwa [hE] at h
    rw [show eR iw ih n P dep = E by simp [eR, hE, hc], show sR E iw = 0 from if_neg hc, show sR E ih = 0 from if_neg hc, show nR E n = 0 from if_neg hc]
    exact (round_bad iw ih ao n c dep E hc W kc).mono fun e w' ⟨he, hb⟩ => ⟨none, 0, he, .inl ⟨rfl, rfl, rfl⟩, hb⟩
end Go.Proofs.YthhanoaefdahkaaGreatDoor
