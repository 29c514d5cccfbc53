/- law51: Round of the program: its copy of the picture; depth 16. -/
import Derived.Test.YthhanoaefdahkaaGreatDoorRnd
import Derived.Deep.Cut
import Derived.Deep.CutRange
namespace Go.Proofs.YthhanoaefdahkaaGreatDoor
open Go.RowKit

theorem cell_alloc {W : World} {p : Addr} {v : Value} {o : Obj} (hc : W.cell? p = some v) : (W.alloc o).cell? p = some v := cell_keep ((Below.refl _ _).alloc (Nat.le_refl _) _) hc
theorem cell_set {W : World} {p a : Addr} {v u : Value} (hne : p.block ≠ a.block) (hc : W.cell? p = some v) : (W.setCell a u).cell? p = some v :=
  (World.cell?_of_block (w := W) (by simp only [World.setCell]; rw [Array.getElem?_modify, if_neg (fun e => hne e.symm)])).trans hc
theorem cell_refill {W : World} {p : Addr} {v : Value} {o o' : Obj} (hne : p.block ≠ W.heap.size) (hc : (W.alloc o).cell? p = some v) : (W.alloc o').cell? p = some v :=
  (World.cell?_of_block (w := W.alloc o) (by
    show (W.heap.push o')[p.block]? = (W.heap.push o)[p.block]?
    rw [Array.getElem?_push, Array.getElem?_push, if_neg hne, if_neg hne])).trans hc
abbrev Z27 : Obj := .cells #[.int .i64 0, .int .i64 0, .slice none 0 0] 27
theorem far_set {W : World} {a : Addr} {v : Value} {k : Nat} (h : k ≠ a.block) : (W.setCell a v).heap[k]? = W.heap[k]? := by
  simp only [World.setCell]; rw [Array.getElem?_modify, if_neg (fun e => h e.symm)]
theorem set_three {W : World} {b : Nat} {x y z x' y' z' : Value} {t : TypeId} (h : W.heap[b]? = some (.cells #[x, y, z] t (0, 0))) :
    (((W.setCell ⟨b, 0, none⟩ x').setCell ⟨b, 1, none⟩ y').setCell ⟨b, 2, none⟩ z').heap[b]? = some (.cells #[x', y', z'] t (0, 0)) := by
  simp [World.setCell, Array.getElem?_modify, h]
theorem Own.step {base base' : Nat} {w w' : World} {ao : Option Addr} {n c : Nat} {P : Nat → Nat → Int} (h : Own base w ao n c P) (hb : base' ≤ base) (e : ∀ k, base ≤ k → k < w.heap.size → w'.heap[k]? = w.heap[k]?) : Own base' w' ao n c P := by
  rcases h with h | ⟨a, e', h, h'⟩
  · exact .inl h
  · exact .inr ⟨a, e', h.of_block (e _ h' h.lt), Nat.le_trans hb h'⟩
theorem info35 : ∃ i z, Tryz.prog.info? 35 = some i ∧ i.zero = some z ∧ i.size = 4 ∧ i.bytes = 32 ∧ z.cells.size = 4 := by
  have h : (Tryz.prog.info? 35).map (fun i => (i.zero.map fun z => z.cells.size, i.size, i.bytes)) = some (some 4, 4, 32) := by kernel_rfl
  obtain ⟨i, hi, he⟩ := Option.map_eq_some_iff.1 h
  simp only [Prod.mk.injEq] at he
  obtain ⟨h1, h2, h3⟩ := he
  obtain ⟨z, hz, h4⟩ := Option.map_eq_some_iff.1 h1
  exact ⟨i, z, hi, hz, h2, h3, h4⟩

set_option maxRecDepth 100000 in
set_option maxHeartbeats 3200000 in
theorem round_16 (iw ih : Int) (ao : Option Addr) (n c : Nat) (P : Nat → Nat → Int) (hn : n ≤ 65536) (w : World) (him : Img w ao n c P)
    (kc : ∀ W, Below w.heap.size w W → Calls Tryz.prog 18 #[.agg #[.int .i64 iw, .int .i64 ih, .slice ao n c]] W fun e w' => e = .returned (.int .i64 0) ∧ Below W.heap.size W w') :
    Calls Tryz.prog 9 #[.agg #[.int .i64 iw, .int .i64 ih, .slice ao n c], .int .i64 16] w fun e w' => ∃ ao' c', e = .returned (.tuple #[.agg #[.int .i64 iw, .int .i64 ih, .slice ao' n c'], .int .i64 0]) ∧ Img w' ao' n c' P ∧ Below w.heap.size w w' := by
  have hb1 : ∀ ob, Below w.heap.size w (w.alloc ob) := fun ob => (Below.refl _ _).alloc (Nat.le_refl _) _
  have hb2 : ∀ ob o2, Below w.heap.size w ((w.alloc ob).alloc o2) := fun ob o2 => (hb1 ob).alloc (hb1 ob).size _
  obtain ⟨i35, z35, j1, j2, j3, j4, j5⟩ := info35
  go_enter Tryz.func9, Tryz.ntmps9
  go_wp2_with (go_at_call 18; refine (kc _ (hb2 _ _)).mono ?_; rintro e w3 ⟨rfl, hb3⟩
               have g3 := (hb2 _ _).trans (hb3.mono (hb2 _ _).size)
               have z2 := keep_b hb3 (keep_a (heap_alloc_new w _) _)
               have z4 := keep_b hb3 (two_new w _ _)
               obtain ⟨d0, d1, d2⟩ := three_cells z2
               obtain ⟨c0, c1, c2⟩ := three_cells z4
               obtain ⟨f0, f1, f2⟩ := three_frozen z4
               have him3 : Img w3.drew ao n c P := him.mono (below_drew g3)
               have hltw : w.heap.size < w3.heap.size := (by have h := (Array.getElem?_eq_some_iff.1 z4).1; omega)
               have hlt : w.heap.size ≠ w3.heap.size := Nat.ne_of_lt hltw
               have b7 : Below w3.heap.size w3 (w3.alloc (.cells #[.int .i64 0, .int .i64 0, .slice none 0 0] 27)) := (Below.refl _ _).alloc (Nat.le_refl _) _
               have him7 : Img (w3.alloc (.cells #[.int .i64 0, .int .i64 0, .slice none 0 0] 27)).drew ao n c P := (him.mono g3).mono (below_drew b7)
               have y7 := heap_alloc_new w3 (.cells #[.int .i64 0, .int .i64 0, .slice none 0 0] 27)
               clear hb3 f0 f1 f2 c0 c1 c2)
  have hlt2 : w.heap.size + 2 ≤ w3.heap.size := (Array.getElem?_eq_some_iff.1 z4).1
  go_cut [7] from 24 to 31 (fun s7 wx => ∃ (b7 : Nat) (ao' : Option Addr) (c' : Nat), s7 = .pointer (some ⟨b7, 0, none⟩) ∧ wx.heap[b7]? = some (.cells #[.int .i64 iw, .int .i64 ih, .slice ao' n c'] 27 (0, 0)) ∧ Own (w.heap.size + 2) wx ao' n c' P ∧ wx.heap[w.heap.size + 1]? = some Z27 ∧ w.heap.size + 2 ≤ b7 ∧ Below w.heap.size w wx)
  case first =>
    go_region_held3 (fun w' => w'.cell? ⟨w.heap.size, 0, none⟩ = some (.int .i64 iw) ∧ w'.cell? ⟨w.heap.size, 1, none⟩ = some (.int .i64 ih) ∧ w'.cell? ⟨w.heap.size, 2, none⟩ = some (.slice ao n c))
      (first
        | go_keep
        | (go_split_ands; (with_reducible refine ⟨cell_keep hb5 ?_, cell_keep hb5 ?_, cell_keep hb5 ?_⟩) <;> assumption)
        | (go_split_ands; (with_reducible refine ⟨cell_refill (o := Z27) hlt5 ?_, cell_refill (o := Z27) hlt5 ?_, cell_refill (o := Z27) hlt5 ?_⟩) <;> assumption)
        | (go_split_ands; (with_reducible refine ⟨cell_alloc ?_, cell_alloc ?_, cell_alloc ?_⟩) <;> assumption)
        | (go_split_ands; (with_reducible refine ⟨cell_set hlt (cell_set hlt (cell_set hlt ?_)), cell_set hlt (cell_set hlt (cell_set hlt ?_)), cell_set hlt (cell_set hlt (cell_set hlt ?_))⟩) <;> assumption))
      (first
        | (refine step_append_img _ rfl (.const (.slice none 0 0)) (.tmp 29) 25 rfl i35 z35 Tryz.underlying25 j1 j2 j3 j4 j5 rfl ao n c P rfl him3 hn ?_; intro ao' c' w5 hown5 hb5; have hlt5 : w.heap.size ≠ w5.heap.size := Nat.ne_of_lt (Nat.lt_of_lt_of_le hltw hb5.size))
        | (refine step_append_img _ rfl (.const (.slice none 0 0)) (.tmp 29) 25 rfl i35 z35 Tryz.underlying25 j1 j2 j3 j4 j5 rfl ao n c P rfl him7 hn ?_; intro ao' c' w5 hown5 hb5; have q7 : w5.heap[w3.heap.size]? = some Z27 := keep_b hb5 (show (w3.alloc Z27).drew.heap[w3.heap.size]? = some Z27 from y7); obtain ⟨e0, e1, e2⟩ := three_cells q7; obtain ⟨t0, t1, t2⟩ := three_frozen q7))
    all_goals go_wp2
    all_goals go_meet
    · have G5 : Below w.heap.size w w5 := (below_drew g3).trans (hb5.mono (below_drew g3).size)
      have hz5 : w3.heap.size ≤ w5.heap.size := hb5.size
      exact ⟨_, _, _, rfl, heap_alloc_new w5 _, hown5.step (show w.heap.size + 2 ≤ w3.heap.size from hlt2) (fun k _ hk => Below.heap_alloc _ _ _ hk), keep_a (keep_b hb5 (show w3.drew.heap[w.heap.size + 1]? = some Z27 from z4)) _, by omega, G5.alloc G5.size _⟩
    · have G7 : Below w.heap.size w (w3.alloc Z27).drew := below_drew (g3.trans (b7.mono g3.size))
      have G5 : Below w.heap.size w w5 := G7.trans (hb5.mono G7.size)
      have hsz : (w3.alloc Z27).heap.size = w3.heap.size + 1 := size_alloc _ _
      exact ⟨_, _, _, rfl, set_three q7, hown5.step (show w.heap.size + 2 ≤ (w3.alloc Z27).heap.size by omega) (fun k hk _ => by
          have hk : (w3.alloc Z27).heap.size ≤ k := hk
          rw [far_set (by show k ≠ w3.heap.size; omega), far_set (by show k ≠ w3.heap.size; omega), far_set (by show k ≠ w3.heap.size; omega)]),
        by rw [far_set (by show w.heap.size + 1 ≠ w3.heap.size; omega), far_set (by show w.heap.size + 1 ≠ w3.heap.size; omega), far_set (by show w.heap.size + 1 ≠ w3.heap.size; omega)]
           exact keep_b hb5 (show (w3.alloc Z27).drew.heap[w.heap.size + 1]? = some Z27 from keep_a z4 _), by omega,
        ((G5.setCell (show w.heap.size ≤ w3.heap.size by omega) _).setCell (show w.heap.size ≤ w3.heap.size by omega) _).setCell (show w.heap.size ≤ w3.heap.size by omega) _⟩
  case rest =>
    obtain ⟨b7, ao', c', rfl, hB, hO, hZ, hb7, G⟩ := hcut
    obtain ⟨x0, x1, x2⟩ := three_cells hB
    obtain ⟨f0, f1, f2⟩ := three_frozen hZ
    obtain ⟨c0, c1, c2⟩ := three_cells hZ
    clear hB
    go_wp2
    refine bodyPost_ret (v := .tuple #[.agg #[.int .i64 iw, .int .i64 ih, .slice ao' n c'], .int .i64 0]) ?_ rfl ⟨ao', c', rfl, (hO.step (base' := 0) (Nat.zero_le _) fun k hk _ => ?_).img, ?_⟩
    · rw [results_cell_tmp rfl]
      go_simp
    · rw [far_set (by show k ≠ w.heap.size + 1; omega), far_set (by show k ≠ w.heap.size + 1; omega), far_set (by show k ≠ w.heap.size + 1; omega)]
    · exact ((G.setCell (by simp) _).setCell (by simp) _).setCell (by simp) _
end Go.Proofs.YthhanoaefdahkaaGreatDoor
