/- The walks of the callees of SmartWants: Latest, and the specification's Latest, hundred and Wants, for every library of whatever length that lies in memory. -/
import Derived.Test.YtamgdhphmkehcaaGreatDoorWants
import Derived.Deep.QuietTactic
import Derived.BigQuiet
namespace Go.Proofs.YtamgdhphmkehcaaGreatDoor
open Go.RowKit

def fileV (n : ByteArray) (r : Int) (d : ByteArray) : Value := .agg #[.string n, .int .i64 r, .string d]

set_option maxHeartbeats 400000 in
theorem latest_true (a : Int) (w : World) :
    Calls Tryz.prog 28 #[.int .i64 a] w fun e w' => e = .returned (.bool true) ∧ w' = w := by
  go_enter Tryz.func28, Tryz.ntmps28
  go_wp2
  go_ret
  exact ⟨rfl, rfl⟩
theorem enters28 : ∀ (args : Array Value) (w : World), (callFunc 28 args).run Tryz.prog w = .ok (.enter 28 args) w := enters_of Tryz.func28 (by decide +kernel) rfl

def yes : Int → Bool := fun _ => true

set_option maxHeartbeats 1600000 in
theorem latest_any (a : Addr) (len cap : Nat) (N D : Nat → ByteArray) (R : Nat → Int) (name : ByteArray) (w : World) (hl : Lib w a len N D R) (hblk : 0 < len → a.block < w.heap.size)
    (hlen : len ≤ 9223372036854775807) :
    Calls Tryz.prog 13 #[.slice (some a) len cap, .string name] w fun e w' =>
      e = .returned (.tuple #[.agg #[.string (bN N (st N R name yes len)), .int .i64 (bR R (st N R name yes len)), .string (bN D (st N R name yes len))], .bool (st N R name yes len).isSome]) ∧ Below w.heap.size w w' := by
  obtain ⟨W1, hW1⟩ : ∃ W1, W1 = w.alloc (.cells #[.string ⟨#[]⟩, .int .i64 0, .string ⟨#[]⟩] 24) := ⟨_, rfl⟩
  have hs1 : W1.heap.size = w.heap.size + 1 := by rw [hW1]; show (w.heap.push _).size = _; simp
  have hb1 : Below w.heap.size w W1 := by rw [hW1]; exact (Below.refl _ _).alloc (Nat.le_refl _) _
  have hl1 : Lib W1 a len N D R := hl.mono hb1 hblk
  have hblk1 : 0 < len → a.block < W1.heap.size := fun h => by have := hblk h; omega
  have hheap : W1.heap[w.heap.size]? = some (.cells #[.string ⟨#[]⟩, .int .i64 0, .string ⟨#[]⟩] 24 (0, 0)) := by rw [hW1]; exact heap_alloc_new w _
  have hblock : ∀ w2, Below W1.heap.size W1 w2 → w2.heap[w.heap.size]? = some (.cells #[.string ⟨#[]⟩, .int .i64 0, .string ⟨#[]⟩] 24 (0, 0)) := fun w2 h => (h.block _ (by omega)).trans hheap
  have hfin : ∀ w2, Below W1.heap.size W1 w2 → Below w.heap.size w w2 := fun w2 h => hb1.trans (h.mono (by omega))
  have key := greatest_any a len cap N D R name 28 #[] yes W1 hl1 hblk1 hlen enters28 (fun r w1 _ => (latest_true r w1).mono fun e w2 ⟨h1, h2⟩ => ⟨h1, 0, h2⟩)
  obtain ⟨o, ho⟩ : ∃ o, st N R name yes len = o := ⟨_, rfl⟩
  rw [ho] at key ⊢
  rw [hW1] at key hblock hfin
  clear hl hl1 hheap hb1
  go_enter Tryz.func13, Tryz.ntmps13
  go_wp2_with (go_at_call 27; refine key.mono ?_; rintro e w2 ⟨rfl, hb2⟩; have hz := hblock w2 hb2; have hz0 : w2.frozen? ⟨w.heap.size, 0, none⟩ = false := (by simp [World.frozen?, hz]); have hz1 : w2.frozen? ⟨w.heap.size, 1, none⟩ = false := (by simp [World.frozen?, hz]); have hz2 : w2.frozen? ⟨w.heap.size, 2, none⟩ = false := (by simp [World.frozen?, hz]); have hc0 : w2.cell? ⟨w.heap.size, 0, none⟩ = some (.string ⟨#[]⟩) := (by simp [World.cell?, hz]); have hc1 : w2.cell? ⟨w.heap.size, 1, none⟩ = some (.int .i64 0) := (by simp [World.cell?, hz]); have hc2 : w2.cell? ⟨w.heap.size, 2, none⟩ = some (.string ⟨#[]⟩) := (by simp [World.cell?, hz]))
  refine bodyPost_ret (v := .tuple #[.agg #[.string (bN N o), .int .i64 (bR R o), .string (bN D o)], .bool o.isSome]) ?_ rfl ⟨rfl, ?_⟩
  · rw [results_cell_tmp rfl]
    go_simp
  · exact (((hfin _ hb2).setCell (by simp) _).setCell (by simp) _).setCell (by simp) _

set_option maxHeartbeats 1600000 in
theorem rlatest_any (a : Addr) (len cap : Nat) (N D : Nat → ByteArray) (R : Nat → Int) (name : ByteArray) (w : World) (hl : Lib w a len N D R) (hblk : 0 < len → a.block < w.heap.size)
    (hlen : len ≤ 9223372036854775807) :
    Calls Tryz.prog 14 #[.slice (some a) len cap, .string name] w fun e w' =>
      e = .returned (.tuple #[.agg #[.string (bN N (st N R name yes len)), .int .i64 (bR R (st N R name yes len)), .string (bN D (st N R name yes len))], .bool (st N R name yes len).isSome]) ∧ Below w.heap.size w w' := by
  go_enter Tryz.func14, Tryz.ntmps14
  go_wp2
  go_loopw [7, 11] (fun fo i wr => ∃ k : Nat, k ≤ len ∧ i = .int .i64 k ∧ fo = .bool (st N R name yes k).isSome ∧
      wr.heap[w.heap.size]? = some (.cells #[.string ⟨#[]⟩, .int .i64 0, .string ⟨#[]⟩] 24 (0, 0)) ∧
      wr.heap[w.heap.size + 1]? = some (.cells #[.string (bN N (st N R name yes k)), .int .i64 (bR R (st N R name yes k)), .string (bN D (st N R name yes k))] 24 (0, 0)) ∧
      Below w.heap.size w wr)
    (fun _ i _ => len - (intOf i).toNat)
  case atStart =>
    refine ⟨0, Nat.zero_le _, rfl, rfl, ?_, ?_, ((Below.refl _ _).alloc (Nat.le_refl _) _).alloc (by simp) _⟩
    · rw [Below.heap_alloc _ _ _ (by show w.heap.size < (w.heap.push _).size; simp)]; exact heap_alloc_new w _
    · have := heap_alloc_new (w.alloc (Obj.cells #[Value.string { data := #[] }, Value.int IntKind.i64 0, Value.string { data := #[] }] 24)) (Obj.cells #[Value.string { data := #[] }, Value.int IntKind.i64 0, Value.string { data := #[] }] 24)
      have e : (w.alloc (Obj.cells #[Value.string { data := #[] }, Value.int IntKind.i64 0, Value.string { data := #[] }] 24)).heap.size = w.heap.size + 1 := by show (w.heap.push _).size = _; simp
      rw [e] at this
      exact this
  case round =>
    obtain ⟨k, hk, rfl, rfl, hz, hb, hbel⟩ := hrel
    have hn : k < len → wr.cell? (a.add (k * 3)) = some (.string (N k)) := fun h => (hbel.cell (by show (a.add (k * 3)).block < _; rw [addB]; exact hblk (by omega))).trans (hl.n k h)
    have hr : k < len → wr.cell? ⟨(a.add (k * 3)).block, (a.add (k * 3)).off + 1, none⟩ = some (.int .i64 (R k)) := fun h => (hbel.cell (by show (a.add (k * 3)).block < _; rw [addB]; exact hblk (by omega))).trans (hl.r k h)
    have hd : k < len → wr.cell? ⟨(a.add (k * 3)).block, (a.add (k * 3)).off + 2, none⟩ = some (.string (D k)) := fun h => (hbel.cell (by show (a.add (k * 3)).block < _; rw [addB]; exact hblk (by omega))).trans (hl.d k h)
    obtain ⟨o, ho⟩ : ∃ o, st N R name yes k = o := ⟨_, rfl⟩
    rw [ho] at hb ⊢
    have hc0 : wr.cell? ⟨w.heap.size + 1, 0, none⟩ = some (.string (bN N o)) := by simp [World.cell?, hb]
    have hc1 : wr.cell? ⟨w.heap.size + 1, 1, none⟩ = some (.int .i64 (bR R o)) := by simp [World.cell?, hb]
    have hc2 : wr.cell? ⟨w.heap.size + 1, 2, none⟩ = some (.string (bN D o)) := by simp [World.cell?, hb]
    have hf0 : wr.frozen? ⟨w.heap.size + 1, 0, none⟩ = false := by simp [World.frozen?, hb]
    have hf1 : wr.frozen? ⟨w.heap.size + 1, 1, none⟩ = false := by simp [World.frozen?, hb]
    have hf2 : wr.frozen? ⟨w.heap.size + 1, 2, none⟩ = false := by simp [World.frozen?, hb]
    have hz0 : wr.cell? ⟨w.heap.size, 0, none⟩ = some (.string ⟨#[]⟩) := by simp [World.cell?, hz]
    have hz1 : wr.cell? ⟨w.heap.size, 1, none⟩ = some (.int .i64 0) := by simp [World.cell?, hz]
    have hz2 : wr.cell? ⟨w.heap.size, 2, none⟩ = some (.string ⟨#[]⟩) := by simp [World.cell?, hz]
    have hzf0 : wr.frozen? ⟨w.heap.size, 0, none⟩ = false := by simp [World.frozen?, hz]
    have hzf1 : wr.frozen? ⟨w.heap.size, 1, none⟩ = false := by simp [World.frozen?, hz]
    have hzf2 : wr.frozen? ⟨w.heap.size, 2, none⟩ = false := by simp [World.frozen?, hz]
    by_cases hkl : k < len
    · have hn := hn hkl
      have hr := hr hkl
      have hd := hd hkl
      have hkl' : (k : Int) < (len : Int) := by omega
      by_cases hN : (N k).toList = name.toList
      · rcases o with _ | j
        · have hst : st N R name yes (k + 1) = some k := if_pos (by rw [ho]; simp [better, yes, hN])
          go_wp2
          go_quiet (fail)
          go_wp2
          refine ⟨⟨k + 1, by omega, by simp, by rw [hst]; rfl, ?_, ?_, ?_⟩, by simp [intOf]; omega⟩
          · rw [Below.heap_setCell _ _ _ _ (by simp), Below.heap_setCell _ _ _ _ (by simp), Below.heap_setCell _ _ _ _ (by simp)]
            exact hz
          · rw [hst]
            exact three_setCell hb
          · exact (((below_drewN hbel _).setCell (by simp) _).setCell (by simp) _).setCell (by simp) _
        · by_cases hR : R j < R k
          · have hst : st N R name yes (k + 1) = some k := if_pos (by rw [ho]; simp [better, yes, hN, hR])
            have hR' : bR R (some j) < R k := hR
            go_wp2
            go_quiet (fail)
            go_wp2
            refine ⟨⟨k + 1, by omega, by simp, by rw [hst]; rfl, ?_, ?_, ?_⟩, by simp [intOf]; omega⟩
            · rw [Below.heap_setCell _ _ _ _ (by simp), Below.heap_setCell _ _ _ _ (by simp), Below.heap_setCell _ _ _ _ (by simp)]
              exact hz
            · rw [hst]
              exact three_setCell hb
            · exact (((below_drewN hbel _).setCell (by simp) _).setCell (by simp) _).setCell (by simp) _
          · have hst : st N R name yes (k + 1) = st N R name yes k := if_neg (by rw [ho]; simp [better, yes, hN, hR])
            have hR' : ¬ bR R (some j) < R k := hR
            go_wp2
            go_quiet (fail)
            go_wp2
            exact ⟨⟨k + 1, by omega, by simp, by rw [hst, ho]; rfl, hz, by rw [hst, ho]; exact hb, below_drewN hbel _⟩, by simp [intOf]; omega⟩
      · have hN' : ((N k).toList == name.toList) = false := by simpa using hN
        have hst : st N R name yes (k + 1) = st N R name yes k := if_neg (by simp [hN'])
        go_wp2
        go_quiet (fail)
        go_wp2
        exact ⟨⟨k + 1, by omega, by simp, by rw [hst, ho], hz, by rw [hst, ho]; exact hb, below_drewN hbel _⟩, by simp [intOf]; omega⟩
    · have hkl' : k = len := by omega
      subst hkl'
      go_wp2
      refine bodyPost_ret (v := .tuple #[.agg #[.string (bN N o), .int .i64 (bR R o), .string (bN D o)], .bool o.isSome]) ?_ rfl ⟨by rw [ho], ?_⟩
      · rw [results_cell_tmp rfl]
        go_simp
      · exact ((hbel.setCell (by simp) _).setCell (by simp) _).setCell (by simp) _
end Go.Proofs.YtamgdhphmkehcaaGreatDoor
