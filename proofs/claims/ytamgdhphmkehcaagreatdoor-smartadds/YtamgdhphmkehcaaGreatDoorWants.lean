/- The walks of the callees of SmartRules: num.Floor, the closures of Wants, greatest, Wants: what each answers, for every library of whatever length that lies in memory. -/
import Derived.Test.YtamgdhphmkehcaaGreatDoorRows
import Derived.WalkKit
import Derived.WalkSpells
import Derived.WalkLawsBesides
import Derived.Deep.QuietTactic
import Derived.BigQuiet
import Derived.Shelf.Abstract
import Derived.Laws.ResultCell
namespace Go.Proofs.YtamgdhphmkehcaaGreatDoor
open Go.RowKit

def fl (a : Int) : Int := if ¬ a.tmod 100 = 0 ∧ a < 0 then wrap64 (wrap64 (a.tdiv 100) - 1) else wrap64 (a.tdiv 100)
set_option maxHeartbeats 400000 in
theorem floor_any (a : Int) (w : World) :
    Calls Tryz.prog 31 #[.int .i64 a, .int .i64 100] w fun e w' => e = .returned (.int .i64 (fl a)) ∧ w' = w := by
  go_enter Tryz.func31, Tryz.ntmps31
  go_wp2
  all_goals go_ret
  · refine ⟨?_, rfl⟩
    rename_i h
    have : fl a = wrap64 (a.tdiv 100) := if_neg (by simp [h])
    simp [this]
  · refine ⟨?_, rfl⟩
    rename_i h0 h
    have : fl a = wrap64 (wrap64 (a.tdiv 100) - 1) := if_pos ⟨h0, h.2⟩
    simp [this]
  · refine ⟨?_, rfl⟩
    rename_i h0 h
    have : fl a = wrap64 (a.tdiv 100) := if_neg (by
      rintro ⟨h1, h2⟩
      rcases h with h | h
      · simp [h1] at h
      · omega)
    simp [this]

set_option maxHeartbeats 400000 in
theorem true_any (a : Int) (w : World) :
    Calls Tryz.prog 29 #[.int .i64 a] w fun e w' => e = .returned (.bool true) ∧ w' = w := by
  go_enter Tryz.func29, Tryz.ntmps29
  go_wp2
  go_ret
  exact ⟨rfl, rfl⟩

set_option maxHeartbeats 400000 in
theorem major_any (a rev : Int) (b : Nat) (w : World) (hr : w.cell? ⟨b, 3, none⟩ = some (.int .i64 rev)) :
    Calls Tryz.prog 30 #[.int .i64 a, .pointer (some ⟨b, 0, none⟩)] w fun e w' => e = .returned (.bool (fl a == fl rev)) ∧ ∃ q, w' = w.drewN q := by
  go_enter Tryz.func30, Tryz.ntmps30
  go_wp2
  go_quiet ((go_at_call 31; exact Calls.quiet_of_same (floor_any _ _)))
  go_wp2
  go_ret
  exact ⟨by simp, _, rfl⟩

theorem addB (a : Addr) (n : Nat) : (a.add n).block = a.block := by unfold Addr.add; split <;> rfl
/-- A library in memory: names, revisions, data. -/
structure Lib (w : World) (a : Addr) (len : Nat) (N D : Nat → ByteArray) (R : Nat → Int) : Prop where
  n : ∀ j, j < len → w.cell? (a.add (j * 3)) = some (.string (N j))
  r : ∀ j, j < len → w.cell? ⟨(a.add (j * 3)).block, (a.add (j * 3)).off + 1, none⟩ = some (.int .i64 (R j))
  d : ∀ j, j < len → w.cell? ⟨(a.add (j * 3)).block, (a.add (j * 3)).off + 2, none⟩ = some (.string (D j))

/-- What the search holds behind k files: is one found, and which. -/
def better (R : Nat → Int) (r : Int) : Option Nat → Bool
  | none => true
  | some j => decide (R j < r)
def st (N : Nat → ByteArray) (R : Nat → Int) (name : ByteArray) (p : Int → Bool) : Nat → Option Nat
  | 0 => none
  | k + 1 => if ((N k).toList == name.toList && p (R k) && better R (R k) (st N R name p k)) = true then some k else st N R name p k
def bN (N : Nat → ByteArray) : Option Nat → ByteArray
  | none => ⟨#[]⟩
  | some j => N j
def bR (R : Nat → Int) : Option Nat → Int
  | none => 0
  | some j => R j

theorem block_setCell {w : World} {b i : Nat} {c : Array Value} {v : Value} {t : TypeId} {fr : Nat × Nat} (h : w.heap[b]? = some (.cells c t fr)) :
    (w.setCell ⟨b, i, none⟩ v).heap[b]? = some (.cells (c.setIfInBounds i v) t fr) := by
  have hlt := lt_of_block h
  have h' : w.heap[b] = .cells c t fr := by simpa [Array.getElem?_eq_getElem hlt] using h
  show (w.heap.modify b _)[b]? = _
  rw [Array.getElem?_eq_getElem (by simpa using hlt), Array.getElem_modify_self, h']
  rfl
theorem three_setCell {w : World} {b : Nat} {x y z x' y' z' : Value} {t : TypeId} (h : w.heap[b]? = some (.cells #[x, y, z] t (0, 0))) :
    (((w.setCell ⟨b, 0, none⟩ x').setCell ⟨b, 1, none⟩ y').setCell ⟨b, 2, none⟩ z').heap[b]? = some (.cells #[x', y', z'] t (0, 0)) :=
  block_setCell (block_setCell (block_setCell h))
theorem below_drewN {B : Nat} {a w : World} (h : Below B a w) (q : Nat) : Below B a (w.drewN q) := ⟨h.os, h.tape, h.output, h.size, h.block⟩

set_option maxHeartbeats 1600000 in
theorem greatest_any (a : Addr) (len cap : Nat) (N D : Nat → ByteArray) (R : Nat → Int) (name : ByteArray) (g : Nat) (caps : Array Value) (p : Int → Bool) (w : World) (hl : Lib w a len N D R) (hblk : 0 < len → a.block < w.heap.size)
    (hlen : len ≤ 9223372036854775807)
    (hen : ∀ (args : Array Value) (w : World), (callFunc g args).run Tryz.prog w = .ok (.enter g args) w)
    (hp : ∀ (r : Int) (w1 : World), Below w.heap.size w w1 → Calls Tryz.prog g (#[.int .i64 r] ++ caps) w1 fun e w2 => e = .returned (.bool (p r)) ∧ ∃ q, w2 = w1.drewN q) :
    Calls Tryz.prog 27 #[.slice (some a) len cap, .string name, .func (.func g) #[] caps] w fun e w' =>
      e = .returned (.tuple #[.agg #[.string (bN N (st N R name p len)), .int .i64 (bR R (st N R name p len)), .string (bN D (st N R name p len))], .bool (st N R name p len).isSome]) ∧ Below w.heap.size w w' := by
  go_enter Tryz.func27, Tryz.ntmps27
  go_wp2
  go_loopw [9, 14] (fun fnd i wr => ∃ k : Nat, k ≤ len ∧ i = .int .i64 k ∧ fnd = .bool (st N R name p k).isSome ∧
      wr.heap[w.heap.size]? = some (.cells #[.string ⟨#[]⟩, .int .i64 0, .string ⟨#[]⟩] 24 (0, 0)) ∧
      wr.heap[w.heap.size + 1]? = some (.cells #[.string (bN N (st N R name p k)), .int .i64 (bR R (st N R name p k)), .string (bN D (st N R name p k))] 24 (0, 0)) ∧
      Below w.heap.size w wr)
    (fun _ i _ => len - (intOf i).toNat)
  case atStart =>
    refine ⟨0, Nat.zero_le _, rfl, rfl, ?_, ?_, ((Below.refl _ _).alloc (Nat.le_refl _) _).alloc (by simp) _⟩
    · rw [Below.heap_alloc _ _ _ (by show w.heap.size < (w.heap.push _).size; simp)]; exact heap_alloc_new w _
    · have := heap_alloc_new (w.alloc (Obj.cells #[Value.string { data := #[] }, Value.int IntKind.i64 0, Value.string { data := #[] }] 24)) (Obj.cells #[Value.string { data := #[] }, Value.int IntKind.i64 0, Value.string { data := #[] }] 24)
      have e : (w.alloc (Obj.cells #[Value.string { data := #[] }, Value.int IntKind.i64 0, Value.string { data := #[] }] 24)).heap.size = w.heap.size + 1 := by show (w.heap.push _).size = _; simp
      rw [e] at this
      exact this
  case round =>
    obtain ⟨k, hk, rfl, rfl, hz, hb, hbel⟩ := hrel
    have hn : k < len → wr.cell? (a.add (k * 3)) = some (.string (N k)) := fun h => (hbel.cell (by show (a.add (k * 3)).block < _; rw [addB]; exact hblk (by omega))).trans (hl.n k h)
    have hr : k < len → wr.cell? ⟨(a.add (k * 3)).block, (a.add (k * 3)).off + 1, none⟩ = some (.int .i64 (R k)) := fun h => (hbel.cell (by show (a.add (k * 3)).block < _; rw [addB]; exact hblk (by omega))).trans (hl.r k h)
    have hd : k < len → wr.cell? ⟨(a.add (k * 3)).block, (a.add (k * 3)).off + 2, none⟩ = some (.string (D k)) := fun h => (hbel.cell (by show (a.add (k * 3)).block < _; rw [addB]; exact hblk (by omega))).trans (hl.d k h)
    obtain ⟨o, ho⟩ : ∃ o, st N R name p k = o := ⟨_, rfl⟩
    rw [ho] at hb ⊢
    have hc0 : wr.cell? ⟨w.heap.size + 1, 0, none⟩ = some (.string (bN N o)) := by simp [World.cell?, hb]
    have hc1 : wr.cell? ⟨w.heap.size + 1, 1, none⟩ = some (.int .i64 (bR R o)) := by simp [World.cell?, hb]
    have hc2 : wr.cell? ⟨w.heap.size + 1, 2, none⟩ = some (.string (bN D o)) := by simp [World.cell?, hb]
    have hB1 : w.heap.size + 1 < wr.heap.size := lt_of_block hb
    have halloc : ∀ ob, (wr.alloc ob).heap[w.heap.size + 1]? = wr.heap[w.heap.size + 1]? := fun ob => Below.heap_alloc _ _ _ hB1
    have hca0 : ∀ ob, (wr.alloc ob).cell? ⟨w.heap.size + 1, 0, none⟩ = some (.string (bN N o)) := fun ob => by simp only [World.cell?, halloc, hb]; rfl
    have hca1 : ∀ ob, (wr.alloc ob).cell? ⟨w.heap.size + 1, 1, none⟩ = some (.int .i64 (bR R o)) := fun ob => by simp only [World.cell?, halloc, hb]; rfl
    have hca2 : ∀ ob, (wr.alloc ob).cell? ⟨w.heap.size + 1, 2, none⟩ = some (.string (bN D o)) := fun ob => by simp only [World.cell?, halloc, hb]; rfl
    have hfa0 : ∀ ob, (wr.alloc ob).frozen? ⟨w.heap.size + 1, 0, none⟩ = false := fun ob => by simp only [World.frozen?, halloc, hb]; rfl
    have hfa1 : ∀ ob, (wr.alloc ob).frozen? ⟨w.heap.size + 1, 1, none⟩ = false := fun ob => by simp only [World.frozen?, halloc, hb]; rfl
    have hfa2 : ∀ ob, (wr.alloc ob).frozen? ⟨w.heap.size + 1, 2, none⟩ = false := fun ob => by simp only [World.frozen?, halloc, hb]; rfl
    clear halloc
    have hz0 : wr.cell? ⟨w.heap.size, 0, none⟩ = some (.string ⟨#[]⟩) := by simp [World.cell?, hz]
    have hz1 : wr.cell? ⟨w.heap.size, 1, none⟩ = some (.int .i64 0) := by simp [World.cell?, hz]
    have hz2 : wr.cell? ⟨w.heap.size, 2, none⟩ = some (.string ⟨#[]⟩) := by simp [World.cell?, hz]
    have hzf0 : wr.frozen? ⟨w.heap.size, 0, none⟩ = false := by simp [World.frozen?, hz]
    have hzf1 : wr.frozen? ⟨w.heap.size, 1, none⟩ = false := by simp [World.frozen?, hz]
    have hzf2 : wr.frozen? ⟨w.heap.size, 2, none⟩ = false := by simp [World.frozen?, hz]
    by_cases hkl : k < len
    · have hn := hn hkl
      have hr := hr hkl
      have hd := hd hkl
      have hbel2 : ∀ ob, Below w.heap.size w (wr.alloc ob) := fun ob => hbel.alloc (by omega) ob
      cases hpk : p (R k) <;> rcases o with _ | j
      all_goals go_wp2_with (go_at_fn g; refine (hp _ _ (hbel2 _)).mono ?_; rintro e w2 ⟨rfl, q, rfl⟩; try simp only [hpk])
      all_goals
        have hkeep : ∀ ob, (wr.alloc ob).heap[w.heap.size]? = some (.cells #[.string ⟨#[]⟩, .int .i64 0, .string ⟨#[]⟩] 24 (0, 0)) := fun ob => (Below.heap_alloc _ _ _ (by omega)).trans hz
        have hkeep1 : ∀ ob, (wr.alloc ob).heap[w.heap.size + 1]? = _ := fun ob => (Below.heap_alloc _ _ _ hB1).trans hb
        first
        | (have hst : st N R name p (k + 1) = some k := if_pos (by rw [ho, hpk]; simp only [better, Bool.and_true, Bool.and_eq_true, beq_iff_eq, decide_eq_true_eq]; first | assumption | exact ⟨by assumption, (by assumption : bR R (some j) < R k)⟩)
           refine ⟨⟨k + 1, by omega, by simp, by rw [hst]; rfl, ?_, ?_, ?_⟩, by simp [intOf]; omega⟩
           · rw [Below.heap_setCell _ _ _ _ (by simp), Below.heap_setCell _ _ _ _ (by simp), Below.heap_setCell _ _ _ _ (by simp)]
             exact hkeep _
           · rw [hst]
             exact three_setCell (hkeep1 _)
           · exact (((below_drewN (hbel2 _) _).setCell (by simp) _).setCell (by simp) _).setCell (by simp) _)
        | (have hst : st N R name p (k + 1) = st N R name p k := if_neg (by rw [ho, hpk]; simp only [better, Bool.and_true, Bool.and_false, Bool.false_and, Bool.and_eq_true, beq_iff_eq, decide_eq_true_eq]; first | (intro h; cases h; done) | (intro h; exact absurd h (by assumption)) | (intro h; exact absurd h.1 (by assumption)) | (intro h; have h1 := h.2; have h2 : R k ≤ bR R (some j) := (by assumption); simp only [bR] at h2; omega))
           refine ⟨⟨k + 1, by omega, by simp, by rw [hst, ho]; rfl, hkeep _, by rw [hst, ho]; exact hkeep1 _, ?_⟩, by simp [intOf]; omega⟩
           first | exact hbel2 _ | exact below_drewN (hbel2 _) _)
    · have hkl' : k = len := by omega
      subst hkl'
      go_wp2
      refine bodyPost_ret (v := .tuple #[.agg #[.string (bN N o), .int .i64 (bR R o), .string (bN D o)], .bool o.isSome]) ?_ rfl ⟨by rw [ho], ?_⟩
      · rw [results_cell_tmp rfl]
        go_simp
      · exact ((hbel.setCell (by simp) _).setCell (by simp) _).setCell (by simp) _

theorem Lib.mono {w w' : World} {a : Addr} {len : Nat} {N D : Nat → ByteArray} {R : Nat → Int} {B : Nat} (h : Lib w a len N D R) (hb : Below B w w') (ha : 0 < len → a.block < B) : Lib w' a len N D R :=
  ⟨fun j hj => (hb.cell (by show (a.add _).block < _; rw [addB]; exact ha (by omega))).trans (h.n j hj), fun j hj => (hb.cell (by show (a.add _).block < _; rw [addB]; exact ha (by omega))).trans (h.r j hj),
   fun j hj => (hb.cell (by show (a.add _).block < _; rw [addB]; exact ha (by omega))).trans (h.d j hj)⟩

theorem enters29 : ∀ (args : Array Value) (w : World), (callFunc 29 args).run Tryz.prog w = .ok (.enter 29 args) w := enters_of Tryz.func29 (by decide +kernel) rfl
theorem enters30 : ∀ (args : Array Value) (w : World), (callFunc 30 args).run Tryz.prog w = .ok (.enter 30 args) w := enters_of Tryz.func30 (by decide +kernel) rfl

def linkV (id : Int) (nm : ByteArray) (rule rev iw ih : Int) (px : Value) : Array Value := #[.int .i64 id, .string nm, .int .i64 rule, .int .i64 rev, .int .i64 iw, .int .i64 ih, px]
/-- What Wants finds. -/
def wantOf (R : Nat → Int) (rev : Int) : Option Nat → Option Int
  | none => none
  | some j => if R j ≤ rev then none else some (R j)
def pred (rule rev : Int) : Int → Bool := if rule = 1 then fun _ => true else fun r => fl r == fl rev
def wants (N : Nat → ByteArray) (R : Nat → Int) (len : Nat) (nm : ByteArray) (rule rev : Int) : Option Int :=
  if rule = 1 ∨ rule = 2 then wantOf R rev (st N R nm (pred rule rev) len) else none

set_option maxHeartbeats 1600000 in
theorem wants_any (a : Addr) (len cap : Nat) (N D : Nat → ByteArray) (R : Nat → Int) (id : Int) (nm : ByteArray) (rule rev iw ih : Int) (pb : Option Addr) (pl pc : Nat) (w : World) (hl : Lib w a len N D R) (hblk : 0 < len → a.block < w.heap.size)
    (hlen : len ≤ 9223372036854775807) :
    Calls Tryz.prog 15 #[.agg (linkV id nm rule rev iw ih (.slice pb pl pc)), .slice (some a) len cap] w fun e w' =>
      e = .returned (.tuple #[.int .i64 ((wants N R len nm rule rev).getD 0), .bool (wants N R len nm rule rev).isSome]) ∧ Below w.heap.size w w' := by
  unfold linkV
  obtain ⟨W1, hW1⟩ : ∃ W1, W1 = w.alloc (.cells #[.int .i64 id, .string nm, .int .i64 rule, .int .i64 rev, .int .i64 iw, .int .i64 ih, .slice pb pl pc] 36) := ⟨_, rfl⟩
  have hs1 : W1.heap.size = w.heap.size + 1 := by rw [hW1]; show (w.heap.push _).size = _; simp
  have hb1 : Below w.heap.size w W1 := by rw [hW1]; exact (Below.refl _ _).alloc (Nat.le_refl _) _
  have hl1 : Lib W1 a len N D R := hl.mono hb1 hblk
  have hblk1 : 0 < len → a.block < W1.heap.size := fun h => by have := hblk h; omega
  have hheap : W1.heap[w.heap.size]? = some (.cells #[.int .i64 id, .string nm, .int .i64 rule, .int .i64 rev, .int .i64 iw, .int .i64 ih, .slice pb pl pc] 36 (0, 0)) := by rw [hW1]; exact heap_alloc_new w _
  have hrev : W1.cell? ⟨w.heap.size, 3, none⟩ = some (.int .i64 rev) := by simp [World.cell?, hheap]
  have hcl : ∀ w2, Below W1.heap.size W1 w2 → w2.cell? ⟨w.heap.size, 3, none⟩ = some (.int .i64 rev) := fun w2 h => (h.cell (by show w.heap.size < _; omega)).trans hrev
  have hfin : ∀ w2, Below W1.heap.size W1 w2 → Below w.heap.size w w2 := fun w2 h => hb1.trans (h.mono (by omega))
  by_cases h1 : rule = 1
  · subst h1
    have key := greatest_any a len cap N D R nm 29 #[] (pred 1 rev) W1 hl1 hblk1 hlen enters29 (fun r w1 _ => (true_any r w1).mono fun e w2 ⟨h1, h2⟩ => ⟨h1, 0, h2⟩)
    have hw : wants N R len nm 1 rev = wantOf R rev (st N R nm (pred 1 rev) len) := if_pos (.inl rfl)
    rw [hw]
    obtain ⟨o, ho⟩ : ∃ o, st N R nm (pred 1 rev) len = o := ⟨_, rfl⟩
    rw [ho] at key ⊢
    rw [hW1] at key hcl hfin
    clear hl hl1 hrev hheap hw hb1
    go_enter Tryz.func15, Tryz.ntmps15
    rcases o with _ | j
    · go_wp2_with (go_at_call 27; refine key.mono ?_; rintro e w2 ⟨rfl, hb2⟩; have hc3 := hcl w2 hb2; have hc4 := fun ob => hcl _ (hb2.alloc hb2.size ob))
      go_ret2
      exact ⟨by simp [wantOf], (hfin _ hb2).alloc (hfin _ hb2).size _⟩
    · by_cases hj : R j ≤ rev
      · have hwo : wantOf R rev (some j) = none := if_pos hj
        rw [hwo]
        have hj' : bR R (some j) ≤ rev := hj
        go_wp2_with (go_at_call 27; refine key.mono ?_; rintro e w2 ⟨rfl, hb2⟩; have hc3 := hcl w2 hb2; have hc4 := fun ob => hcl _ (hb2.alloc hb2.size ob))
        go_ret2
        exact ⟨by simp, (hfin _ hb2).alloc (hfin _ hb2).size _⟩
      · have hwo : wantOf R rev (some j) = some (R j) := if_neg hj
        rw [hwo]
        have hj' : ¬ bR R (some j) ≤ rev := hj
        go_wp2_with (go_at_call 27; refine key.mono ?_; rintro e w2 ⟨rfl, hb2⟩; have hc3 := hcl w2 hb2; have hc4 := fun ob => hcl _ (hb2.alloc hb2.size ob))
        go_ret2
        exact ⟨by simp [bR], (hfin _ hb2).alloc (hfin _ hb2).size _⟩
  · by_cases h2 : rule = 2
    · subst h2
      have key := greatest_any a len cap N D R nm 30 #[.pointer (some ⟨w.heap.size, 0, none⟩)] (pred 2 rev) W1 hl1 hblk1 hlen enters30 (fun r w1 h => major_any r rev w.heap.size w1 (hcl w1 h))
      have hw : wants N R len nm 2 rev = wantOf R rev (st N R nm (pred 2 rev) len) := if_pos (.inr rfl)
      rw [hw]
      obtain ⟨o, ho⟩ : ∃ o, st N R nm (pred 2 rev) len = o := ⟨_, rfl⟩
      rw [ho] at key ⊢
      rw [hW1] at key hcl hfin
      clear hl hl1 hrev hheap hw hb1
      go_enter Tryz.func15, Tryz.ntmps15
      rcases o with _ | j
      · go_wp2_with (go_at_call 27; refine key.mono ?_; rintro e w2 ⟨rfl, hb2⟩; have hc3 := hcl w2 hb2; have hc4 := fun ob => hcl _ (hb2.alloc hb2.size ob))
        go_ret2
        exact ⟨by simp [wantOf], (hfin _ hb2).alloc (hfin _ hb2).size _⟩
      · by_cases hj : R j ≤ rev
        · have hwo : wantOf R rev (some j) = none := if_pos hj
          rw [hwo]
          have hj' : bR R (some j) ≤ rev := hj
          go_wp2_with (go_at_call 27; refine key.mono ?_; rintro e w2 ⟨rfl, hb2⟩; have hc3 := hcl w2 hb2; have hc4 := fun ob => hcl _ (hb2.alloc hb2.size ob))
          go_ret2
          exact ⟨by simp, (hfin _ hb2).alloc (hfin _ hb2).size _⟩
        · have hwo : wantOf R rev (some j) = some (R j) := if_neg hj
          rw [hwo]
          have hj' : ¬ bR R (some j) ≤ rev := hj
          go_wp2_with (go_at_call 27; refine key.mono ?_; rintro e w2 ⟨rfl, hb2⟩; have hc3 := hcl w2 hb2; have hc4 := fun ob => hcl _ (hb2.alloc hb2.size ob))
          go_ret2
          exact ⟨by simp [bR], (hfin _ hb2).alloc (hfin _ hb2).size _⟩
    · have hw : wants N R len nm rule rev = none := if_neg (by rintro (h | h) <;> contradiction)
      rw [hw]
      clear hcl hl hl1 hrev hheap hw hb1 hfin hW1 hs1 hblk1
      go_enter Tryz.func15, Tryz.ntmps15
      go_wp2
      go_ret2
      exact ⟨by simp, (Below.refl _ _).alloc (Nat.le_refl _) _⟩
end Go.Proofs.YtamgdhphmkehcaaGreatDoor
