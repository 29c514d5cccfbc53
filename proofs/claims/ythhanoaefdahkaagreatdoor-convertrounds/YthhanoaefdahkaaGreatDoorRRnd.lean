/- law51: Round of the specification: an image that is not valid, or a depth that files do not have; helpers on a row that grows. -/
import Derived.Test.YthhanoaefdahkaaGreatDoorRnd3
import Derived.StillTailTactics
import Derived.Deep.QuietTactic
import Derived.KernelRfl
namespace Go.Proofs.YthhanoaefdahkaaGreatDoor
open Go.RowKit

section
variable {P : Program} {ops : Array Oper} {C : World → Prop} {n : Nat} {T : Act → Prop}

/-- Whatever order is picked: f operations of the head are still to come; then the tail is forced, and T holds of the frame. -/
def HeadQ (P : Program) (ops : Array Oper) (C : World → Prop) (n : Nat) (T : Act → Prop) : Nat → Array Bool → Act → Prop
  | 0, done, a => Region.seqB .any ops (ops.size - n) n done = true ∧ T a
  | f + 1, done, a => Region.ready .any ops done ≠ [] ∧ ∀ i ∈ Region.ready .any ops done, i < n ∧ qOp P ops C i (HeadQ P ops C n T f (done.setIfInBounds i true)) a

/-- The operations beside number i that are free to come before it are apart from it. -/
def ApartFrom (ops : Array Oper) (i : Nat) (oi : Oper) (done : Array Bool) : Prop :=
  ∀ j oj, ops[j]? = some oj → j ≠ i → done.getD j true = false → (∀ e ∈ oj.after, Region.binds .any e = true → e.on ≠ i) → oi.apart ops oj = true

theorem apart_set {i j : Nat} {oi : Oper} {done : Array Bool} (h : ApartFrom ops i oi done) (hun : done.getD j true = false) : ApartFrom ops i oi (done.setIfInBounds j true) := by
  intro k ok hk hki hu hno
  by_cases e : j = k
  · exact h k ok hk hki (e ▸ hun) hno
  · exact h k ok hk hki (by rwa [getD_set_ne true e] at hu) hno

/-- A ready operation of the head may be taken first. -/
theorem head_first {i : Nat} {oi : Oper} {v : Value} (hi : ops[i]? = some oi) (hsel : Region.noSelect ops = true) (hs : Region.sinkB .any ops n = true) (hc : Region.chainB .any ops n = true) (hn : n < ops.size) (hin : i < n) :
    ∀ (f : Nat) (done : Array Bool) (a : Act), HeadInv .any ops n done → ApartFrom ops i oi done → i ∈ Region.ready .any ops done → YieldsIn P ops C oi v a →
      HeadQ P ops C n T f (done.setIfInBounds i true) (a.put oi.dst v) → HeadQ P ops C n T (f + 1) done a
  | f, done, a, inv, hap, hr, hy, H => by
    have hun := (mem_ready.1 hr).1
    refine ⟨List.ne_nil_of_mem hr, fun j hj => ?_⟩
    have hjn : j < n := Nat.lt_of_not_le fun h => tail_waits hs hc hn inv _ i rfl hin hun j h hj
    refine ⟨hjn, ?_⟩
    by_cases e : j = i
    · rw [e]; exact hy.qOp hi H
    · have hj' := ready_mono hj e
      cases f with
      | zero => exact absurd (seqB_ready H.1 j hj') (by omega)
      | succ f =>
        obtain ⟨hju, oj, hoj, hall⟩ := mem_ready.1 hj
        have hno : ∀ e ∈ oj.after, Region.binds .any e = true → e.on ≠ i := fun e he hb h => by
          have h1 := hall e he hb
          rw [h, getD_both hun] at h1
          exact Bool.noConfusion h1
        have h2 := qOp_put hoj (hap j oj hoj e hju hno) (Region.noSelect_spec hsel i oi · · hi) (Region.noSelect_spec hsel j oj · · hoj) hy (H.2 j hj').2
        refine qOp_mono (fun a' h3 => head_first hi hsel hs hc hn hin f _ a' (inv.set hj hjn) (apart_set hap hju) (ready_mono hr (Ne.symm e)) h3.1 ?_) h2
        rw [Array.setIfInBounds_comm _ _ e]
        exact h3.2

/-- The walk in the text's order serves the head. -/
theorem head_lex (hsel : Region.noSelect ops = true) (hs : Region.sinkB .any ops n = true) (hc : Region.chainB .any ops n = true) (hn : n < ops.size) :
    ∀ (l : List Oper) (k : Nat) (done : Array Bool) (a : Act), (∀ j, j < l.length → l[j]? = ops[k + j]?) → k + l.length = n → HeadInv .any ops n done →
    Region.lexHead .any ops (ops.size - n) l.length k done = true → wpQuiet P ops C T l a → HeadQ P ops C n T l.length done a
  | [], k, done, a, _, hk, _, hB, h => by
    obtain rfl : k = n := by simpa using hk
    exact ⟨by simpa [Region.lexHead] using hB, h⟩
  | o :: l, k, done, a, hl, hk, inv, hB, h => by
    have h0 : ops[k]? = some o := (hl 0 (Nat.succ_pos _)).symm
    have hkn : k < n := by rw [List.length_cons] at hk; omega
    simp only [List.length_cons, Region.lexHead, Bool.and_eq_true, List.contains_iff_mem] at hB
    obtain ⟨⟨hr, hf⟩, hB'⟩ := hB
    have hq : qOp P ops C k (wpQuiet P ops C T l) a := by unfold qOp; simp only [h0]; exact h
    obtain ⟨v, hy, hK⟩ := yieldsIn_of_qOp h0 hq
    refine head_first h0 hsel hs hc hn hkn l.length done a inv (Region.free_spec h0 hf) hr hy ?_
    exact head_lex hsel hs hc hn l (k + 1) _ _ (fun j hj => by have := hl (j + 1) (by rw [List.length_cons]; omega); simpa [Nat.add_assoc, Nat.add_comm 1 j] using this)
      (by rw [List.length_cons] at hk; omega) (inv.set hr hkn) hB' hK

theorem any_of_head {Q : Exit → Act → World → Prop} (hT : ∀ done a w, C w → Region.seqB .any ops (ops.size - n) n done = true → T a → wpAny P .any ops Q (ops.size - n) done a w) :
    ∀ (f : Nat) (done : Array Bool) (a : Act) (w : World), C w → HeadQ P ops C n T f done a → wpAny P .any ops Q (f + (ops.size - n)) done a w
  | 0, done, a, w, hw, h => by rw [Nat.zero_add]; exact hT done a w hw h.1 h.2
  | f + 1, done, a, w, hw, h => by
    rw [Nat.add_right_comm]
    exact ⟨fun h0 => absurd h0 h.1, fun i hi => wpOp_of_qOp hw (fun a' w' hw' h' => any_of_head hT f _ a' w' hw' h') (h.2 i hi).2⟩
end

theorem region_quiet_tail {P : Program} {id : Nat} {Q : Exit → Act → World → Prop} {a : Act} {w : World} {l : List Oper} (n : Nat) (hm : P.follows .mixedOrders = true) (hB : Region.lexTailB .any l.toArray n = true)
    (h : wpQuiet P l.toArray (fun w' => ∃ k, w' = w.drewN k) (fun a' => ∀ k, wpList P l.toArray Q (l.drop n) a' (w.drewN k)) (l.take n) a) : (Code.region id l.toArray true).wp P Q a w := by
  simp only [Region.lexTailB, Bool.and_eq_true, decide_eq_true_eq] at hB
  obtain ⟨⟨⟨⟨hsel, hn⟩, hs⟩, hc⟩, hlex⟩ := hB
  have hn' : n < l.length := by simpa using hn
  have htl : (l.take n).length = n := by rw [List.length_take]; omega
  have hdl : (l.drop n).length = l.toArray.size - n := by simp
  have inv0 : HeadInv .any l.toArray n (Array.replicate l.toArray.size false) :=
    ⟨by simp, fun j oj _ hl => (by rw [getD_replicate_false] at hl; cases hl), fun t _ ht => getD_in (by simpa using ht) (getD_replicate_false _ _)⟩
  have H := head_lex (P := P) (C := fun w' => ∃ k, w' = w.drewN k) hsel hs hc hn (l.take n) 0 _ a (fun j hj => by
    have hj' : j < n := by rwa [htl] at hj
    simp [hj']) (by rw [Nat.zero_add]; exact htl) inv0 (by rw [htl]; exact hlex) h
  rw [htl] at H
  have K := any_of_head (Q := Q) (fun done a' w' hw' hq hT => by
    obtain ⟨k, rfl⟩ := hw'
    have := wpAny_of_seq (P := P) (md := .any) (ops := l.toArray) (Q' := Q) (l.drop n) n done a' (w.drewN k) (fun j => by simp [List.getElem?_drop]) (by rw [hdl]; exact hq) (hT k)
    rwa [hdl] at this) n _ a { w with drawn := w.drawn + 1 } ⟨1, rfl⟩ H
  refine wp_region_any hm ?_
  rwa [show n + (l.toArray.size - n) = l.toArray.size by omega] at K

theorem own_blk {W : World} {base m : Nat} {e : TypeId} {size : Nat} {v : Value} {xs : List Value} (h : W.ownsRow base e size v m xs) {b : Nat} (hb : b < base) : ¬ some b = v.ownBlock := by
  rcases h.2 with ⟨rfl, _⟩ | ⟨g, cap, cur, rfl, hbg, _⟩
  · intro e; cases e
  · intro e
    have : b = g := Option.some.inj e
    omega
theorem own_keep {W W' : World} {base m : Nat} {e : TypeId} {size : Nat} {v : Value} {xs : List Value} (h : W.ownsRow base e size v m xs) (hb : ∀ k, base ≤ k → k < W.heap.size → W'.heap[k]? = W.heap[k]?) : W'.ownsRow base e size v m xs := by
  refine ⟨h.1, ?_⟩
  rcases h.2 with hn | ⟨g, cap, cur, rfl, hbg, hgg, rest⟩
  · exact .inl hn
  · exact .inr ⟨g, cap, cur, rfl, hbg, (hb g hbg (Array.getElem?_eq_some_iff.1 hgg).1).trans hgg, rest⟩
theorem own_below {W W' : World} {base m : Nat} {e : TypeId} {size : Nat} {v : Value} {xs : List Value} (h : W.ownsRow base e size v m xs) (hb : Below W.heap.size W W') : W'.ownsRow base e size v m xs := own_keep h fun k _ hk => hb.block k hk
theorem grown_far {W W' : World} {base m : Nat} {e : TypeId} {size : Nat} {v : Value} {xs : List Value} (h : W.ownsRow base e size v m xs) (hg : W.grownBy W' v.ownBlock) {b : Nat} {ob : Obj} (hb : b < base) (ho : W.heap[b]? = some ob) : W'.heap[b]? = some ob :=
  (hg.block b (Array.getElem?_eq_some_iff.1 ho).1 (own_blk h hb)).trans ho
theorem grown_below {W W' w : World} {B base m : Nat} {e : TypeId} {size : Nat} {v : Value} {xs : List Value} (h : W.ownsRow base e size v m xs) (hg : W.grownBy W' v.ownBlock) (hB : B ≤ base) (hW : B ≤ W.heap.size) (hb : Below B w W) : Below B w W' :=
  hb.grown hg hW fun _ hk => Nat.le_of_not_lt fun hlt => own_blk h (Nat.lt_of_lt_of_le hlt hB) hk.symm

set_option maxHeartbeats 3200000 in
theorem rround_bad (iw ih : Int) (ao : Option Addr) (n c : Nat) (dep : Int) (E : Int) (h0 : E ≠ 0) (w : World)
    (kc : ∀ W, Below w.heap.size w W → Calls Tryz.prog 22 #[.agg #[.int .i64 iw, .int .i64 ih, .slice ao n c]] W fun e w' => e = .returned (.int .i64 E) ∧ Below W.heap.size W w') :
    Calls Tryz.prog 10 #[.agg #[.int .i64 iw, .int .i64 ih, .slice ao n c], .int .i64 dep] w fun e w' => e = .returned (.tuple #[.agg #[.int .i64 0, .int .i64 0, .slice none 0 0], .int .i64 E]) ∧ Below w.heap.size w w' := by
  have hb1 : ∀ ob, Below w.heap.size w (w.alloc ob) := fun ob => (Below.refl _ _).alloc (Nat.le_refl _) _
  have hb2 : ∀ ob o2, Below w.heap.size w ((w.alloc ob).alloc o2) := fun ob o2 => (hb1 ob).alloc (hb1 ob).size _
  have hne : (E != 0) = true := by simp [h0]
  go_enter Tryz.func10, Tryz.ntmps10
  go_wp2_with (go_at_call 22; refine (kc _ (hb2 _ _)).mono ?_; rintro e w3 ⟨rfl, hb3⟩
               have g3 := (hb2 _ _).trans (hb3.mono (hb2 _ _).size)
               have z4 := keep_b hb3 (two_new w _ _)
               obtain ⟨c0, c1, c2⟩ := three_cells z4
               obtain ⟨f0, f1, f2⟩ := three_frozen z4
               clear z4 hb3)
  refine bodyPost_ret (v := .tuple #[.agg #[.int .i64 0, .int .i64 0, .slice none 0 0], .int .i64 E]) ?_ rfl ⟨rfl, ?_⟩
  · rw [results_cell_tmp rfl]
    go_simp
  · exact ((g3.setCell (by simp) _).setCell (by simp) _).setCell (by simp) _

set_option maxHeartbeats 3200000 in
theorem rround_range (iw ih : Int) (ao : Option Addr) (n c : Nat) (dep : Int) (h8 : dep ≠ 8) (h16 : dep ≠ 16) (w : World)
    (kc : ∀ W, Below w.heap.size w W → Calls Tryz.prog 22 #[.agg #[.int .i64 iw, .int .i64 ih, .slice ao n c]] W fun e w' => e = .returned (.int .i64 0) ∧ Below W.heap.size W w') :
    Calls Tryz.prog 10 #[.agg #[.int .i64 iw, .int .i64 ih, .slice ao n c], .int .i64 dep] w fun e w' => e = .returned (.tuple #[.agg #[.int .i64 0, .int .i64 0, .slice none 0 0], .int .i64 2]) ∧ Below w.heap.size w w' := by
  have hb1 : ∀ ob, Below w.heap.size w (w.alloc ob) := fun ob => (Below.refl _ _).alloc (Nat.le_refl _) _
  have hb2 : ∀ ob o2, Below w.heap.size w ((w.alloc ob).alloc o2) := fun ob o2 => (hb1 ob).alloc (hb1 ob).size _
  have hn8 : (dep != 8) = true := by simp [h8]
  have hn16 : (dep != 16) = true := by simp [h16]
  go_enter Tryz.func10, Tryz.ntmps10
  go_wp2_with (go_at_call 22; refine (kc _ (hb2 _ _)).mono ?_; rintro e w3 ⟨rfl, hb3⟩
               have g3 := (hb2 _ _).trans (hb3.mono (hb2 _ _).size)
               have z4 := keep_b hb3 (two_new w _ _)
               obtain ⟨c0, c1, c2⟩ := three_cells z4
               obtain ⟨f0, f1, f2⟩ := three_frozen z4
               clear z4 hb3)
  refine bodyPost_ret (v := .tuple #[.agg #[.int .i64 0, .int .i64 0, .slice none 0 0], .int .i64 2]) ?_ rfl ⟨rfl, ?_⟩
  · rw [results_cell_tmp rfl]
    go_simp
  · exact ((g3.setCell (by simp) _).setCell (by simp) _).setCell (by simp) _
end Go.Proofs.YthhanoaefdahkaaGreatDoor
