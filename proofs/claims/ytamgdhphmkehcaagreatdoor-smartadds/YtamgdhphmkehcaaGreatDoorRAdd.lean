/- The walk of the specification's Add: for every library of whatever length that lies in memory; it hands back what Add hands back. -/
import Derived.Test.YtamgdhphmkehcaaGreatDoorRCheck
import Derived.Test.YtamgdhphmkehcaaGreatDoorAddNil
import Derived.Deep.AppendLies
namespace Go.Proofs.YtamgdhphmkehcaaGreatDoor
open Go.RowKit

theorem own_below {w w' : World} {base m : Nat} {e : TypeId} {size : Nat} {v : Value} {xs : List Value} (h : w.ownsRow base e size v m xs) (hb : Below w.heap.size w w') : w'.ownsRow base e size v m xs := by
  refine ⟨h.1, ?_⟩
  rcases h.2 with hn | ⟨g, cap, cur, rfl, hbg, hgg, rest⟩
  · exact .inl hn
  · exact .inr ⟨g, cap, cur, rfl, hbg, (hb.block g (Array.getElem?_eq_some_iff.1 hgg).1).trans hgg, rest⟩

section
variable {N D : Nat → ByteArray} {R : Nat → Int} {len : Nat} {n : ByteArray} {r : Int}
theorem at_exists : ∃ at_, At N R len n r at_ := by
  have key : ∀ k : Nat, k ≤ len → (∃ at_, At N R len n r at_) ∨ ∀ i, i < k → lessP (N i) n (R i) r = true := by
    intro k
    induction k with
    | zero =>
      intro _
      exact .inr fun i hi => by omega
    | succ k ih =>
      intro hk
      rcases ih (by omega) with h | h
      · exact .inl h
      · cases hl : lessP (N k) n (R k) r with
        | false => exact .inl ⟨k, by omega, h, fun _ => hl⟩
        | true =>
          refine .inr fun i hi => ?_
          by_cases e : i = k
          · subst e; exact hl
          · exact h i (by omega)
  rcases key len (Nat.le_refl _) with h | h
  · exact h
  · exact ⟨len, Nat.le_refl _, h, fun h => by omega⟩
theorem at_less {at_ : Nat} (ha : At N R len n r at_) (hc : chk N D R len = 0) {i : Nat} (hi : i < len) : lessP (N i) n (R i) r = decide (i < at_) := by
  by_cases h : i < at_
  · simp [h, ha.pre i h]
  · simp only [h, decide_false]
    by_cases e : i = at_
    · subst e; exact ha.stop hi
    · cases h2 : lessP (N i) n (R i) r with
      | false => rfl
      | true =>
        have h3 := sorted_lt (chk_zero.1 hc).2 (show at_ < i by omega) hi
        have h4 := lp_trans h3 h2
        rw [ha.stop (by omega)] at h4; cases h4
theorem at_more {at_ : Nat} (ha : At N R len n r at_) (hc : chk N D R len = 0) (hno : ∀ i, i < len → ¬ ((N i).toList = n.toList ∧ R i = r)) {i : Nat} (hi : i < len) : lessP n (N i) r (R i) = decide (at_ ≤ i) := by
  have h1 := at_less ha hc hi
  by_cases h : at_ ≤ i
  · have h2 : lessP (N i) n (R i) r = false := by rw [h1]; simp; omega
    cases h3 : lessP n (N i) r (R i) with
    | true => simp [h]
    | false => exact absurd (lp_tri h2 h3) (hno i hi)
  · have h2 : lessP (N i) n (R i) r = true := by rw [h1]; simp; omega
    rw [lp_asymm h2]; simp [h]
/-- The specification's look for a greater revision. -/
def grt (N : Nat → ByteArray) (R : Nat → Int) (n : ByteArray) (r : Int) : Nat → Bool
  | 0 => false
  | k + 1 => grt N R n r k || ((N k).toList == n.toList && decide (r < R k))
theorem grt_stay : ∀ {k m : Nat}, k ≤ m → grt N R n r k = true → grt N R n r m = true
  | k, 0, h, hb => by obtain rfl : k = 0 := by omega
                      exact hb
  | k, m + 1, h, hb => by
    by_cases e : k = m + 1
    · subst e; exact hb
    · simp [grt, grt_stay (show k ≤ m by omega) hb]
theorem grt_no : ∀ {k : Nat}, grt N R n r k = false → ∀ i, i < k → (N i).toList = n.toList → R i ≤ r
  | 0, _, i, hi, _ => by omega
  | k + 1, h, i, hi, hn => by
    simp only [grt, Bool.or_eq_false_iff] at h
    by_cases e : i = k
    · subst e
      have := h.2
      simp [hn] at this
      exact this
    · exact grt_no h.1 i (by omega) hn
theorem grt_yes : ∀ {k i : Nat}, i < k → (N i).toList = n.toList → r < R i → grt N R n r k = true
  | 0, i, hi, _, _ => by omega
  | k + 1, i, hi, hn, hr => by
    by_cases e : i = k
    · subst e; simp [grt, hn, hr]
    · simp [grt, grt_yes (show i < k by omega) hn hr]
theorem grt_stale : grt N R n r len = stale R r (st N R n yes len) := by
  cases hs : st N R n yes len with
  | none =>
    cases hg : grt N R n r len with
    | false => rfl
    | true =>
      have : ∀ {k}, k ≤ len → grt N R n r k = false := fun {k} => by
        induction k with
        | zero => intro _; rfl
        | succ k ih =>
          intro hk
          have := st_none hs k (by omega)
          simp [grt, ih (by omega), this]
      rw [this (Nat.le_refl _)] at hg; cases hg
  | some j =>
    obtain ⟨h1, h2, h3⟩ := st_max hs
    simp only [stale]
    by_cases h : r < R j
    · simp [h, grt_yes h1 h2 h]
    · cases hg : grt N R n r len with
      | false => simp [h]
      | true =>
        have : ∀ {k}, k ≤ len → grt N R n r k = false := fun {k} => by
          induction k with
          | zero => intro _; rfl
          | succ k ih =>
            intro hk
            simp only [grt, ih (by omega), Bool.false_or, Bool.and_eq_false_iff, beq_eq_false_iff_ne, decide_eq_false_iff_not]
            by_cases hn : (N k).toList = n.toList
            · right; have := h3 k (by omega) hn; omega
            · left; exact hn
        rw [this (Nat.le_refl _)] at hg; cases hg
end

theorem at_unique {N : Nat → ByteArray} {R : Nat → Int} {len : Nat} {n : ByteArray} {r : Int} {x y : Nat} (hx : At N R len n r x) (hy : At N R len n r y) : x = y := by
  have h1 := hx.le; have h2 := hy.le
  rcases Nat.lt_trichotomy x y with h | h | h
  · have := hy.pre x h; rw [hx.stop (by omega)] at this; cases this
  · exact h
  · have := hx.pre y h; rw [hy.stop (by omega)] at this; cases this

set_option maxRecDepth 100000 in
set_option maxHeartbeats 12800000 in
theorem radd_some (a : Addr) (len cap : Nat) (N D : Nat → ByteArray) (R : Nat → Int) (n d : ByteArray) (r : Int) (w : World) (hl : Lib w a len N D R) (hblk : 0 < len → a.block < w.heap.size)
    (hlen : len ≤ 9223372036854775807) (hN : ∀ j, j < len → (N j).size ≤ 9223372036854775807) (hns : n.size ≤ 9223372036854775807) :
    Calls Tryz.prog 8 #[.slice (some a) len cap, .agg #[.string n, .int .i64 r, .string d]] w fun e w' => ∃ v, e = .returned (.tuple #[v, .int .i64 (addE N D R len n d r)]) ∧ Below w.heap.size w w' ∧
      (addE N D R len n d r ≠ 0 → v = .slice none 0 0) ∧
      (addE N D R len n d r = 0 → ∃ at_, At N R len n r at_ ∧ w'.ownsRow w.heap.size 24 3 v (len + 1) (cellsOf (insF at_ n N) (insF at_ d D) (insF at_ r R) 0 (len + 1))) := by
  obtain ⟨i0, hi, hz0, hz1, hz2⟩ := info_parts info24
  have hlib : ∀ W, Below w.heap.size w W → Lib W a len N D R ∧ (0 < len → a.block < W.heap.size) := fun W h => ⟨hl.mono h hblk, fun h0 => Nat.lt_of_lt_of_le (hblk h0) h.size⟩
  have hb1 : ∀ ob, Below w.heap.size w (w.alloc ob) := fun ob => (Below.refl _ _).alloc (Nat.le_refl _) _
  have fb : ∀ W, Below (w.alloc (.cells #[.string n, .int .i64 r, .string d] 24)).heap.size (w.alloc (.cells #[.string n, .int .i64 r, .string d] 24)) W → W.heap[w.heap.size]? = some (.cells #[.string n, .int .i64 r, .string d] 24 (0, 0)) := fun W h => (h.block _ (by show w.heap.size < (w.heap.push _).size; simp)).trans (heap_alloc_new w _)
  have up : ∀ W, Below (w.alloc (.cells #[.string n, .int .i64 r, .string d] 24)).heap.size (w.alloc (.cells #[.string n, .int .i64 r, .string d] 24)) W → Below w.heap.size w W := fun W h => (hb1 _).trans (h.mono (hb1 _).size)
  have cells : ∀ W : World, W.heap[w.heap.size]? = some (.cells #[.string n, .int .i64 r, .string d] 24 (0, 0)) → W.cell? ⟨w.heap.size, 0, none⟩ = some (.string n) ∧ W.cell? ⟨w.heap.size, 1, none⟩ = some (.int .i64 r) ∧ W.cell? ⟨w.heap.size, 2, none⟩ = some (.string d) :=
    fun W h => by simp [World.cell?, h]
  have far : ∀ (W W' : World) (v : Value) (m : Nat) (xs : List Value), W.ownsRow (w.heap.size + 1) 24 3 v m xs → W.grownBy W' v.ownBlock → W.heap[w.heap.size]? = some (.cells #[.string n, .int .i64 r, .string d] 24 (0, 0)) → W'.heap[w.heap.size]? = some (.cells #[.string n, .int .i64 r, .string d] 24 (0, 0)) := fun W W' v m xs ho hg hf =>
    (hg.block _ (Array.getElem?_eq_some_iff.1 hf).1 (fun e => by have := (ho.lt _ e.symm).1; omega)).trans hf
  have grow : ∀ (W W' : World) (v : Value) (m : Nat) (xs : List Value), W.ownsRow (w.heap.size + 1) 24 3 v m xs → W.grownBy W' v.ownBlock → Below w.heap.size w W → Below w.heap.size w W' := fun W W' v m xs ho hg hb =>
    hb.grown hg hb.size (fun k e => by have := (ho.lt _ e).1; omega)
  obtain ⟨c0, hc0⟩ : ∃ c, chkL N D R len = c := ⟨_, rfl⟩
  obtain ⟨s0, hs0⟩ : ∃ s, sgl n d r = s := ⟨_, rfl⟩
  have kc : ∀ W, Below w.heap.size w W → Calls Tryz.prog 10 #[.slice (some a) len cap] W fun e w' => e = .returned (.int .i64 c0) ∧ Below W.heap.size W w' := fun W h => by
    have := rcheck_some a len cap N D R W (hlib W h).1 (hlib W h).2 hlen hN
    rwa [hc0] at this
  have ks : ∀ W, Calls Tryz.prog 22 #[.agg #[.string n, .int .i64 r, .string d]] W fun e w' => e = .returned (.int .i64 s0) ∧ Below W.heap.size W w' := fun W => by
    have := rsingle_any n d r W hns
    rwa [hs0] at this
  by_cases h1 : c0 = 0
  · subst h1
    have hle : len ≤ 256 := by
      unfold chkL at hc0
      by_cases h : 256 < len
      · rw [if_pos h] at hc0; cases hc0
      · omega
    have hck : chk N D R len = 0 := by
      unfold chkL at hc0
      rwa [if_neg (by omega)] at hc0
    by_cases h2 : s0 = 0
    · subst h2
      go_enter Tryz.func8, Tryz.ntmps8
      go_wp2_with (first
        | (go_at_call 10; refine (kc _ (hb1 _)).mono ?_; rintro e w2 ⟨rfl, hb2⟩; have F2 := fb _ hb2; have G2 := up _ hb2; obtain ⟨x20, x21, x22⟩ := cells _ F2)
        | (go_at_call 22; refine (ks _).mono ?_; rintro e w3 ⟨rfl, hb3⟩; have F3 := keep_b hb3 F2; have G3 := G2.trans (hb3.mono G2.size); obtain ⟨x30, x31, x32⟩ := cells _ F3))
      clear x20 x21 x22 F2 G2
      have hl3 := (hlib _ G3).1
      go_loopw [24] (fun i wr => ∃ k : Nat, k ≤ len ∧ i = .int .i64 k ∧ dup N R n r k = false ∧ ∃ q, wr = w3.drewN q) (fun i _ => len - (intOf i).toNat)
      case atStart => exact ⟨0, Nat.zero_le _, rfl, rfl, 0, rfl⟩
      case round =>
        obtain ⟨k, hk, rfl, hno, q, rfl⟩ := hrel
        by_cases hkl : k < len
        · have hn := hl3.n k hkl
          have hr := hl3.r k hkl
          have hkl' : (k : Int) < (len : Int) := by omega
          by_cases hNn : (N k).toList = n.toList
          · by_cases hRr : R k = r
            · have hd1 : dup N R n r (k + 1) = true := by simp [dup, hNn, hRr]
              have hE : addE N D R len n d r = 10 := by unfold addE; rw [if_neg (by rw [hc0]; simp), if_neg (by rw [hs0]; simp), if_pos (dup_stay (show k + 1 ≤ len by omega) hd1)]
              go_wp2
              go_quiet (fail)
              go_wp2
              go_ret2
              exact ⟨_, by rw [hE]; rfl, below_drewN (below_drewN G3 _) _, fun _ => rfl, fun h => by rw [hE] at h; cases h⟩
            · have hRr' : (R k == r) = false := by simpa using hRr
              have hd1 : dup N R n r (k + 1) = false := by simp [dup, hno, hRr]
              go_wp2
              go_quiet (fail)
              go_wp2
              exact ⟨⟨k + 1, by omega, by go_num, hd1, q + nq, rfl⟩, by simp [intOf]; omega⟩
          · have hN' : ((N k).toList == n.toList) = false := by simpa using hNn
            have hd1 : dup N R n r (k + 1) = false := by simp [dup, hno, hNn]
            go_wp2
            go_quiet (fail)
            go_wp2
            exact ⟨⟨k + 1, by omega, by go_num, hd1, q + nq, rfl⟩, by simp [intOf]; omega⟩
        · obtain rfl : k = len := by omega
          go_wp2
          go_loopw [48] (fun i wr => ∃ j : Nat, j ≤ k ∧ i = .int .i64 j ∧ grt N R n r j = false ∧ ∃ q, wr = w3.drewN q) (fun i _ => k - (intOf i).toNat)
          case atStart => exact ⟨0, Nat.zero_le _, rfl, rfl, q, rfl⟩
          case round =>
            obtain ⟨j, hj, rfl, hng, q2, rfl⟩ := hrel
            by_cases hjl : j < k
            · have hn := hl3.n j hjl
              have hr := hl3.r j hjl
              have hjl' : (j : Int) < (k : Int) := by omega
              by_cases hNn : (N j).toList = n.toList
              · by_cases hRr : r < R j
                · have hg1 : grt N R n r (j + 1) = true := by simp [grt, hNn, hRr]
                  have hE : addE N D R k n d r = 21 := by unfold addE; rw [if_neg (by rw [hc0]; simp), if_neg (by rw [hs0]; simp), if_neg (by rw [hno]; simp), if_pos (by rw [← grt_stale]; exact grt_stay (show j + 1 ≤ k by omega) hg1)]
                  go_wp2
                  go_quiet (fail)
                  go_wp2
                  go_ret2
                  exact ⟨_, by rw [hE]; rfl, below_drewN (below_drewN G3 _) _, fun _ => rfl, fun h => by rw [hE] at h; cases h⟩
                · have hRr' : R j ≤ r := by omega
                  have hg1 : grt N R n r (j + 1) = false := by simp [grt, hng, hRr]
                  go_wp2
                  go_quiet (fail)
                  go_wp2
                  exact ⟨⟨j + 1, by omega, by go_num, hg1, q2 + nq, rfl⟩, by simp [intOf]; omega⟩
              · have hN' : ((N j).toList == n.toList) = false := by simpa using hNn
                have hg1 : grt N R n r (j + 1) = false := by simp [grt, hng, hNn]
                go_wp2
                go_quiet (fail)
                go_wp2
                exact ⟨⟨j + 1, by omega, by go_num, hg1, q2 + nq, rfl⟩, by simp [intOf]; omega⟩
            · obtain rfl : j = k := by omega
              have hnst : stale R r (st N R n yes j) = false := by rw [← grt_stale]; exact hng
              by_cases h256 : j = 256
              · have hE : addE N D R j n d r = 3 := by unfold addE; rw [if_neg (by rw [hc0]; simp), if_neg (by rw [hs0]; simp), if_neg (by rw [hno]; simp), if_neg (by rw [hnst]; simp), if_pos (by omega)]
                subst h256
                go_wp2
                go_ret2
                exact ⟨_, by rw [hE]; rfl, below_drewN G3 _, fun _ => rfl, fun h => by rw [hE] at h; cases h⟩
              · have hE : addE N D R j n d r = 0 := by unfold addE; rw [if_neg (by rw [hc0]; simp), if_neg (by rw [hs0]; simp), if_neg (by rw [hno]; simp), if_neg (by rw [hnst]; simp), if_neg (by omega)]
                have h256' : ((j : Int) == 256) = false := by simp; omega
                have F4 : (w3.drewN q2).heap[w.heap.size]? = some (.cells #[.string n, .int .i64 r, .string d] 24 (0, 0)) := F3
                have G4 : Below w.heap.size w (w3.drewN q2) := below_drewN G3 q2
                generalize w3.drewN q2 = w4 at F4 G4 ⊢
                clear x30 x31 x32 hl3 F3 G3
                obtain ⟨at_, hat⟩ := at_exists (N := N) (R := R) (len := j) (n := n) (r := r)
                have hat' := hat.le
                go_wp2
                go_loopw [9, 75] (fun o i wr => ∃ k : Nat, k ≤ j ∧ i = .int .i64 k ∧ wr.ownsRow (w.heap.size + 1) 24 3 o (min k at_) (cellsOf N D R 0 (min k at_)) ∧ wr.heap[w.heap.size]? = some (.cells #[.string n, .int .i64 r, .string d] 24 (0, 0)) ∧ Below w.heap.size w wr)
                  (fun _ i _ => j - (intOf i).toNat)
                case atStart => exact ⟨0, Nat.zero_le _, rfl, by rw [Nat.zero_min]; exact World.ownsRow_nil _ _ _ _, F4, G4⟩
                case round =>
                  obtain ⟨k, hk, rfl, hown, hF, hbel⟩ := hrel
                  have hlr := (hlib _ hbel).1
                  obtain ⟨z0, z1, z2⟩ := cells _ hF
                  have hbs : w.heap.size < wr.heap.size := (Array.getElem?_eq_some_iff.1 hF).1
                  by_cases hkl : k < j
                  · have hn := hlr.n k hkl
                    have hr := hlr.r k hkl
                    have hd := hlr.d k hkl
                    have hk0 : (0 : Int) ≤ (k : Int) := Int.natCast_nonneg _
                    have hkl' : (k : Int) < (j : Int) := by omega
                    have hls : ∀ W, Calls Tryz.prog 23 #[.agg #[.string (N k), .int .i64 (R k), .string (D k)], .agg #[.string n, .int .i64 r, .string d]] W fun e w' => e = .returned (.bool (decide (k < at_))) ∧ Below W.heap.size W w' := fun W => by
                      have := before_any (N k) (D k) n d (R k) r W
                      rw [at_less hat hck hkl] at this; exact this
                    by_cases hka : k < at_
                    · simp only [hka, decide_true] at hls
                      have hmin : min k at_ = k := by omega
                      have hmin2 : min (k + 1) at_ = k + 1 := by omega
                      have hcell : cellsOf N D R 0 (k + 1) = cellsOf N D R 0 k ++ [.string (N k), .int .i64 (R k), .string (D k)] := by simp [cellsOf]
                      rw [hmin] at hown
                      go_wp2
                      go_region_held3 (fun w' => w'.cell? (a.add (k * 3)) = some (.string (N k)) ∧ w'.cell? ⟨(a.add (k * 3)).block, (a.add (k * 3)).off + 1, none⟩ = some (.int .i64 (R k)) ∧ w'.cell? ⟨(a.add (k * 3)).block, (a.add (k * 3)).off + 2, none⟩ = some (.string (D k)) ∧ w'.cell? ⟨w.heap.size, 0, none⟩ = some (.string n) ∧ w'.cell? ⟨w.heap.size, 1, none⟩ = some (.int .i64 r) ∧ w'.cell? ⟨w.heap.size, 2, none⟩ = some (.string d))
                        (first | go_keep | (go_split_ands; (refine ⟨cell_keep hb7 ?_, cell_keep hb7 ?_, cell_keep hb7 ?_, cell_keep hb7 ?_, cell_keep hb7 ?_, cell_keep hb7 ?_⟩) <;> assumption))
                        (first | (go_at_call 23; refine (hls _).mono ?_; rintro e w7 ⟨rfl, hb7⟩))
                      have F7 := keep_b hb7 (show wr.drew.heap[w.heap.size]? = _ from hF)
                      have G7 : Below w.heap.size w w7 := (below_drew hbel).trans (hb7.mono hbel.size)
                      have hown7 := own_below hown.drew hb7
                      have hl7 := (hlib _ G7).1
                      have yn := hl7.n k hkl
                      have yr := hl7.r k hkl
                      have yd := hl7.d k hkl
                      have hbs7 : w.heap.size < w7.heap.size := (Array.getElem?_eq_some_iff.1 F7).1
                      go_wp2_with (at_builtin; refine wpList_append_own _ rfl (.tmp 84) (.tmp 89) 22 rfl (w.heap.size + 1) 24 i0 _ 3 40 Tryz.underlying22 hi hz0 hz1 hz2 rfl (by decide) _ _ _ rfl (hown7.alloc _) ⟨w7.heap.size, 0, none⟩ 1 1 [.string (N k), .int .i64 (R k), .string (D k)] rfl rfl (World.news_of_block (cs := #[.string (N k), .int .i64 (R k), .string (D k)]) (t := 24) (fr := (0, 0)) (heap_alloc_new w7 _)) (by simp [Value.oneCell']) (by unfold maxLen; omega) (by omega) (by simp; omega) ?_; intro v8 w8 hown8 hgrow8 _)
                      exact ⟨⟨k + 1, by omega, by go_num, by rw [hmin2, hcell]; exact hown8, far _ _ _ _ _ (hown7.alloc _) hgrow8 (keep_a F7 _), grow _ _ _ _ _ (hown7.alloc _) hgrow8 (G7.alloc G7.size _)⟩, by simp [intOf]; omega⟩
                    · simp only [hka, decide_false] at hls
                      have hmin : min k at_ = at_ := by omega
                      have hmin2 : min (k + 1) at_ = at_ := by omega
                      rw [hmin] at hown
                      go_wp2
                      go_region_held3 (fun w' => w'.cell? (a.add (k * 3)) = some (.string (N k)) ∧ w'.cell? ⟨(a.add (k * 3)).block, (a.add (k * 3)).off + 1, none⟩ = some (.int .i64 (R k)) ∧ w'.cell? ⟨(a.add (k * 3)).block, (a.add (k * 3)).off + 2, none⟩ = some (.string (D k)) ∧ w'.cell? ⟨w.heap.size, 0, none⟩ = some (.string n) ∧ w'.cell? ⟨w.heap.size, 1, none⟩ = some (.int .i64 r) ∧ w'.cell? ⟨w.heap.size, 2, none⟩ = some (.string d))
                        (first | go_keep | (go_split_ands; (refine ⟨cell_keep hb7 ?_, cell_keep hb7 ?_, cell_keep hb7 ?_, cell_keep hb7 ?_, cell_keep hb7 ?_, cell_keep hb7 ?_⟩) <;> assumption))
                        (first | (go_at_call 23; refine (hls _).mono ?_; rintro e w7 ⟨rfl, hb7⟩))
                      have F7 := keep_b hb7 (show wr.drew.heap[w.heap.size]? = _ from hF)
                      have G7 : Below w.heap.size w w7 := (below_drew hbel).trans (hb7.mono hbel.size)
                      have hown7 := own_below hown.drew hb7
                      go_wp2
                      exact ⟨⟨k + 1, by omega, by go_num, by rw [hmin2]; exact hown7, F7, G7⟩, by simp [intOf]; omega⟩
                  · obtain rfl : k = j := by omega
                    have hmin : min k at_ = at_ := by omega
                    rw [hmin] at hown
                    go_wp2_with (at_builtin; refine wpList_append_own _ rfl (.tmp 92) (.tmp 94) 22 rfl (w.heap.size + 1) 24 i0 _ 3 40 Tryz.underlying22 hi hz0 hz1 hz2 rfl (by decide) _ _ _ rfl (hown.alloc _) ⟨wr.heap.size, 0, none⟩ 1 1 [.string n, .int .i64 r, .string d] rfl rfl (World.news_of_block (cs := #[.string n, .int .i64 r, .string d]) (t := 24) (fr := (0, 0)) (heap_alloc_new wr _)) (by simp [Value.oneCell']) (by unfold maxLen; omega) (by omega) (by simp; omega) ?_; intro v5 w5 hown5 hgrow5 _)
                    have F5 := far _ _ _ _ _ (hown.alloc _) hgrow5 (keep_a hF _)
                    have G5 := grow _ _ _ _ _ (hown.alloc _) hgrow5 (hbel.alloc hbel.size _)
                    clear z0 z1 z2 hgrow5
                    go_loopw [9, 98] (fun o i wr => ∃ m : Nat, m ≤ k ∧ i = .int .i64 m ∧ wr.ownsRow (w.heap.size + 1) 24 3 o (at_ + 1 + (m - at_)) (cellsOf N D R 0 at_ ++ [.string n, .int .i64 r, .string d] ++ cellsOf N D R at_ (m - at_)) ∧ wr.heap[w.heap.size]? = some (.cells #[.string n, .int .i64 r, .string d] 24 (0, 0)) ∧ Below w.heap.size w wr)
                      (fun _ i _ => k - (intOf i).toNat)
                    case atStart => exact ⟨0, Nat.zero_le _, rfl, by rw [Nat.zero_sub]; simpa [cellsOf] using hown5, F5, G5⟩
                    case round =>
                      obtain ⟨m, hm, rfl, hown6, hF6, hbel6⟩ := hrel
                      have hlr6 := (hlib _ hbel6).1
                      obtain ⟨z0, z1, z2⟩ := cells _ hF6
                      by_cases hml : m < k
                      · have hn := hlr6.n m hml
                        have hr := hlr6.r m hml
                        have hd := hlr6.d m hml
                        have hm0 : (0 : Int) ≤ (m : Int) := Int.natCast_nonneg _
                        have hml' : (m : Int) < (k : Int) := by omega
                        have hls : ∀ W, Calls Tryz.prog 23 #[.agg #[.string n, .int .i64 r, .string d], .agg #[.string (N m), .int .i64 (R m), .string (D m)]] W fun e w' => e = .returned (.bool (decide (at_ ≤ m))) ∧ Below W.heap.size W w' := fun W => by
                          have := before_any n d (N m) (D m) r (R m) W
                          rw [at_more hat hck (dup_no hno) hml] at this; exact this
                        by_cases hma : at_ ≤ m
                        · simp only [hma, decide_true] at hls
                          have hcell : cellsOf N D R at_ (m + 1 - at_) = cellsOf N D R at_ (m - at_) ++ [.string (N m), .int .i64 (R m), .string (D m)] := by
                            rw [show m + 1 - at_ = (m - at_) + 1 by omega]
                            simp only [cellsOf]
                            rw [show at_ + (m - at_) = m by omega]
                          go_wp2
                          go_region_held3 (fun w' => w'.cell? (a.add (m * 3)) = some (.string (N m)) ∧ w'.cell? ⟨(a.add (m * 3)).block, (a.add (m * 3)).off + 1, none⟩ = some (.int .i64 (R m)) ∧ w'.cell? ⟨(a.add (m * 3)).block, (a.add (m * 3)).off + 2, none⟩ = some (.string (D m)) ∧ w'.cell? ⟨w.heap.size, 0, none⟩ = some (.string n) ∧ w'.cell? ⟨w.heap.size, 1, none⟩ = some (.int .i64 r) ∧ w'.cell? ⟨w.heap.size, 2, none⟩ = some (.string d))
                            (first | go_keep | (go_split_ands; (refine ⟨cell_keep hb7 ?_, cell_keep hb7 ?_, cell_keep hb7 ?_, cell_keep hb7 ?_, cell_keep hb7 ?_, cell_keep hb7 ?_⟩) <;> assumption))
                            (first | (go_at_call 23; refine (hls _).mono ?_; rintro e w7 ⟨rfl, hb7⟩))
                          have F7 := keep_b hb7 (show wr.drew.heap[w.heap.size]? = _ from hF6)
                          have G7 : Below w.heap.size w w7 := (below_drew hbel6).trans (hb7.mono hbel6.size)
                          have hown7 := own_below hown6.drew hb7
                          have hl7 := (hlib _ G7).1
                          have yn := hl7.n m hml
                          have yr := hl7.r m hml
                          have yd := hl7.d m hml
                          have hbs7 : w.heap.size < w7.heap.size := (Array.getElem?_eq_some_iff.1 F7).1
                          go_wp2_with (at_builtin; refine wpList_append_own _ rfl (.tmp 107) (.tmp 112) 22 rfl (w.heap.size + 1) 24 i0 _ 3 40 Tryz.underlying22 hi hz0 hz1 hz2 rfl (by decide) _ _ _ rfl (hown7.alloc _) ⟨w7.heap.size, 0, none⟩ 1 1 [.string (N m), .int .i64 (R m), .string (D m)] rfl rfl (World.news_of_block (cs := #[.string (N m), .int .i64 (R m), .string (D m)]) (t := 24) (fr := (0, 0)) (heap_alloc_new w7 _)) (by simp [Value.oneCell']) (by unfold maxLen; omega) (by omega) (by simp; omega) ?_; intro v8 w8 hown8 hgrow8 _)
                          exact ⟨⟨m + 1, by omega, by go_num, by rw [hcell, show at_ + 1 + (m + 1 - at_) = at_ + 1 + (m - at_) + 1 by omega, ← List.append_assoc]; exact hown8, far _ _ _ _ _ (hown7.alloc _) hgrow8 (keep_a F7 _), grow _ _ _ _ _ (hown7.alloc _) hgrow8 (G7.alloc G7.size _)⟩, by simp [intOf]; omega⟩
                        · simp only [hma, decide_false] at hls
                          go_wp2
                          go_region_held3 (fun w' => w'.cell? (a.add (m * 3)) = some (.string (N m)) ∧ w'.cell? ⟨(a.add (m * 3)).block, (a.add (m * 3)).off + 1, none⟩ = some (.int .i64 (R m)) ∧ w'.cell? ⟨(a.add (m * 3)).block, (a.add (m * 3)).off + 2, none⟩ = some (.string (D m)) ∧ w'.cell? ⟨w.heap.size, 0, none⟩ = some (.string n) ∧ w'.cell? ⟨w.heap.size, 1, none⟩ = some (.int .i64 r) ∧ w'.cell? ⟨w.heap.size, 2, none⟩ = some (.string d))
                            (first | go_keep | (go_split_ands; (refine ⟨cell_keep hb7 ?_, cell_keep hb7 ?_, cell_keep hb7 ?_, cell_keep hb7 ?_, cell_keep hb7 ?_, cell_keep hb7 ?_⟩) <;> assumption))
                            (first | (go_at_call 23; refine (hls _).mono ?_; rintro e w7 ⟨rfl, hb7⟩))
                          have F7 := keep_b hb7 (show wr.drew.heap[w.heap.size]? = _ from hF6)
                          have G7 : Below w.heap.size w w7 := (below_drew hbel6).trans (hb7.mono hbel6.size)
                          have hown7 := own_below hown6.drew hb7
                          go_wp2
                          exact ⟨⟨m + 1, by omega, by go_num, by rw [show m + 1 - at_ = m - at_ by omega]; exact hown7, F7, G7⟩, by simp [intOf]; omega⟩
                      · obtain rfl : m = k := by omega
                        go_wp2
                        go_ret2
                        rw [cellsOf_ins hat', show at_ + 1 + (m - at_) = m + 1 by omega] at hown6
                        exact ⟨_, by rw [hE]; rfl, hbel6, fun h => absurd hE h, fun _ => ⟨at_, hat, own_base hown6 (by omega)⟩⟩
    · have hE : addE N D R len n d r = s0 := by unfold addE; rw [if_neg (by rw [hc0]; simp), hs0, if_pos h2]
      rw [hE]
      go_enter Tryz.func8, Tryz.ntmps8
      go_wp2_with (first
        | (go_at_call 10; refine (kc _ (hb1 _)).mono ?_; rintro e w2 ⟨rfl, hb2⟩; have F2 := fb _ hb2; have G2 := up _ hb2; obtain ⟨x20, x21, x22⟩ := cells _ F2)
        | (go_at_call 22; refine (ks _).mono ?_; rintro e w3 ⟨rfl, hb3⟩; have F3 := keep_b hb3 F2; have G3 := G2.trans (hb3.mono G2.size)))
      go_ret2
      exact ⟨_, rfl, G3, fun _ => rfl, fun h => absurd h h2⟩
  · have hE : addE N D R len n d r = c0 := by unfold addE; rw [hc0, if_pos h1]
    rw [hE]
    go_enter Tryz.func8, Tryz.ntmps8
    go_wp2_with (go_at_call 10; refine (kc _ (hb1 _)).mono ?_; rintro e w2 ⟨rfl, hb2⟩)
    go_ret2
    exact ⟨_, rfl, up _ hb2, fun _ => rfl, fun h => absurd h h1⟩
end Go.Proofs.YtamgdhphmkehcaaGreatDoor
