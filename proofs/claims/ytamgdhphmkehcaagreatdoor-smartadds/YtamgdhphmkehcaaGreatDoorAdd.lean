/- The walk of Add: for every library of whatever length that lies in memory; what it hands back is the library with the file put in at its place. -/
import Derived.Test.YtamgdhphmkehcaaGreatDoorCheck
import Derived.Test.YtamgdhphmkehcaaGreatDoorHas
import Derived.Test.YtamgdhphmkehcaaGreatDoorConcat
import Derived.Test.YtamgdhphmkehcaaGreatDoorRows2
namespace Go.Proofs.YtamgdhphmkehcaaGreatDoor
open Go.RowKit

/-- Is the latest file of the name of a greater revision. -/
def stale (R : Nat → Int) (r : Int) : Option Nat → Bool
  | none => false
  | some j => decide (r < R j)
/-- The error of putting a file in. -/
def addE (N D : Nat → ByteArray) (R : Nat → Int) (len : Nat) (n d : ByteArray) (r : Int) : Int :=
  if chkL N D R len ≠ 0 then chkL N D R len else if sgl n d r ≠ 0 then sgl n d r else if dup N R n r len = true then 10 else if stale R r (st N R n yes len) = true then 21 else if 256 ≤ len then 3 else 0
/-- The place at which the file is put in. -/
structure At (N : Nat → ByteArray) (R : Nat → Int) (len : Nat) (n : ByteArray) (r : Int) (at_ : Nat) : Prop where
  le : at_ ≤ len
  pre : ∀ i, i < at_ → lessP (N i) n (R i) r = true
  stop : at_ < len → lessP (N at_) n (R at_) r = false

theorem own_base {w : World} {b b' m : Nat} {e : TypeId} {size : Nat} {v : Value} {xs : List Value} (h : w.ownsRow b e size v m xs) (hb : b' ≤ b) : w.ownsRow b' e size v m xs := by
  refine ⟨h.1, ?_⟩
  rcases h.2 with hn | ⟨g, cap, cur, rfl, hbg, rest⟩
  · exact .inl hn
  · exact .inr ⟨g, cap, cur, rfl, by omega, rest⟩
theorem Src.mono {w w' : World} {ao : Option Addr} {m c : Nat} {xs : List Value} (h : Src w ao m c xs) (hb : Below w.heap.size w w') : Src w' ao m c xs :=
  ⟨h.1, h.2.1, h.2.2.1, fun ad ha j u hu => cell_keep hb (h.2.2.2 ad ha j u hu)⟩
/-- What Add hands to Concat, and what Concat makes of it. -/
theorem ins_call (ao0 ao2 : Option Addr) (c0 c2 k m : Nat) (x0 x2 : List Value) (n d : ByteArray) (r : Int) (w : World) (h0 : Src w ao0 k c0 x0) (h2 : Src w ao2 m c2 x2) (hs : k + 1 + m ≤ 1000) :
    Calls Tryz.prog 21 #[.slice (some ⟨w.heap.size + 1, 0, none⟩) 3 3]
      ((w.alloc (.cells #[.string n, .int .i64 r, .string d] 24)).alloc (.cells #[.slice ao0 k c0, .slice (some ⟨w.heap.size, 0, none⟩) 1 1, .slice ao2 m c2] 22)).drew
      fun e w' => ∃ v, e = .returned v ∧ w'.ownsRow w.heap.size 24 3 v (k + 1 + m) (x0 ++ [.string n, .int .i64 r, .string d] ++ x2) ∧ Below w.heap.size w w' := by
  have sz : (w.alloc (.cells #[.string n, .int .i64 r, .string d] 24)).heap.size = w.heap.size + 1 := by show (w.heap.push _).size = _; simp
  have b1 : Below w.heap.size w (w.alloc (.cells #[.string n, .int .i64 r, .string d] 24)) := (Below.refl _ _).alloc (Nat.le_refl _) _
  have b2 : Below w.heap.size w ((w.alloc (.cells #[.string n, .int .i64 r, .string d] 24)).alloc (.cells #[.slice ao0 k c0, .slice (some ⟨w.heap.size, 0, none⟩) 1 1, .slice ao2 m c2] 22)).drew := below_drew (b1.alloc b1.size _)
  have hB := heap_alloc_new (w.alloc (.cells #[.string n, .int .i64 r, .string d] 24)) (.cells #[.slice ao0 k c0, .slice (some ⟨w.heap.size, 0, none⟩) 1 1, .slice ao2 m c2] 22)
  rw [sz] at hB
  have hF := keep_a (heap_alloc_new w (.cells #[.string n, .int .i64 r, .string d] 24)) (.cells #[.slice ao0 k c0, .slice (some ⟨w.heap.size, 0, none⟩) 1 1, .slice ao2 m c2] 22)
  obtain ⟨f0, f1, f2⟩ := three_cells hF
  have h1 : Src ((w.alloc (.cells #[.string n, .int .i64 r, .string d] 24)).alloc (.cells #[.slice ao0 k c0, .slice (some ⟨w.heap.size, 0, none⟩) 1 1, .slice ao2 m c2] 22)).drew (some ⟨w.heap.size, 0, none⟩) 1 1 [.string n, .int .i64 r, .string d] := by
    unfold Src
    refine ⟨rfl, (fun h => by cases h), fun u hu => ?_, fun ad ha j u hu => ?_⟩
    · simp only [List.mem_cons, List.not_mem_nil, or_false] at hu
      rcases hu with rfl | rfl | rfl <;> rfl
    · cases ha
      have hadd : (⟨w.heap.size, 0, none⟩ : Addr).add j = ⟨w.heap.size, j, none⟩ := by unfold Addr.add; split <;> simp_all
      rw [hadd]
      match j, hu with
      | 0, hu => cases hu; exact f0
      | 1, hu => cases hu; exact f1
      | 2, hu => cases hu; exact f2
      | j + 3, hu => simp at hu
  refine (concat3 _ _ _ _ _ _ _ _ _ _ x0 [.string n, .int .i64 r, .string d] x2 ((w.alloc (.cells #[.string n, .int .i64 r, .string d] 24)).alloc (.cells #[.slice ao0 k c0, .slice (some ⟨w.heap.size, 0, none⟩) 1 1, .slice ao2 m c2] 22)).drew hB (h0.mono b2) h1 (h2.mono b2) hs).mono ?_
  rintro e w' ⟨v, rfl, hown, hb⟩
  exact ⟨v, rfl, own_base hown b2.size, b2.trans (hb.mono b2.size)⟩
theorem src_empty (w : World) (ad : Addr) (c : Nat) : Src w (some ad) 0 c [] := by
  unfold Src
  exact ⟨rfl, (fun h => by cases h), (fun u hu => by cases hu), fun ad' _ j u hu => by simp at hu⟩
theorem Lib.src0 {w : World} {a : Addr} {len cap k : Nat} {N D : Nat → ByteArray} {R : Nat → Int} (h : Lib w a len N D R) (hk : k ≤ len) : Src w (some a) k cap (cellsOf N D R 0 k) := by
  unfold Src
  refine ⟨cellsOf_len k, (fun h => by cases h), cellsOf_one k, fun ad ha j u hu => ?_⟩
  cases ha
  have := h.cells (i := 0) (k := k) (by omega) j u hu
  rwa [show a.add (0 * 3) = a from if_pos (by omega)] at this
theorem Lib.src2 {w : World} {a : Addr} {len cap k : Nat} {N D : Nat → ByteArray} {R : Nat → Int} (h : Lib w a len N D R) (hk : k ≤ len) (hc : len ≤ cap) : Src w (if cap = k then some a else some (a.add (k * 3))) (len - k) (cap - k) (cellsOf N D R k (len - k)) := by
  unfold Src
  refine ⟨cellsOf_len _, (fun h => by split at h <;> cases h), cellsOf_one _, fun ad ha j u hu => ?_⟩
  split at ha
  · rename_i e
    have : len - k = 0 := by omega
    rw [this] at hu
    simp [cellsOf] at hu
  · cases ha
    exact h.cells (i := k) (k := len - k) (by omega) j u hu

set_option maxRecDepth 100000 in
set_option maxHeartbeats 6400000 in
theorem add_some (a : Addr) (len cap : Nat) (N D : Nat → ByteArray) (R : Nat → Int) (n d : ByteArray) (r : Int) (w : World) (hl : Lib w a len N D R) (hblk : 0 < len → a.block < w.heap.size)
    (hlen : len ≤ 9223372036854775807) (hcap : len ≤ cap) :
    Calls Tryz.prog 7 #[.slice (some a) len cap, .agg #[.string n, .int .i64 r, .string d]] w fun e w' => ∃ v, e = .returned (.tuple #[v, .int .i64 (addE N D R len n d r)]) ∧ Below w.heap.size w w' ∧
      (addE N D R len n d r ≠ 0 → v = .slice none 0 0) ∧
      (addE N D R len n d r = 0 → ∃ at_, At N R len n r at_ ∧ w'.ownsRow w.heap.size 24 3 v (len + 1) (cellsOf (insF at_ n N) (insF at_ d D) (insF at_ r R) 0 (len + 1))) := by
  have hlib : ∀ W, Below w.heap.size w W → Lib W a len N D R ∧ (0 < len → a.block < W.heap.size) := fun W h => ⟨hl.mono h hblk, fun h0 => Nat.lt_of_lt_of_le (hblk h0) h.size⟩
  have hb1 : ∀ ob, Below w.heap.size w (w.alloc ob) := fun ob => (Below.refl _ _).alloc (Nat.le_refl _) _
  have fb : ∀ W, Below (w.alloc (.cells #[.string n, .int .i64 r, .string d] 24)).heap.size (w.alloc (.cells #[.string n, .int .i64 r, .string d] 24)) W →
      W.heap[w.heap.size]? = some (.cells #[.string n, .int .i64 r, .string d] 24 (0, 0)) := fun W h => (h.block _ (by show w.heap.size < (w.heap.push _).size; simp)).trans (heap_alloc_new w _)
  have up : ∀ W, Below (w.alloc (.cells #[.string n, .int .i64 r, .string d] 24)).heap.size (w.alloc (.cells #[.string n, .int .i64 r, .string d] 24)) W → Below w.heap.size w W := fun W h => (hb1 _).trans (h.mono (hb1 _).size)
  have r1 : Below (w.alloc (.cells #[.string n, .int .i64 r, .string d] 24)).heap.size (w.alloc (.cells #[.string n, .int .i64 r, .string d] 24)) (w.alloc (.cells #[.string n, .int .i64 r, .string d] 24)) := Below.refl _ _
  have cells : ∀ W : World, W.heap[w.heap.size]? = some (.cells #[.string n, .int .i64 r, .string d] 24 (0, 0)) → W.cell? ⟨w.heap.size, 0, none⟩ = some (.string n) ∧ W.cell? ⟨w.heap.size, 1, none⟩ = some (.int .i64 r) ∧ W.cell? ⟨w.heap.size, 2, none⟩ = some (.string d) :=
    fun W h => by simp [World.cell?, h]
  obtain ⟨c0, hc0⟩ : ∃ c, chkL N D R len = c := ⟨_, rfl⟩
  obtain ⟨s0, hs0⟩ : ∃ s, sgl n d r = s := ⟨_, rfl⟩
  have kc : ∀ W, Below w.heap.size w W → Calls Tryz.prog 9 #[.slice (some a) len cap] W fun e w' => e = .returned (.int .i64 c0) ∧ Below W.heap.size W w' := fun W h => by
    have := check_some a len cap N D R W (hlib W h).1 (hlib W h).2 hlen
    rwa [hc0] at this
  have ks : ∀ W, Calls Tryz.prog 17 #[.agg #[.string n, .int .i64 r, .string d]] W fun e w' => e = .returned (.int .i64 s0) ∧ Below W.heap.size W w' := fun W => by
    have := single_any n d r W
    rwa [hs0] at this
  obtain ⟨b0, hb0⟩ : ∃ b, dup N R n r len = b := ⟨_, rfl⟩
  have kh : ∀ W, Below w.heap.size w W → W.heap[w.heap.size]? = some (.cells #[.string n, .int .i64 r, .string d] 24 (0, 0)) →
      Calls Tryz.prog 18 #[.slice (some a) len cap, .func (.func 19) #[] #[.pointer (some ⟨w.heap.size, 0, none⟩)]] W fun e w' => e = .returned (.bool b0) ∧ Below W.heap.size W w' := fun W h hf => by
    have := hasf_some a len cap N D R n r w.heap.size W (hlib W h).1 (hlib W h).2 hlen (cells W hf).1 (cells W hf).2.1
    rwa [hb0] at this
  obtain ⟨o, ho⟩ : ∃ o, st N R n yes len = o := ⟨_, rfl⟩
  have kl : ∀ W, Below w.heap.size w W → Calls Tryz.prog 13 #[.slice (some a) len cap, .string n] W fun e w' =>
      e = .returned (.tuple #[.agg #[.string (bN N o), .int .i64 (bR R o), .string (bN D o)], .bool o.isSome]) ∧ Below W.heap.size W w' := fun W h => by
    have := latest_any a len cap N D R n W (hlib W h).1 (hlib W h).2 hlen
    rwa [ho] at this
  by_cases h1 : c0 = 0
  · subst h1
    have hle : len ≤ 256 := by
      unfold chkL at hc0
      by_cases h : 256 < len
      · rw [if_pos h] at hc0; cases hc0
      · omega
    by_cases h2 : s0 = 0
    · subst h2
      cases b0
      · cases hst : stale R r o
        · by_cases h3 : 256 ≤ len
          · have hE : addE N D R len n d r = 3 := by unfold addE; rw [if_neg (by rw [hc0]; simp), if_neg (by rw [hs0]; simp), if_neg (by rw [hb0]; simp), if_neg (by rw [ho, hst]; simp), if_pos h3]
            rw [hE]
            rcases o with _ | j
            · go_enter Tryz.func7, Tryz.ntmps7
              go_wp2_with (first
                | (go_at_call 9; refine (kc _ (hb1 _)).mono ?_; rintro e w2 ⟨rfl, hb2⟩; have F2 := fb _ hb2; have G2 := up _ hb2; obtain ⟨x20, x21, x22⟩ := cells _ F2)
                | (go_at_call 17; refine (ks _).mono ?_; rintro e w3 ⟨rfl, hb3⟩; have F3 := keep_b hb3 F2; have G3 := G2.trans (hb3.mono G2.size); obtain ⟨x30, x31, x32⟩ := cells _ F3)
                | (go_at_call 18; refine (kh _ G3 F3).mono ?_; rintro e w4 ⟨rfl, hb4⟩; have F4 := keep_b hb4 F3; have G4 := G3.trans (hb4.mono G3.size); obtain ⟨x40, x41, x42⟩ := cells _ F4)
                | (go_at_call 13; refine (kl _ G4).mono ?_; rintro e w5 ⟨rfl, hb5⟩; have F5 := keep_b hb5 F4; have G5 := G4.trans (hb5.mono G4.size); have F5a := fun ob => keep_a F5 ob; have G5a : ∀ ob, Below w.heap.size w (w5.alloc ob) := fun ob => G5.alloc G5.size ob; have y0 := fun ob => (cells _ (F5a ob)).1; have y1 := fun ob => (cells _ (F5a ob)).2.1; have y2 := fun ob => (cells _ (F5a ob)).2.2))
              go_ret2
              exact ⟨_, rfl, G5a _, fun _ => rfl, fun h => by cases h⟩
            · have hj : bR R (some j) ≤ r := by simpa [stale, bR] using hst
              go_enter Tryz.func7, Tryz.ntmps7
              go_wp2_with (first
                | (go_at_call 9; refine (kc _ (hb1 _)).mono ?_; rintro e w2 ⟨rfl, hb2⟩; have F2 := fb _ hb2; have G2 := up _ hb2; obtain ⟨x20, x21, x22⟩ := cells _ F2)
                | (go_at_call 17; refine (ks _).mono ?_; rintro e w3 ⟨rfl, hb3⟩; have F3 := keep_b hb3 F2; have G3 := G2.trans (hb3.mono G2.size); obtain ⟨x30, x31, x32⟩ := cells _ F3)
                | (go_at_call 18; refine (kh _ G3 F3).mono ?_; rintro e w4 ⟨rfl, hb4⟩; have F4 := keep_b hb4 F3; have G4 := G3.trans (hb4.mono G3.size); obtain ⟨x40, x41, x42⟩ := cells _ F4)
                | (go_at_call 13; refine (kl _ G4).mono ?_; rintro e w5 ⟨rfl, hb5⟩; have F5 := keep_b hb5 F4; have G5 := G4.trans (hb5.mono G4.size); have F5a := fun ob => keep_a F5 ob; have G5a : ∀ ob, Below w.heap.size w (w5.alloc ob) := fun ob => G5.alloc G5.size ob; have y0 := fun ob => (cells _ (F5a ob)).1; have y1 := fun ob => (cells _ (F5a ob)).2.1; have y2 := fun ob => (cells _ (F5a ob)).2.2))
              go_ret2
              exact ⟨_, rfl, G5a _, fun _ => rfl, fun h => by cases h⟩
          · have hE : addE N D R len n d r = 0 := by unfold addE; rw [if_neg (by rw [hc0]; simp), if_neg (by rw [hs0]; simp), if_neg (by rw [hb0]; simp), if_neg (by rw [ho, hst]; simp), if_neg h3]
            rw [hE]
            rcases o with _ | j
            all_goals try (have hj : bR R (some j) ≤ r := by simpa [stale, bR] using hst)
            all_goals
              go_enter Tryz.func7, Tryz.ntmps7
              go_wp2_with (first
                | (go_at_call 9; refine (kc _ (hb1 _)).mono ?_; rintro e w2 ⟨rfl, hb2⟩; have F2 := fb _ hb2; have G2 := up _ hb2; obtain ⟨x20, x21, x22⟩ := cells _ F2)
                | (go_at_call 17; refine (ks _).mono ?_; rintro e w3 ⟨rfl, hb3⟩; have F3 := keep_b hb3 F2; have G3 := G2.trans (hb3.mono G2.size); obtain ⟨x30, x31, x32⟩ := cells _ F3)
                | (go_at_call 18; refine (kh _ G3 F3).mono ?_; rintro e w4 ⟨rfl, hb4⟩; have F4 := keep_b hb4 F3; have G4 := G3.trans (hb4.mono G3.size); obtain ⟨x40, x41, x42⟩ := cells _ F4)
                | (go_at_call 13; refine (kl _ G4).mono ?_; rintro e w5 ⟨rfl, hb5⟩; have F5 := keep_b hb5 F4; have G5 := G4.trans (hb5.mono G4.size); have F5a := fun ob => keep_a F5 ob; have G5a : ∀ ob, Below w.heap.size w (w5.alloc ob) := fun ob => G5.alloc G5.size ob; have y0 := fun ob => (cells _ (F5a ob)).1; have y1 := fun ob => (cells _ (F5a ob)).2.1; have y2 := fun ob => (cells _ (F5a ob)).2.2))
              go_loopw [10] (fun i wr => ∃ k : Nat, k ≤ len ∧ i = .int .i64 k ∧ (∀ t, t < k → lessP (N t) n (R t) r = true) ∧ wr.heap[w.heap.size]? = some (.cells #[.string n, .int .i64 r, .string d] 24 (0, 0)) ∧ Below w.heap.size w wr)
                (fun i _ => len - (intOf i).toNat)
              case atStart => exact ⟨0, Nat.zero_le _, rfl, fun t ht => absurd ht (Nat.not_lt_zero _), F5a _, G5a _⟩
              case round =>
                obtain ⟨k, hk, rfl, hpre, hF, hbel⟩ := hrel
                obtain ⟨z0, z1, z2⟩ := cells _ hF
                have hlr := (hlib _ hbel).1
                clear y0 y1 y2 x20 x21 x22 x30 x31 x32 x40 x41 x42 F5a G5a F5 G5 F4 G4 F3 G3 F2 G2
                by_cases hkl : k < len
                · have hn := hlr.n k hkl
                  have hr := hlr.r k hkl
                  have hd := hlr.d k hkl
                  have hk0 : (0 : Int) ≤ (k : Int) := Int.natCast_nonneg _
                  have hkl' : (k : Int) < (len : Int) := by omega
                  obtain ⟨lp, hlp⟩ : ∃ lp, lessP (N k) n (R k) r = lp := ⟨_, rfl⟩
                  have hls : ∀ W, Calls Tryz.prog 20 #[.agg #[.string (N k), .int .i64 (R k), .string (D k)], .agg #[.string n, .int .i64 r, .string d]] W fun e w' => e = .returned (.bool lp) ∧ Below W.heap.size W w' := fun W => by
                    have := less_any (N k) (D k) n d (R k) r W
                    rw [hlp] at this; exact this
                  go_wp2
                  go_region_held3 (fun w' => w'.cell? (a.add (k * 3)) = some (.string (N k)) ∧ w'.cell? ⟨(a.add (k * 3)).block, (a.add (k * 3)).off + 1, none⟩ = some (.int .i64 (R k)) ∧ w'.cell? ⟨(a.add (k * 3)).block, (a.add (k * 3)).off + 2, none⟩ = some (.string (D k)) ∧
                      w'.cell? ⟨w.heap.size, 0, none⟩ = some (.string n) ∧ w'.cell? ⟨w.heap.size, 1, none⟩ = some (.int .i64 r) ∧ w'.cell? ⟨w.heap.size, 2, none⟩ = some (.string d))
                    (first | go_keep | (go_split_ands; (refine ⟨cell_keep hb7 ?_, cell_keep hb7 ?_, cell_keep hb7 ?_, cell_keep hb7 ?_, cell_keep hb7 ?_, cell_keep hb7 ?_⟩) <;> assumption))
                    (first | (go_at_call 20; refine (hls _).mono ?_; rintro e w7 ⟨rfl, hb7⟩))
                  have F7 := keep_b hb7 (show wr.drew.heap[w.heap.size]? = _ from hF)
                  have G7 : Below w.heap.size w w7 := (below_drew hbel).trans (hb7.mono hbel.size)
                  cases lp
                  · go_wp2
                    have hstop : k < len → lessP (N k) n (R k) r = false := fun _ => hlp
                    obtain ⟨z70, z71, z72⟩ := cells _ F7
                    have hkc : (k : Int) ≤ (cap : Int) := by omega
                    have hkl2 : (k : Int) ≤ (len : Int) := by omega
                    have hl7 := (hlib _ G7).1
                    have key := ins_call (some a) (if cap = k then some a else some (a.add (k * 3))) cap (cap - k) k (len - k) _ _ n d r w7 (hl7.src0 hk) (hl7.src2 hk hcap) (by omega)
                    go_region_held3 (fun w' => w'.cell? ⟨w.heap.size, 0, none⟩ = some (.string n) ∧ w'.cell? ⟨w.heap.size, 1, none⟩ = some (.int .i64 r) ∧ w'.cell? ⟨w.heap.size, 2, none⟩ = some (.string d))
                      (first | go_keep | (go_split_ands; (refine ⟨cell_keep (below_drew ((Below.refl _ _).alloc (Nat.le_refl _) _)) ?_, cell_keep hb8 ?_, cell_keep hb8 ?_⟩) <;> assumption) | exact ⟨cell_keep hb8 z70, cell_keep hb8 z71, cell_keep hb8 z72⟩)
                      (first | (go_at_call 21; refine key.mono ?_; rintro e w8 ⟨v, rfl, hown, hb8⟩))
                    go_wp2
                    go_ret2
                    refine ⟨_, rfl, G7.trans (hb8.mono G7.size), fun h => absurd rfl h, fun _ => ⟨k, ⟨hk, hpre, fun h => hstop h⟩, ?_⟩⟩
                    have e1 : k + 1 + (len - k) = len + 1 := by omega
                    rw [cellsOf_ins hk, e1] at hown
                    exact own_base hown G7.size
                  · go_wp2
                    exact ⟨⟨k + 1, by omega, by go_num, (fun t ht => by
                      by_cases e : t = k
                      · subst e; exact hlp
                      · exact hpre t (by omega)), F7, G7⟩, by simp [intOf]; omega⟩
                · obtain rfl : k = len := by omega
                  go_wp2
                  go_quiet (fail)
                  go_wp2
                  have F7 : (wr.drewN nq).heap[w.heap.size]? = some (.cells #[.string n, .int .i64 r, .string d] 24 (0, 0)) := hF
                  have G7 : Below w.heap.size w (wr.drewN nq) := below_drewN hbel nq
                  generalize wr.drewN nq = w7 at F7 G7 ⊢
                  have hstop : k < k → lessP (N k) n (R k) r = false := fun h => absurd h (Nat.lt_irrefl _)
                  obtain ⟨z70, z71, z72⟩ := cells _ F7
                  have hkc : (k : Int) ≤ (cap : Int) := by omega
                  have hl7 := (hlib _ G7).1
                  have e1 := cellsOf_ins (N := N) (D := D) (R := R) (n := n) (d := d) (r := r) hk
                  rw [Nat.sub_self, show cellsOf N D R k 0 = [] from rfl] at e1
                  by_cases hck : cap = k
                  · subst hck
                    have key := ins_call (some a) (some a) cap 0 cap 0 _ _ n d r w7 (hl7.src0 hk) (src_empty w7 a 0) (by omega)
                    rw [e1] at key
                    go_region_held3 (fun w' => w'.cell? ⟨w.heap.size, 0, none⟩ = some (.string n) ∧ w'.cell? ⟨w.heap.size, 1, none⟩ = some (.int .i64 r) ∧ w'.cell? ⟨w.heap.size, 2, none⟩ = some (.string d))
                      (first | go_keep | exact ⟨cell_keep hb8 z70, cell_keep hb8 z71, cell_keep hb8 z72⟩)
                      (first | (go_at_call 21; refine key.mono ?_; rintro e w8 ⟨v, rfl, hown, hb8⟩))
                    go_wp2
                    go_ret2
                    exact ⟨_, rfl, G7.trans (hb8.mono G7.size), fun h => absurd rfl h, fun _ => ⟨cap, ⟨hk, hpre, fun h => hstop h⟩, own_base hown G7.size⟩⟩
                  · have key := ins_call (some a) (some (a.add (k * 3))) cap (cap - k) k 0 _ _ n d r w7 (hl7.src0 hk) (src_empty w7 _ (cap - k)) (by omega)
                    rw [e1] at key
                    go_region_held3 (fun w' => w'.cell? ⟨w.heap.size, 0, none⟩ = some (.string n) ∧ w'.cell? ⟨w.heap.size, 1, none⟩ = some (.int .i64 r) ∧ w'.cell? ⟨w.heap.size, 2, none⟩ = some (.string d))
                      (first | go_keep | exact ⟨cell_keep hb8 z70, cell_keep hb8 z71, cell_keep hb8 z72⟩)
                      (first | (go_at_call 21; refine key.mono ?_; rintro e w8 ⟨v, rfl, hown, hb8⟩))
                    go_wp2
                    go_ret2
                    exact ⟨_, rfl, G7.trans (hb8.mono G7.size), fun h => absurd rfl h, fun _ => ⟨k, ⟨hk, hpre, fun h => hstop h⟩, own_base hown G7.size⟩⟩
        · have hE : addE N D R len n d r = 21 := by unfold addE; rw [if_neg (by rw [hc0]; simp), if_neg (by rw [hs0]; simp), if_neg (by rw [hb0]; simp), if_pos (by rw [ho, hst])]
          rw [hE]
          rcases o with _ | j
          · cases hst
          · have hj : r < bR R (some j) := by simpa [stale, bR] using hst
            go_enter Tryz.func7, Tryz.ntmps7
            go_wp2_with (first
              | (go_at_call 9; refine (kc _ (hb1 _)).mono ?_; rintro e w2 ⟨rfl, hb2⟩; have F2 := fb _ hb2; have G2 := up _ hb2; obtain ⟨x20, x21, x22⟩ := cells _ F2)
              | (go_at_call 17; refine (ks _).mono ?_; rintro e w3 ⟨rfl, hb3⟩; have F3 := keep_b hb3 F2; have G3 := G2.trans (hb3.mono G2.size); obtain ⟨x30, x31, x32⟩ := cells _ F3)
              | (go_at_call 18; refine (kh _ G3 F3).mono ?_; rintro e w4 ⟨rfl, hb4⟩; have F4 := keep_b hb4 F3; have G4 := G3.trans (hb4.mono G3.size); obtain ⟨x40, x41, x42⟩ := cells _ F4)
              | (go_at_call 13; refine (kl _ G4).mono ?_; rintro e w5 ⟨rfl, hb5⟩; have F5 := keep_b hb5 F4; have G5 := G4.trans (hb5.mono G4.size); have F5a := fun ob => keep_a F5 ob; have G5a : ∀ ob, Below w.heap.size w (w5.alloc ob) := fun ob => G5.alloc G5.size ob; have y0 := fun ob => (cells _ (F5a ob)).1; have y1 := fun ob => (cells _ (F5a ob)).2.1; have y2 := fun ob => (cells _ (F5a ob)).2.2))
            go_ret2
            exact ⟨_, rfl, G5a _, fun _ => rfl, fun h => by cases h⟩
      · have hE : addE N D R len n d r = 10 := by unfold addE; rw [if_neg (by rw [hc0]; simp), if_neg (by rw [hs0]; simp), if_pos hb0]
        rw [hE]
        go_enter Tryz.func7, Tryz.ntmps7
        go_wp2_with (first
          | (go_at_call 9; refine (kc _ (hb1 _)).mono ?_; rintro e w2 ⟨rfl, hb2⟩; have F2 := fb _ hb2; have G2 := up _ hb2; obtain ⟨x20, x21, x22⟩ := cells _ F2)
          | (go_at_call 17; refine (ks _).mono ?_; rintro e w3 ⟨rfl, hb3⟩; have F3 := keep_b hb3 F2; have G3 := G2.trans (hb3.mono G2.size); obtain ⟨x30, x31, x32⟩ := cells _ F3)
          | (go_at_call 18; refine (kh _ G3 F3).mono ?_; rintro e w4 ⟨rfl, hb4⟩; have F4 := keep_b hb4 F3; have G4 := G3.trans (hb4.mono G3.size); obtain ⟨x40, x41, x42⟩ := cells _ F4))
        go_ret2
        exact ⟨_, rfl, G4, fun _ => rfl, fun h => by cases h⟩
    · have hE : addE N D R len n d r = s0 := by unfold addE; rw [if_neg (by rw [hc0]; simp), hs0, if_pos h2]
      rw [hE]
      go_enter Tryz.func7, Tryz.ntmps7
      go_wp2_with (first
        | (go_at_call 9; refine (kc _ (hb1 _)).mono ?_; rintro e w2 ⟨rfl, hb2⟩; have F2 := fb _ hb2; have G2 := up _ hb2; obtain ⟨x20, x21, x22⟩ := cells _ F2)
        | (go_at_call 17; refine (ks _).mono ?_; rintro e w3 ⟨rfl, hb3⟩; have F3 := keep_b hb3 F2; have G3 := G2.trans (hb3.mono G2.size); obtain ⟨x30, x31, x32⟩ := cells _ F3))
      go_ret2
      exact ⟨_, rfl, G3, fun _ => rfl, fun h => absurd h h2⟩
  · have hE : addE N D R len n d r = c0 := by unfold addE; rw [hc0, if_pos h1]
    rw [hE]
    clear ks cells fb hlib
    go_enter Tryz.func7, Tryz.ntmps7
    go_wp2_with (go_at_call 9; refine (kc _ (hb1 _)).mono ?_; rintro e w2 ⟨rfl, hb2⟩)
    go_ret2
    exact ⟨_, rfl, up _ hb2, fun _ => rfl, fun h => absurd h h1⟩
end Go.Proofs.YtamgdhphmkehcaaGreatDoor
