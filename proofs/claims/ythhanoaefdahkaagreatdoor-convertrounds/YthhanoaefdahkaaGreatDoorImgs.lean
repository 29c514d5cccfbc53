/- law51: images in memory: a row of pixels of four cells each, read, copied by append and written. -/
import Derived.Test.YthhanoaefdahkaaGreatDoorPx2
import Derived.OwnWalk
import Derived.Deep.AppendLies
import Derived.Deep.OwnRows
namespace Go.Proofs.YthhanoaefdahkaaGreatDoor
open Go.RowKit

theorem cell_keep {W W' : World} {p : Addr} {v : Value} (h : Below W.heap.size W W') (hc : W.cell? p = some v) : W'.cell? p = some v := (h.cell (World.block_lt_of_cell? W _ hc)).trans hc
theorem keep_b {W W' : World} {b : Nat} {ob : Obj} (h : Below W.heap.size W W') (hb : W.heap[b]? = some ob) : W'.heap[b]? = some ob := (h.block _ (Array.getElem?_eq_some_iff.1 hb).1).trans hb
theorem keep_a {W : World} {b : Nat} {ob : Obj} (hb : W.heap[b]? = some ob) (o : Obj) : (W.alloc o).heap[b]? = some ob := (Below.heap_alloc _ _ _ (Array.getElem?_eq_some_iff.1 hb).1).trans hb
theorem three_cells {W : World} {b : Nat} {x y z : Value} {t : TypeId} (h : W.heap[b]? = some (.cells #[x, y, z] t (0, 0))) : W.cell? ⟨b, 0, none⟩ = some x ∧ W.cell? ⟨b, 1, none⟩ = some y ∧ W.cell? ⟨b, 2, none⟩ = some z := by simp [World.cell?, h]
theorem below_drew {B : Nat} {a w : World} (h : Below B a w) : Below B a w.drew := h.trans ⟨rfl, rfl, rfl, Nat.le_refl _, fun _ _ => rfl⟩
theorem size_alloc (w : World) (o : Obj) : (w.alloc o).heap.size = w.heap.size + 1 := by show (w.heap.push _).size = _; exact Array.size_push _
theorem two_new (w : World) (o1 o2 : Obj) : ((w.alloc o1).alloc o2).heap[w.heap.size + 1]? = some o2 := by
  have h := heap_alloc_new (w.alloc o1) o2
  rwa [size_alloc] at h
theorem addB (a : Addr) (k : Nat) : (a.add k).block = a.block := by unfold Addr.add; split <;> rfl
theorem add0 (b k : Nat) : (⟨b, 0, none⟩ : Addr).add k = ⟨b, k, none⟩ := by unfold Addr.add; split <;> simp_all

/-- n pixels lie from a on, the parts of pixel j being P j 0 .. P j 3. -/
structure Pic (w : World) (a : Addr) (n : Nat) (P : Nat → Nat → Int) : Prop where
  c0 : ∀ j, j < n → w.cell? (a.add (j * 4)) = some (.int .i64 (P j 0))
  c1 : ∀ j, j < n → w.cell? ⟨(a.add (j * 4)).block, (a.add (j * 4)).off + 1, none⟩ = some (.int .i64 (P j 1))
  c2 : ∀ j, j < n → w.cell? ⟨(a.add (j * 4)).block, (a.add (j * 4)).off + 2, none⟩ = some (.int .i64 (P j 2))
  c3 : ∀ j, j < n → w.cell? ⟨(a.add (j * 4)).block, (a.add (j * 4)).off + 3, none⟩ = some (.int .i64 (P j 3))
section
variable {w w' : World} {a : Addr} {n : Nat} {P Q : Nat → Nat → Int}
theorem Pic.mono (h : Pic w a n P) (hb : Below w.heap.size w w') : Pic w' a n P :=
  ⟨fun j hj => cell_keep hb (h.c0 j hj), fun j hj => cell_keep hb (h.c1 j hj), fun j hj => cell_keep hb (h.c2 j hj), fun j hj => cell_keep hb (h.c3 j hj)⟩
theorem Pic.congr (h : Pic w a n P) (e : ∀ j k, j < n → k < 4 → P j k = Q j k) : Pic w a n Q :=
  ⟨fun j hj => by rw [← e j 0 hj (by omega)]; exact h.c0 j hj, fun j hj => by rw [← e j 1 hj (by omega)]; exact h.c1 j hj, fun j hj => by rw [← e j 2 hj (by omega)]; exact h.c2 j hj, fun j hj => by rw [← e j 3 hj (by omega)]; exact h.c3 j hj⟩

/-- The slice (ao, n, c) is a picture's. -/
def Img (w : World) (ao : Option Addr) (n c : Nat) (P : Nat → Nat → Int) : Prop := (ao = none ∧ n = 0 ∧ c = 0) ∨ ∃ a, ao = some a ∧ Pic w a n P
variable {ao : Option Addr} {c : Nat}
theorem Img.mono (h : Img w ao n c P) (hb : Below w.heap.size w w') : Img w' ao n c P := by
  rcases h with h | ⟨a, e, h⟩
  · exact .inl h
  · exact .inr ⟨a, e, h.mono hb⟩
theorem Img.congr (h : Img w ao n c P) (e : ∀ j k, j < n → k < 4 → P j k = Q j k) : Img w ao n c Q := by
  rcases h with h | ⟨a, e', h⟩
  · exact .inl h
  · exact .inr ⟨a, e', h.congr e⟩

/-- The cells of n pixels. -/
def cellsP (P : Nat → Nat → Int) (n : Nat) : List Value := (List.range (n * 4)).map fun i => .int .i64 (P (i / 4) (i % 4))
theorem cellsP_len (P : Nat → Nat → Int) (n : Nat) : (cellsP P n).length = n * 4 := by simp [cellsP]
theorem cellsP_get {P : Nat → Nat → Int} {n i : Nat} (h : i < n * 4) : (cellsP P n)[i]? = some (.int .i64 (P (i / 4) (i % 4))) := by
  simp [cellsP, h]
theorem cellsP_one (P : Nat → Nat → Int) (n : Nat) : ∀ u ∈ cellsP P n, u.oneCell' = true := by
  intro u hu
  obtain ⟨i, _, rfl⟩ := List.mem_map.1 hu
  rfl
theorem cellsP_succ (P : Nat → Nat → Int) (n : Nat) : cellsP P (n + 1) = cellsP P n ++ [.int .i64 (P n 0), .int .i64 (P n 1), .int .i64 (P n 2), .int .i64 (P n 3)] := by
  unfold cellsP
  rw [show (n + 1) * 4 = n * 4 + 1 + 1 + 1 + 1 by omega, List.range_succ, List.range_succ, List.range_succ, List.range_succ]
  simp only [List.map_append, List.map_cons, List.map_nil, List.append_assoc, List.cons_append, List.nil_append]
  rw [show n * 4 / 4 = n by omega, show n * 4 % 4 = 0 by omega, show (n * 4 + 1) / 4 = n by omega, show (n * 4 + 1) % 4 = 1 by omega, show (n * 4 + 1 + 1) / 4 = n by omega, show (n * 4 + 1 + 1) % 4 = 2 by omega,
    show (n * 4 + 1 + 1 + 1) / 4 = n by omega, show (n * 4 + 1 + 1 + 1) % 4 = 3 by omega]
theorem Pic.flat (h : Pic w a n P) : ∀ j u, (cellsP P n)[j]? = some u → w.cell? (a.add j) = some u := by
  intro i u hu
  have hi : i < n * 4 := by
    have := (List.getElem?_eq_some_iff.1 hu).1
    rwa [cellsP_len] at this
  rw [cellsP_get hi] at hu
  obtain rfl := Option.some.inj hu
  have hj : i / 4 < n := by omega
  have e : ∀ r, i % 4 = r → r ≠ 0 → a.add i = ⟨(a.add (i / 4 * 4)).block, (a.add (i / 4 * 4)).off + r, none⟩ := by
    intro r hr h0
    have hne : i ≠ 0 := by omega
    unfold Addr.add
    rw [if_neg hne]
    split
    · simp only [Addr.mk.injEq, true_and]; constructor <;> first | omega | trivial
    · simp only [Addr.mk.injEq, true_and]; constructor <;> first | omega | trivial
  have hm : i % 4 = 0 ∨ i % 4 = 1 ∨ i % 4 = 2 ∨ i % 4 = 3 := by omega
  rcases hm with hm | hm | hm | hm
  · have := h.c0 _ hj
    rw [show i / 4 * 4 = i by omega] at this
    rw [hm]; exact this
  · rw [e 1 hm (by omega), hm]; exact h.c1 _ hj
  · rw [e 2 hm (by omega), hm]; exact h.c2 _ hj
  · rw [e 3 hm (by omega), hm]; exact h.c3 _ hj

/-- A row of the call's own that begins with n pixels. -/
def Row (w : World) (a : Addr) (n : Nat) (P : Nat → Nat → Int) : Prop :=
  a = ⟨a.block, 0, none⟩ ∧ ∃ c : Array Value, w.heap[a.block]? = some (.cells c 35 (0, 0)) ∧ n * 4 ≤ c.size ∧ ∀ i, i < n * 4 → c[i]? = some (.int .i64 (P (i / 4) (i % 4)))
theorem Row.add (h : Row w a n P) (k : Nat) : a.add k = ⟨a.block, k, none⟩ := by
  rw [h.1]; exact add0 _ _
theorem Row.lt (h : Row w a n P) : a.block < w.heap.size := by
  obtain ⟨_, c, hb, _⟩ := h
  exact (Array.getElem?_eq_some_iff.1 hb).1
theorem Row.cell (h : Row w a n P) {i : Nat} (hi : i < n * 4) : w.cell? ⟨a.block, i, none⟩ = some (.int .i64 (P (i / 4) (i % 4))) := by
  obtain ⟨_, c, hb, _, hc⟩ := h
  simp [World.cell?, hb, hc i hi]
theorem Row.pic (h : Row w a n P) : Pic w a n P := by
  refine ⟨fun j hj => ?_, fun j hj => ?_, fun j hj => ?_, fun j hj => ?_⟩ <;> rw [h.add]
  · rw [h.cell (by omega), show j * 4 / 4 = j by omega, show j * 4 % 4 = 0 by omega]
  · show w.cell? ⟨a.block, j * 4 + 1, none⟩ = _
    rw [h.cell (by omega), show (j * 4 + 1) / 4 = j by omega, show (j * 4 + 1) % 4 = 1 by omega]
  · show w.cell? ⟨a.block, j * 4 + 2, none⟩ = _
    rw [h.cell (by omega), show (j * 4 + 2) / 4 = j by omega, show (j * 4 + 2) % 4 = 2 by omega]
  · show w.cell? ⟨a.block, j * 4 + 3, none⟩ = _
    rw [h.cell (by omega), show (j * 4 + 3) / 4 = j by omega, show (j * 4 + 3) % 4 = 3 by omega]
theorem Row.frozen (h : Row w a n P) (i : Nat) : w.frozen? ⟨a.block, i, none⟩ = false := by
  obtain ⟨_, c, hb, _⟩ := h
  simp [World.frozen?, hb]
theorem Row.frozen4 (h : Row w a n P) (k : Nat) : w.frozen? (a.add (k * 4)) = false ∧ w.frozen? ⟨(a.add (k * 4)).block, (a.add (k * 4)).off + 1, none⟩ = false ∧
    w.frozen? ⟨(a.add (k * 4)).block, (a.add (k * 4)).off + 2, none⟩ = false ∧ w.frozen? ⟨(a.add (k * 4)).block, (a.add (k * 4)).off + 3, none⟩ = false := by
  rw [h.add]
  exact ⟨h.frozen _, h.frozen _, h.frozen _, h.frozen _⟩
theorem Row.of_block (h : Row w a n P) (e : w'.heap[a.block]? = w.heap[a.block]?) : Row w' a n P := by
  obtain ⟨h0, c, hb, hn, hc⟩ := h
  exact ⟨h0, c, e.trans hb, hn, hc⟩
theorem Row.mono (h : Row w a n P) (hb : Below w.heap.size w w') : Row w' a n P := h.of_block (hb.block _ h.lt)
theorem Row.congr (h : Row w a n P) (e : ∀ j k, j < n → k < 4 → P j k = Q j k) : Row w a n Q := by
  obtain ⟨h0, c, hb, hn, hc⟩ := h
  exact ⟨h0, c, hb, hn, fun i hi => by rw [hc i hi, e _ _ (by omega) (by omega)]⟩
theorem Row.set1 (h : Row w a n P) (k r : Nat) (hr : r < 4) (v : Int) : Row (w.setCell ⟨a.block, k * 4 + r, none⟩ (.int .i64 v)) a n (fun j q => if j = k ∧ q = r then v else P j q) := by
  obtain ⟨h0, c, hb, hn, hc⟩ := h
  refine ⟨h0, c.setIfInBounds (k * 4 + r) (.int .i64 v), ?_, by simpa using hn, fun i hi => ?_⟩
  · simp [World.setCell, Array.getElem?_modify, hb]
  · rw [Array.getElem?_setIfInBounds]
    by_cases e : k * 4 + r = i
    · rw [if_pos e, if_pos (by omega)]
      have h1 : i / 4 = k ∧ i % 4 = r := ⟨by omega, by omega⟩
      simp only [h1, and_self, if_true]
    · rw [if_neg e]
      have h1 : ¬ (i / 4 = k ∧ i % 4 = r) := fun h => e (by omega)
      simp only [h1, if_false]
      exact hc i hi
/-- A pixel written. -/
theorem Row.set4 (h : Row w a n P) (k : Nat) (x0 x1 x2 x3 : Int) :
    Row ((((w.setCell (a.add (k * 4)) (.int .i64 x0)).setCell ⟨(a.add (k * 4)).block, (a.add (k * 4)).off + 1, none⟩ (.int .i64 x1)).setCell ⟨(a.add (k * 4)).block, (a.add (k * 4)).off + 2, none⟩ (.int .i64 x2)).setCell ⟨(a.add (k * 4)).block, (a.add (k * 4)).off + 3, none⟩ (.int .i64 x3))
      a n (fun j q => if j = k then (match q with | 0 => x0 | 1 => x1 | 2 => x2 | _ => x3) else P j q) := by
  rw [h.add]
  refine ((((h.set1 k 0 (by omega) x0).set1 k 1 (by omega) x1).set1 k 2 (by omega) x2).set1 k 3 (by omega) x3).congr fun j q _ hq => ?_
  by_cases e : j = k
  · subst e
    rcases q with _ | _ | _ | _ | q <;> first | omega | simp
  · simp [e]

/-- What the call owns as a row. -/
theorem owns_row {base g cap : Nat} (h : w.ownsRow base 35 4 (.slice (some ⟨g, 0, none⟩) n cap) n (cellsP P n)) : Row w ⟨g, 0, none⟩ n P ∧ base ≤ g := by
  rcases h.2 with ⟨h', _⟩ | ⟨g', cap', cur, h', hbg, hg, hc1, _, hcs, htake⟩
  · simp at h'
  · simp only [Value.slice.injEq, Option.some.injEq, Addr.mk.injEq, and_true, true_and] at h'
    obtain ⟨rfl, rfl⟩ := h'
    refine ⟨⟨rfl, cur, hg, by rw [hcs]; exact Nat.mul_le_mul_right _ hc1, fun i hi => ?_⟩, hbg⟩
    have : (cur.toList.take (n * 4))[i]? = some (.int .i64 (P (i / 4) (i % 4))) := by rw [htake]; exact cellsP_get hi
    rw [List.getElem?_take, if_pos hi] at this
    simpa using this

/-- The slice (ao, n, c) is a picture's, in a row of the call's own from base on. -/
def Own (base : Nat) (w : World) (ao : Option Addr) (n c : Nat) (P : Nat → Nat → Int) : Prop := (ao = none ∧ n = 0 ∧ c = 0) ∨ ∃ a, ao = some a ∧ Row w a n P ∧ base ≤ a.block
theorem Own.img {base : Nat} (h : Own base w ao n c P) : Img w ao n c P := by
  rcases h with h | ⟨a, e, h, _⟩
  · exact .inl h
  · exact .inr ⟨a, e, h.pic⟩
theorem owns_own {base : Nat} {v : Value} (h : w.ownsRow base 35 4 v n (cellsP P n)) : ∃ ao c, v = .slice ao n c ∧ Own base w ao n c P := by
  rcases h.2 with ⟨rfl, rfl⟩ | ⟨g, cap, cur, rfl, hrest⟩
  · exact ⟨none, 0, rfl, .inl ⟨rfl, rfl, rfl⟩⟩
  · obtain ⟨h1, h2⟩ := owns_row h
    exact ⟨_, cap, rfl, .inr ⟨_, rfl, h1, h2⟩⟩
theorem Own.mono {base : Nat} (h : Own base w ao n c P) (hb : Below w.heap.size w w') : Own base w' ao n c P := by
  rcases h with h | ⟨a, e, h, h'⟩
  · exact .inl h
  · exact .inr ⟨a, e, h.mono hb, h'⟩
end

/-- A picture copied by append onto nil. -/
theorem run_append_img {P : Program} (w : World) (t ty : TypeId) (i : TypeInfo) (z : Value) (ht : P.underlying t = some (.slice 35)) (hi : P.info? 35 = some i) (hz : i.zero = some z)
    (hsize : i.size = 4) (hby : i.bytes = 32) (hzs : z.cells.size = 4) (ao : Option Addr) (n c : Nat) (Q : Nat → Nat → Int) (him : Img w ao n c Q) (hn : n ≤ 65536) :
    ∃ ao' c' w', (Builtin.append_ #[t, t] ty #[.slice none 0 0, .slice ao n c]).run P w = .ok (.slice ao' n c') w' ∧ Own w.heap.size w' ao' n c' Q ∧ Below w.heap.size w w' := by
  have hown := World.ownsRow_nil w w.heap.size 35 4
  rcases him with ⟨rfl, rfl, rfl⟩ | ⟨a, rfl, hp⟩
  · exact ⟨none, 0, w, run_append_owned_none w w.heap.size t ty 35 i 4 ht hi _ 0 [] hown, .inl ⟨rfl, rfl, rfl⟩, Below.refl _ _⟩
  · obtain ⟨v', w', hr, h2, h3, _, _⟩ := run_append_own_at (P := P) w w.heap.size t ty 35 i z 4 32 ht hi hz hsize hby hzs (by omega) _ 0 [] hown a n c (cellsP Q n) (cellsP_len Q n) hp.flat (cellsP_one Q n) (by unfold maxLen; omega) (by omega) (Nat.le_refl _)
    rw [Nat.zero_add, List.nil_append] at h2
    obtain ⟨ao', c', rfl, h5⟩ := owns_own h2
    exact ⟨ao', c', w', hr, h5, (Below.refl _ _).grown h3 (Nat.le_refl _) (fun k h => by cases h)⟩
theorem step_append_img {P : Program} (w : World) {ops : Array Oper} {o : Oper} {a : Act} {K : Act → World → Prop} {Q : Exit → Act → World → Prop} {E : Prop} (hgd : o.guard = none) (s x : Operand) (t : TypeId)
    (ho : o.op = .call { callee := .builtin .append, args := #[s, x], argTypes := #[t, t] }) (i : TypeInfo) (z : Value) (ht : P.underlying t = some (.slice 35)) (hi : P.info? 35 = some i) (hz : i.zero = some z)
    (hsize : i.size = 4) (hby : i.bytes = 32) (hzs : z.cells.size = 4) (hs : a.eval s = .slice none 0 0) (ao : Option Addr) (n c : Nat) (F : Nat → Nat → Int) (hx : a.eval x = .slice ao n c) (him : Img w ao n c F) (hn : n ≤ 65536)
    (h : ∀ ao' c' w', Own w.heap.size w' ao' n c' F → Below w.heap.size w w' → K (a.put o.dst (.slice ao' n c')) w') :
    if Region.wanted o (yielded ops a.tmps) = true then Oper.wp P o a w K Q else E := by
  have hw : Region.wanted o (yielded ops a.tmps) = true := by simp [Region.wanted, hgd]
  rw [if_pos hw]
  obtain ⟨ao', c', w', hr, h2, h3⟩ := run_append_img (P := P) w t o.type i z ht hi hz hsize hby hzs ao n c F him hn
  unfold Oper.wp execOp
  simp only [ho, resolve, invoke, builtin, Sem.run_bind, Sem.run_pure, Result.andThen_ok, List.map_toArray, List.map_cons, List.map_nil, hs, hx, hr]
  exact h ao' c' w' h2 h3
end Go.Proofs.YthhanoaefdahkaaGreatDoor
