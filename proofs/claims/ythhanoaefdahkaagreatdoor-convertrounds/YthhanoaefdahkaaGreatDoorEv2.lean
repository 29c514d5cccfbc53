/- Abstract memory of an abstract evaluator, its relation to the machine's memory, and how each kind of change keeps it. -/
import Derived.Laws.AppendOwn
import Derived.Laws.MakeOwn
import Derived.Laws.StructEq
import Derived.Test.YthhanoaefdahkaaGreatDoorEv1
namespace Go.Ev

inductive Blk where
  | cells (l : List AV) (grow : Option Nat)
  | ro (l : List AV)
  | mapb (es : List (AV × AV × Nat)) (clock : Nat)

structure Hp where
  t : Tr Blk
  next : Nat

def Hp.new (H : Hp) (k : Blk) : Hp := ⟨H.t.put H.next (some k), H.next + 1⟩
def Hp.upd (H : Hp) (b : Nat) (k : Blk) : Hp := ⟨H.t.put b (some k), H.next⟩
def Hp.kill (H : Hp) (b : Nat) : Hp := ⟨H.t.put b none, H.next⟩

def CellsAt (ρ : RM) (l : List AV) (cc : Array Value) (sh : Nat) : Prop :=
  ∀ (i : Nat) (x : AV), l[i]? = some x → ∃ v, cc[sh + i]? = some v ∧ VR ρ x v

def MapR (ρ : RM) : List (AV × AV × Nat) → List MapEntry → Prop
  | [], [] => True
  | (k, v, n) :: es, e :: fs => VR ρ k e.key ∧ VR ρ v e.val ∧ e.born = n ∧ MapR ρ es fs
  | _, _ => False

def Open (cc : Array Value) (fr : Nat × Nat) : Prop := ∀ i, i < cc.size → ¬ (fr.1 ≤ i ∧ i < fr.2)

/-- A block that is only read. -/
def Rd (ρ : RM) (bi : BI) (w : World) (l : List AV) : Prop := ∀ (i : Nat) (x : AV), l[i]? = some x → ∃ v, w.cell? ⟨bi.r, bi.sh + i, none⟩ = some v ∧ VR ρ x v
def Blk.wr : Blk → Bool
  | .ro _ => false
  | _ => true
def Blk.void : Blk → Bool
  | .ro [] => true
  | _ => false

/-- What the mark of a block says: 2 (s + 4096 e): a row of elements of s cells, of the type e, that may grow; 2 t + 1: one variable of type t. -/
def Gr (g : Option Nat) (bi : BI) (ty : TypeId) (n L : Nat) : Prop :=
  (∀ s e : Nat, s < 4096 → g = some (2 * (s + 4096 * e)) → bi.es = s ∧ 0 < s ∧ bi.sh + bi.N = n ∧ ty = e) ∧ (∀ t : Nat, g = some (2 * t + 1) → ty = t ∧ n = L ∧ bi.sh = 0)
theorem Gr.none (bi : BI) (ty : TypeId) (n L : Nat) : Gr none bi ty n L := by
  constructor
  · intro s e _ h; cases h
  · intro t h; cases h
theorem Gr.row {bi : BI} {s n L : Nat} {e : Nat} (hs : s < 4096) (h : bi.es = s ∧ 0 < s ∧ bi.sh + bi.N = n) : Gr (some (2 * (s + 4096 * e))) bi e n L := by
  constructor
  · intro k e' hk q
    have q := Option.some.inj q
    have h1 : k = s := by omega
    have h2 : e' = e := by omega
    subst h1; subst h2; exact ⟨h.1, h.2.1, h.2.2, rfl⟩
  · intro t q
    have q := Option.some.inj q
    omega
theorem Gr.var {r N es : Nat} {t : Nat} {n L : Nat} (h : n = L) : Gr (some (2 * t + 1)) ⟨r, 0, N, es⟩ t n L := by
  constructor
  · intro k e' _ e
    have e := Option.some.inj e
    omega
  · intro t' e
    have e := Option.some.inj e
    have : t' = t := by omega
    subst this; exact ⟨rfl, h, rfl⟩

def BlkR (ρ : RM) (bi : BI) (w : World) : Blk → Prop
  | .ro l => Rd ρ bi w l
  | .cells l g => ∃ cc ty fr, w.heap[bi.r]? = some (.cells cc ty fr) ∧ Open cc fr ∧ CellsAt ρ l cc bi.sh ∧ Gr g bi ty cc.size l.length
  | .mapb es clock => ∃ fs, w.heap[bi.r]? = some (.map fs clock) ∧ MapR ρ es fs.toList

structure HR (ρ : RM) (H : Hp) (w : World) : Prop where
  blk : ∀ b k, H.t.get b = some k → ∃ bi, ρ b = some bi ∧ BlkR ρ bi w k
  fresh : ∀ b, H.next ≤ b → ρ b = none
  inj : ∀ b b' bi bi' k k', H.t.get b = some k → k.wr = true → H.t.get b' = some k' → k'.void = false → ρ b = some bi → ρ b' = some bi' → bi.r = bi'.r → b = b'
  gl : ∀ b, b < 64 → ρ b = some ⟨b, 0, 0, 0⟩

structure Ext (ρ : RM) (H : Hp) (w : World) (ρ' : RM) (H' : Hp) (w' : World) : Prop where
  le : RM.le ρ ρ'
  os : w'.os = w.os
  tape : w'.tape = w.tape
  output : w'.output = w.output
  size : w.heap.size ≤ w'.heap.size
  same : ∀ r, r < w.heap.size → (∀ b k bi, H.t.get b = some k → k.wr = true → ρ b = some bi → bi.r ≠ r) → w'.heap[r]? = w.heap[r]?
  img : ∀ b k bi, H'.t.get b = some k → k.void = false → ρ' b = some bi → bi.r < w.heap.size → ∃ b0 k0 bi0, H.t.get b0 = some k0 ∧ k0.void = false ∧ (k.wr = true → k0.wr = true) ∧ ρ b0 = some bi0 ∧ bi0.r = bi.r

theorem Blk.wr_void {k : Blk} (h : k.wr = true) : k.void = false := by
  cases k with
  | ro l => simp [Blk.wr] at h
  | _ => rfl

theorem Ext.refl (ρ : RM) (H : Hp) (w : World) : Ext ρ H w ρ H w :=
  ⟨RM.le.refl ρ, rfl, rfl, rfl, Nat.le_refl _, fun _ _ _ => rfl, fun b k bi h hk hb _ => ⟨b, k, bi, h, hk, id, hb, rfl⟩⟩

theorem Ext.trans {ρ₁ ρ₂ ρ₃ : RM} {H₁ H₂ H₃ : Hp} {w₁ w₂ w₃ : World} (h : Ext ρ₁ H₁ w₁ ρ₂ H₂ w₂) (k : Ext ρ₂ H₂ w₂ ρ₃ H₃ w₃) :
    Ext ρ₁ H₁ w₁ ρ₃ H₃ w₃ where
  le := h.le.trans k.le
  os := k.os.trans h.os
  tape := k.tape.trans h.tape
  output := k.output.trans h.output
  size := Nat.le_trans h.size k.size
  same r hr hn := by
    rw [k.same r (Nat.lt_of_lt_of_le hr h.size) (fun b q bi hb hq hbi e => ?_), h.same r hr hn]
    obtain ⟨b0, q0, bi0, h0, _, h1, h2, h3⟩ := h.img b q bi hb (Blk.wr_void hq) hbi (by rw [e]; exact hr)
    exact hn b0 q0 bi0 h0 (h1 hq) h2 (h3.trans e)
  img b q bi hb hq hbi hr := by
    obtain ⟨b1, q1, bi1, h0, hv, h1, h2, h3⟩ := k.img b q bi hb hq hbi (Nat.lt_of_lt_of_le hr h.size)
    obtain ⟨b0, q0, bi0, g0, gv, g1, g2, g3⟩ := h.img b1 q1 bi1 h0 hv h2 (by rw [h3]; exact hr)
    exact ⟨b0, q0, bi0, g0, gv, fun hw => g1 (h1 hw), g2, g3.trans h3⟩

theorem CellsAt.mono {ρ ρ' : RM} (hle : RM.le ρ ρ') {l cc sh} (h : CellsAt ρ l cc sh) : CellsAt ρ' l cc sh :=
  fun i x hx => let ⟨v, hv, hr⟩ := h i x hx; ⟨v, hv, hr.mono hle⟩
theorem MapR.mono {ρ ρ' : RM} (hle : RM.le ρ ρ') : ∀ {es fs}, MapR ρ es fs → MapR ρ' es fs
  | [], [], _ => trivial
  | (_, _, _) :: _, _ :: _, ⟨h1, h2, h3, h4⟩ => ⟨h1.mono hle, h2.mono hle, h3, MapR.mono hle h4⟩
  | [], _ :: _, h => h.elim
  | _ :: _, [], h => by simp [MapR] at h

theorem BlkR.mono {ρ ρ' : RM} (hle : RM.le ρ ρ') {bi : BI} {w w' : World} (hw : w'.heap[bi.r]? = w.heap[bi.r]?) :
    ∀ {k}, BlkR ρ bi w k → BlkR ρ' bi w' k
  | .cells _ _, ⟨cc, ty, fr, h1, h2, h3, h4⟩ => ⟨cc, ty, fr, hw.trans h1, h2, h3.mono hle, h4⟩
  | .ro _, h => fun i x hx => by
    obtain ⟨v, hv, hr⟩ := h i x hx
    refine ⟨v, ?_, hr.mono hle⟩
    rw [← hv]
    exact World.cell?_of_block hw
  | .mapb _ _, ⟨fs, h1, h2⟩ => ⟨fs, hw.trans h1, h2.mono hle⟩
theorem BlkR.void {ρ ρ' : RM} {bi : BI} {w w' : World} : ∀ {k}, k.void = true → BlkR ρ bi w k → BlkR ρ' bi w' k
  | .ro [], _, _ => fun i x hx => by simp at hx
  | .ro (_ :: _), h, _ => by simp [Blk.void] at h
  | .cells _ _, h, _ => by simp [Blk.void] at h
  | .mapb _ _, h, _ => by simp [Blk.void] at h

theorem BlkR.lt {ρ : RM} {bi : BI} {w : World} : ∀ {k}, k.void = false → BlkR ρ bi w k → bi.r < w.heap.size
  | .cells _ _, _, ⟨_, _, _, h1, _⟩ => (Array.getElem?_eq_some_iff.1 h1).1
  | .ro [], h, _ => by simp [Blk.void] at h
  | .ro (x :: _), _, h => by
    obtain ⟨v, hv, _⟩ := h 0 x rfl
    exact World.block_lt_of_cell? w _ hv
  | .mapb _ _, _, ⟨_, h1, _⟩ => (Array.getElem?_eq_some_iff.1 h1).1

/-- A block that is kept where the real block is, or where nothing is asked of it. -/
theorem BlkR.keepAt {ρ ρ' : RM} (hle : RM.le ρ ρ') {bi : BI} {w w' : World} {k : Blk} (h : BlkR ρ bi w k) (hw : k.void = false → w'.heap[bi.r]? = w.heap[bi.r]?) : BlkR ρ' bi w' k := by
  cases hv : k.void with
  | true => exact h.void hv
  | false => exact h.mono hle (hw hv)

/-- One more block on both sides. -/
theorem HR.new {ρ : RM} {H : Hp} {w w' : World} (h : HR ρ H w) (o : Obj) (k : Blk) (bi : BI) (hr : bi.r = w.heap.size)
    (hw : w'.heap = w.heap.push o) (hos : w'.os = w.os) (htape : w'.tape = w.tape) (hout : w'.output = w.output)
    (hk : ∀ ρ', RM.le ρ ρ' → ρ' H.next = some bi → BlkR ρ' bi w' k) :
    ∃ ρ', ρ' H.next = some bi ∧ HR ρ' (H.new k) w' ∧ Ext ρ H w ρ' (H.new k) w' := by
  have hle : RM.le ρ (fun b => if b = H.next then some bi else ρ b) := fun b bj hb => by
    by_cases e : b = H.next
    · subst e; rw [h.fresh _ (Nat.le_refl _)] at hb; cases hb
    · show (if b = H.next then some bi else ρ b) = some bj
      rw [if_neg e]; exact hb
  have hold : ∀ r, r < w.heap.size → w'.heap[r]? = w.heap[r]? := fun r hr' => by
    rw [hw, Array.getElem?_push, if_neg (by omega)]
  have hlt : ∀ b q bj, H.t.get b = some q → q.void = false → ρ b = some bj → bj.r < w.heap.size := fun b q bj hb hq hj => by
    obtain ⟨bk, g1, g2⟩ := h.blk b q hb
    rw [hj] at g1; cases g1
    exact g2.lt hq
  refine ⟨fun b => if b = H.next then some bi else ρ b, by simp, ⟨?_, ?_, ?_, fun b hb => hle _ _ (h.gl b hb)⟩, ?_⟩
  · intro b k' hb
    simp only [Hp.new, Tr.get_put] at hb
    by_cases e : b = H.next
    · subst e
      simp only [if_true, Option.some.injEq] at hb
      subst hb
      exact ⟨bi, by simp, hk _ hle (by simp)⟩
    · rw [if_neg e] at hb
      obtain ⟨bj, h1, h2⟩ := h.blk b k' hb
      exact ⟨bj, by simp [e, h1], h2.keepAt hle fun hv => hold _ (h2.lt hv)⟩
  · intro b hb
    have : H.next + 1 ≤ b := hb
    have e : b ≠ H.next := by omega
    show (if b = H.next then some bi else ρ b) = none
    rw [if_neg e]; exact h.fresh b (by omega)
  · intro b b' bj bj' q q' hb hq hb' hq' hj hj' e
    simp only [Hp.new, Tr.get_put] at hb hb'
    by_cases e1 : b = H.next <;> by_cases e2 : b' = H.next
    · rw [e1, e2]
    · simp only [e1, if_true, Option.some.injEq] at hj
      rw [if_neg e2] at hb' hj'
      have := hlt b' q' bj' hb' hq' hj'
      subst hj; omega
    · simp only [e2, if_true, Option.some.injEq] at hj'
      rw [if_neg e1] at hb hj
      have := hlt b q bj hb (Blk.wr_void hq) hj
      subst hj'; omega
    · rw [if_neg e1] at hb hj
      rw [if_neg e2] at hb' hj'
      exact h.inj b b' bj bj' q q' hb hq hb' hq' hj hj' e
  · refine ⟨hle, hos, htape, hout, by rw [hw]; simp, fun r hr' _ => hold r hr', ?_⟩
    intro b q bj hb hq hj hlt
    simp only [Hp.new, Tr.get_put] at hb
    by_cases e : b = H.next
    · simp only [e, if_true, Option.some.injEq] at hj
      subst hj; omega
    · rw [if_neg e] at hb hj
      exact ⟨b, q, bj, hb, hq, id, hj, rfl⟩

/-- A block that is there is replaced by another content in the same real block. -/
theorem HR.upd {ρ : RM} {H : Hp} {w w' : World} (h : HR ρ H w) {b : Nat} {bi : BI} {k k0 : Blk} (o : Obj) (hb : H.t.get b = some k0) (hk0 : k0.wr = true) (hbi : ρ b = some bi)
    (hw : w'.heap = w.heap.setIfInBounds bi.r o) (hos : w'.os = w.os) (htape : w'.tape = w.tape) (hout : w'.output = w.output)
    (hk : BlkR ρ bi w' k) (hkw : k.wr = true) : HR ρ (H.upd b k) w' ∧ Ext ρ H w ρ (H.upd b k) w' := by
  have hold : ∀ r, r ≠ bi.r → w'.heap[r]? = w.heap[r]? := fun r hr => by
    rw [hw, Array.getElem?_setIfInBounds_ne (Ne.symm hr)]
  have old : ∀ c q, (H.upd b k).t.get c = some q → (c = b ∧ q = k) ∨ (c ≠ b ∧ H.t.get c = some q) := fun c q hc => by
    simp only [Hp.upd, Tr.get_put] at hc
    by_cases e : c = b
    · rw [if_pos e] at hc; exact .inl ⟨e, (Option.some.inj hc).symm⟩
    · rw [if_neg e] at hc; exact .inr ⟨e, hc⟩
  refine ⟨⟨?_, h.fresh, ?_, h.gl⟩, ?_⟩
  · intro c k' hc
    rcases old c k' hc with ⟨rfl, rfl⟩ | ⟨e, hc'⟩
    · exact ⟨bi, hbi, hk⟩
    · obtain ⟨bj, h1, h2⟩ := h.blk c k' hc'
      refine ⟨bj, h1, h2.keepAt (RM.le.refl ρ) fun hv => hold _ fun er => e ?_⟩
      exact (h.inj b c bi bj k0 k' hb hk0 hc' hv hbi h1 er.symm).symm
  · intro c c' bj bj' q q' hc hq hc' hq' hj hj' er
    have wr : ∃ p, H.t.get c = some p ∧ p.wr = true := by
      rcases old c q hc with ⟨rfl, rfl⟩ | ⟨e, hc2⟩
      · exact ⟨k0, hb, hk0⟩
      · exact ⟨q, hc2, hq⟩
    have wv : ∃ p, H.t.get c' = some p ∧ p.void = false := by
      rcases old c' q' hc' with ⟨rfl, rfl⟩ | ⟨e, hc2⟩
      · exact ⟨k0, hb, Blk.wr_void hk0⟩
      · exact ⟨q', hc2, hq'⟩
    obtain ⟨p, p1, p2⟩ := wr
    obtain ⟨p', p1', p2'⟩ := wv
    exact h.inj c c' bj bj' p p' p1 p2 p1' p2' hj hj' er
  · refine ⟨RM.le.refl ρ, hos, htape, hout, by rw [hw]; simp, fun r _ hn => hold r fun e => hn b k0 bi hb hk0 hbi e.symm, ?_⟩
    intro c q bj hc hq hj hlt
    rcases old c q hc with ⟨rfl, rfl⟩ | ⟨e, hc2⟩
    · exact ⟨c, k0, bj, hb, Blk.wr_void hk0, fun _ => hk0, hj, rfl⟩
    · exact ⟨c, q, bj, hc2, hq, id, hj, rfl⟩

theorem HR.upd0 {ρ : RM} {H : Hp} {w w' : World} (h : HR ρ H w) {b : Nat} {bi : BI} {k k0 : Blk} (o : Obj) (hb : H.t.get b = some k0) (hk0 : k0.wr = true) (hbi : ρ b = some bi)
    (hw : w'.heap = w.heap.setIfInBounds bi.r o) (hos : w'.os = w.os) (htape : w'.tape = w.tape) (hout : w'.output = w.output)
    (hk : BlkR ρ bi w' k) : HR ρ (H.upd b k) w' ∧ Ext ρ H w ρ (H.upd b k) w' := by
  have hold : ∀ r, r ≠ bi.r → w'.heap[r]? = w.heap[r]? := fun r hr => by
    rw [hw, Array.getElem?_setIfInBounds_ne (Ne.symm hr)]
  have old : ∀ c q, (H.upd b k).t.get c = some q → (c = b ∧ q = k) ∨ (c ≠ b ∧ H.t.get c = some q) := fun c q hc => by
    simp only [Hp.upd, Tr.get_put] at hc
    by_cases e : c = b
    · rw [if_pos e] at hc; exact .inl ⟨e, (Option.some.inj hc).symm⟩
    · rw [if_neg e] at hc; exact .inr ⟨e, hc⟩
  refine ⟨⟨?_, h.fresh, ?_, h.gl⟩, ?_⟩
  · intro c k' hc
    rcases old c k' hc with ⟨rfl, rfl⟩ | ⟨e, hc'⟩
    · exact ⟨bi, hbi, hk⟩
    · obtain ⟨bj, h1, h2⟩ := h.blk c k' hc'
      refine ⟨bj, h1, h2.keepAt (RM.le.refl ρ) fun hv => hold _ fun er => e ?_⟩
      exact (h.inj b c bi bj k0 k' hb hk0 hc' hv hbi h1 er.symm).symm
  · intro c c' bj bj' q q' hc hq hc' hq' hj hj' er
    have wr : ∃ p, H.t.get c = some p ∧ p.wr = true := by
      rcases old c q hc with ⟨rfl, rfl⟩ | ⟨e, hc2⟩
      · exact ⟨k0, hb, hk0⟩
      · exact ⟨q, hc2, hq⟩
    have wv : ∃ p, H.t.get c' = some p ∧ p.void = false := by
      rcases old c' q' hc' with ⟨rfl, rfl⟩ | ⟨e, hc2⟩
      · exact ⟨k0, hb, Blk.wr_void hk0⟩
      · exact ⟨q', hc2, hq'⟩
    obtain ⟨p, p1, p2⟩ := wr
    obtain ⟨p', p1', p2'⟩ := wv
    exact h.inj c c' bj bj' p p' p1 p2 p1' p2' hj hj' er
  · refine ⟨RM.le.refl ρ, hos, htape, hout, by rw [hw]; simp, fun r _ hn => hold r fun e => hn b k0 bi hb hk0 hbi e.symm, ?_⟩
    intro c q bj hc hq hj hlt
    rcases old c q hc with ⟨rfl, rfl⟩ | ⟨e, hc2⟩
    · exact ⟨c, k0, bj, hb, Blk.wr_void hk0, fun _ => hk0, hj, rfl⟩
    · exact ⟨c, q, bj, hc2, hq, id, hj, rfl⟩

/-- Nothing changed but what no relation looks at. -/
theorem HR.keep {ρ : RM} {H : Hp} {w w' : World} (h : HR ρ H w) (hw : w'.heap = w.heap) : HR ρ H w' :=
  ⟨fun b k hb => let ⟨bi, h1, h2⟩ := h.blk b k hb; ⟨bi, h1, h2.mono (RM.le.refl ρ) (by rw [hw])⟩, h.fresh, h.inj, h.gl⟩
theorem Ext.keep {ρ : RM} {H : Hp} {w w' : World} (hw : w'.heap = w.heap) (hos : w'.os = w.os) (htape : w'.tape = w.tape) (hout : w'.output = w.output) :
    Ext ρ H w ρ H w' :=
  ⟨RM.le.refl ρ, hos, htape, hout, by rw [hw]; exact Nat.le_refl _, fun _ _ _ => by rw [hw], fun b k bi h hk hb _ => ⟨b, k, bi, h, hk, id, hb, rfl⟩⟩

/-- A block is given up. -/
theorem HR.kill {ρ : RM} {H : Hp} {w : World} (h : HR ρ H w) (b : Nat) : HR ρ (H.kill b) w ∧ Ext ρ H w ρ (H.kill b) w := by
  have old : ∀ c q, (H.kill b).t.get c = some q → H.t.get c = some q := fun c q hc => by
    simp only [Hp.kill, Tr.get_put] at hc
    by_cases e : c = b
    · rw [if_pos e] at hc; cases hc
    · rw [if_neg e] at hc; exact hc
  refine ⟨⟨fun c k hc => h.blk c k (old c k hc), h.fresh, ?_, h.gl⟩, ?_⟩
  · exact fun c c' bj bj' q q' hc hq hc' hq' hj hj' er => h.inj c c' bj bj' q q' (old c q hc) hq (old c' q' hc') hq' hj hj' er
  · exact ⟨RM.le.refl ρ, rfl, rfl, rfl, Nat.le_refl _, fun _ _ _ => rfl, fun c q bj hc hq hj _ => ⟨c, q, bj, old c q hc, hq, id, hj, rfl⟩⟩

/-- A real block that no name stands for is given the next name. -/
theorem HR.adopt {ρ : RM} {H : Hp} {w : World} (h : HR ρ H w) (k : Blk) (bi : BI) (hkw : k.wr = true) (hn : ∀ b q bj, H.t.get b = some q → q.void = false → ρ b = some bj → bj.r ≠ bi.r)
    (hk : ∀ ρ', RM.le ρ ρ' → ρ' H.next = some bi → BlkR ρ' bi w k) :
    ∃ ρ', ρ' H.next = some bi ∧ RM.le ρ ρ' ∧ HR ρ' (H.new k) w ∧ (∀ b q bj, (H.new k).t.get b = some q → q.void = false → ρ' b = some bj → bj.r = bi.r ∨ ∃ b0 bj0, H.t.get b0 = some q ∧ ρ b0 = some bj0 ∧ bj0.r = bj.r) ∧
      ∀ {ρ₀ : RM} {H₀ : Hp} {w₀ : World}, Ext ρ₀ H₀ w₀ ρ H w → w₀.heap.size ≤ bi.r → Ext ρ₀ H₀ w₀ ρ' (H.new k) w := by
  have hle : RM.le ρ (fun b => if b = H.next then some bi else ρ b) := fun b bj hb => by
    by_cases e : b = H.next
    · subst e; rw [h.fresh _ (Nat.le_refl _)] at hb; cases hb
    · show (if b = H.next then some bi else ρ b) = some bj
      rw [if_neg e]; exact hb
  have old : ∀ c q, (H.new k).t.get c = some q → (c = H.next ∧ q = k) ∨ (c ≠ H.next ∧ H.t.get c = some q) := fun c q hc => by
    simp only [Hp.new, Tr.get_put] at hc
    by_cases e : c = H.next
    · rw [if_pos e] at hc; exact .inl ⟨e, (Option.some.inj hc).symm⟩
    · rw [if_neg e] at hc; exact .inr ⟨e, hc⟩
  refine ⟨fun b => if b = H.next then some bi else ρ b, by simp, hle, ⟨?_, ?_, ?_, fun b hb => hle _ _ (h.gl b hb)⟩, ?_, ?_⟩
  · intro c q hc
    rcases old c q hc with ⟨rfl, rfl⟩ | ⟨e, hc'⟩
    · exact ⟨bi, by simp, hk _ hle (by simp)⟩
    · obtain ⟨bj, h1, h2⟩ := h.blk c q hc'
      exact ⟨bj, by simp [e, h1], h2.mono hle rfl⟩
  · intro c hc
    have : H.next + 1 ≤ c := hc
    have e : c ≠ H.next := by omega
    show (if c = H.next then some bi else ρ c) = none
    rw [if_neg e]; exact h.fresh c (by omega)
  · intro c c' bj bj' q q' hc hq hc' hq' hj hj' er
    rcases old c q hc with ⟨e1, rfl⟩ | ⟨e1, hc1⟩ <;> rcases old c' q' hc' with ⟨e2, rfl⟩ | ⟨e2, hc2⟩
    · rw [e1, e2]
    · exfalso
      simp only [e1, if_true, Option.some.injEq] at hj
      rw [if_neg e2] at hj'
      exact hn c' q' bj' hc2 hq' hj' (by rw [← er, ← hj])
    · exfalso
      simp only [e2, if_true, Option.some.injEq] at hj'
      rw [if_neg e1] at hj
      exact hn c q bj hc1 (Blk.wr_void hq) hj (by rw [er, ← hj'])
    · rw [if_neg e1] at hj
      rw [if_neg e2] at hj'
      exact h.inj c c' bj bj' q q' hc1 hq hc2 hq' hj hj' er
  · intro c q bj hc _ hj
    rcases old c q hc with ⟨e1, rfl⟩ | ⟨e1, hc1⟩
    · simp only [e1, if_true, Option.some.injEq] at hj
      exact .inl (by rw [hj])
    · simp only [if_neg e1] at hj
      exact .inr ⟨c, bj, hc1, hj, rfl⟩
  · intro ρ₀ H₀ w₀ hX hge
    refine ⟨hX.le.trans hle, hX.os, hX.tape, hX.output, hX.size, hX.same, ?_⟩
    intro c q bj hc hq hj hlt
    rcases old c q hc with ⟨e1, rfl⟩ | ⟨e1, hc1⟩
    · simp only [e1, if_true, Option.some.injEq] at hj
      subst hj; omega
    · rw [if_neg e1] at hj
      exact hX.img c q bj hc1 hq hj hlt

/-- A growing slice whose new elements fit: the old abstract block is given up, a new one lies in the same real block. -/
theorem HR.grow {ρ : RM} {H : Hp} {w w' : World} (h : HR ρ H w) {b : Nat} {bi bn : BI} {k k0 : Blk} (o : Obj) (hb : H.t.get b = some k0) (hk0 : k0.wr = true) (hbi : ρ b = some bi) (hr : bn.r = bi.r)
    (hw : w'.heap = w.heap.setIfInBounds bi.r o) (hos : w'.os = w.os) (htape : w'.tape = w.tape) (hout : w'.output = w.output)
    (hk : ∀ ρ', RM.le ρ ρ' → BlkR ρ' bn w' k) :
    ∃ ρ', ρ' H.next = some bn ∧ HR ρ' ((H.kill b).new k) w' ∧ Ext ρ H w ρ' ((H.kill b).new k) w' := by
  have hold : ∀ r, r ≠ bi.r → w'.heap[r]? = w.heap[r]? := fun r hr => by
    rw [hw, Array.getElem?_setIfInBounds_ne (Ne.symm hr)]
  have hle : RM.le ρ (fun c => if c = H.next then some bn else ρ c) := fun c bj hc => by
    by_cases e : c = H.next
    · subst e; rw [h.fresh _ (Nat.le_refl _)] at hc; cases hc
    · show (if c = H.next then some bn else ρ c) = some bj
      rw [if_neg e]; exact hc
  have old : ∀ c q, ((H.kill b).new k).t.get c = some q → (c = H.next ∧ q = k) ∨ (c ≠ H.next ∧ c ≠ b ∧ H.t.get c = some q) := fun c q hc => by
    simp only [Hp.new, Hp.kill, Tr.get_put] at hc
    by_cases e : c = H.next
    · rw [if_pos e] at hc; exact .inl ⟨e, (Option.some.inj hc).symm⟩
    · rw [if_neg e] at hc
      by_cases e2 : c = b
      · rw [if_pos e2] at hc; cases hc
      · rw [if_neg e2] at hc; exact .inr ⟨e, e2, hc⟩
  refine ⟨fun c => if c = H.next then some bn else ρ c, by simp, ⟨?_, ?_, ?_, fun b hb => hle _ _ (h.gl b hb)⟩, ?_⟩
  · intro c k' hc
    rcases old c k' hc with ⟨rfl, rfl⟩ | ⟨e, e2, hc'⟩
    · exact ⟨bn, by simp, hk _ hle⟩
    · obtain ⟨bj, h1, h2⟩ := h.blk c k' hc'
      refine ⟨bj, by simp [e, h1], h2.keepAt hle fun hv => hold _ fun er => e2 ?_⟩
      exact (h.inj b c bi bj k0 k' hb hk0 hc' hv hbi h1 er.symm).symm
  · intro c hc
    have : H.next + 1 ≤ c := hc
    have e : c ≠ H.next := by omega
    show (if c = H.next then some bn else ρ c) = none
    rw [if_neg e]; exact h.fresh c (by omega)
  · intro c c' bj bj' q q' hc hq hc' hq' hj hj' er
    rcases old c q hc with ⟨e1, rfl⟩ | ⟨e1, e1b, hc1⟩ <;> rcases old c' q' hc' with ⟨e2, rfl⟩ | ⟨e2, e2b, hc2⟩
    · rw [e1, e2]
    · exfalso
      simp only [e1, if_true, Option.some.injEq] at hj
      rw [if_neg e2] at hj'
      exact e2b (h.inj b c' bi bj' k0 q' hb hk0 hc2 hq' hbi hj' (by rw [← er, ← hj, hr])).symm
    · exfalso
      simp only [e2, if_true, Option.some.injEq] at hj'
      rw [if_neg e1] at hj
      exact e1b (h.inj c b bj bi q k0 hc1 hq hb (Blk.wr_void hk0) hj hbi (by rw [er, ← hj', hr]))
    · rw [if_neg e1] at hj
      rw [if_neg e2] at hj'
      exact h.inj c c' bj bj' q q' hc1 hq hc2 hq' hj hj' er
  · refine ⟨hle, hos, htape, hout, by rw [hw]; simp, fun r _ hn => hold r fun e => hn b k0 bi hb hk0 hbi e.symm, ?_⟩
    intro c q bj hc hq hj hlt
    rcases old c q hc with ⟨e1, rfl⟩ | ⟨e1, e1b, hc1⟩
    · simp only [e1, if_true, Option.some.injEq] at hj
      subst hj
      exact ⟨b, k0, bi, hb, Blk.wr_void hk0, fun _ => hk0, hbi, hr.symm⟩
    · rw [if_neg e1] at hj
      exact ⟨c, q, bj, hc1, hq, id, hj, rfl⟩

/-! ### Reading and writing cells -/
def takeN {α : Type} : Nat → List α → Option (List α)
  | 0, _ => some []
  | n + 1, x :: xs => match takeN n xs with
    | some ys => some (x :: ys)
    | none => none
  | _ + 1, [] => none
theorem takeN_spec {α : Type} : ∀ {n : Nat} {l m : List α}, takeN n l = some m → m.length = n ∧ ∀ i, i < n → m[i]? = l[i]?
  | 0, _, _, h => by simp [takeN] at h; subst h; simp
  | n + 1, x :: xs, m, h => by
    simp only [takeN] at h
    split at h
    · rename_i ys hy
      simp at h; subst h
      obtain ⟨h1, h2⟩ := takeN_spec hy
      refine ⟨by simp [h1], fun i hi => ?_⟩
      cases i with
      | zero => rfl
      | succ i => simpa using h2 i (by omega)
    · cases h
  | _ + 1, [], _, h => by simp [takeN] at h

def setN {α : Type} : List α → Nat → List α → Option (List α)
  | l, _, [] => some l
  | [], _, _ :: _ => none
  | _ :: l, 0, x :: xs => match setN l 0 xs with
    | some r => some (x :: r)
    | none => none
  | y :: l, o + 1, x :: xs => match setN l o (x :: xs) with
    | some r => some (y :: r)
    | none => none
theorem setN_spec {α : Type} : ∀ {l : List α} {o : Nat} {xs r : List α}, setN l o xs = some r →
    (xs ≠ [] → o + xs.length ≤ l.length) ∧ r.length = l.length ∧ ∀ i, r[i]? = if o ≤ i ∧ i < o + xs.length then xs[i - o]? else l[i]?
  | l, o, [], r, h => by
    simp [setN] at h; subst h
    exact ⟨by simp, rfl, fun i => by rw [if_neg (by simp)]⟩
  | [], _, _ :: _, _, h => by simp [setN] at h
  | y :: l, 0, x :: xs, r, h => by
    simp only [setN] at h
    split at h
    · rename_i r' hr
      simp at h; subst h
      obtain ⟨h1, h2, h3⟩ := setN_spec hr
      have h1' : xs.length ≤ l.length := by
        cases xs with
        | nil => simp
        | cons => simpa using h1 (by simp)
      refine ⟨fun _ => by simp; omega, by simp [h2], fun i => ?_⟩
      cases i with
      | zero => simp
      | succ i =>
        have := h3 i
        simp only [List.getElem?_cons_succ, this, List.length_cons]
        by_cases hc : 0 ≤ i ∧ i < 0 + xs.length
        · rw [if_pos hc, if_pos (by omega)]; simp
        · rw [if_neg hc, if_neg (by omega)]
    · cases h
  | y :: l, o + 1, x :: xs, r, h => by
    simp only [setN] at h
    split at h
    · rename_i r' hr
      simp at h; subst h
      obtain ⟨h1, h2, h3⟩ := setN_spec hr
      refine ⟨fun _ => by have := h1 (by simp); simp at this ⊢; omega, by simp [h2], fun i => ?_⟩
      cases i with
      | zero => rw [if_neg (by omega)]; rfl
      | succ i =>
        have := h3 i
        simp only [List.getElem?_cons_succ, this]
        by_cases hc : o ≤ i ∧ i < o + (x :: xs).length
        · rw [if_pos hc, if_pos (by omega)]; congr 1; omega
        · rw [if_neg hc, if_neg (by omega)]
    · cases h

theorem addr_add (g o n : Nat) : (⟨g, o, none⟩ : Addr).add n = ⟨g, o + n, none⟩ := by
  unfold Addr.add
  split
  · rename_i h; subst h; rfl
  · rfl

theorem cell_of {w : World} {g o : Nat} {cc : Array Value} {ty : TypeId} {fr : Nat × Nat} (h : w.heap[g]? = some (.cells cc ty fr)) : w.cell? ⟨g, o, none⟩ = cc[o]? := by
  simp [World.cell?, h]

theorem BlkR.rd {ρ : RM} {bi : BI} {w : World} {l : List AV} {g : Option Nat} (h : BlkR ρ bi w (.cells l g)) : Rd ρ bi w l := by
  obtain ⟨cc, ty, fr, h1, _, h3, _⟩ := h
  intro i x hx
  obtain ⟨v, hv, hr⟩ := h3 i x hx
  exact ⟨v, by rw [cell_of h1, hv], hr⟩
/-- Cells of a block, read one after the other. -/
theorem run_readN {P : Program} {ρ : RM} {bi : BI} {w : World} {l : List AV} (hb : Rd ρ bi w l) {o n : Nat} {xs : List AV}
    (h : takeN n (l.drop o) = some xs) : ∃ vs : List Value, vs.length = n ∧ (loadCells ⟨bi.r, bi.sh + o, none⟩ n).run P w = .ok vs.toArray w ∧ VRL ρ xs vs ∧
      ∀ j v, vs[j]? = some v → w.cell? ((⟨bi.r, bi.sh + o, none⟩ : Addr).add j) = some v := by
  obtain ⟨e1, e2⟩ := takeN_spec h
  have hex : ∀ i, i < n → ∃ v, w.cell? ⟨bi.r, bi.sh + o + i, none⟩ = some v ∧ VR ρ (xs.getD i default) v := fun i hi => by
    have hx : xs[i]? = some (xs.getD i default) := by
      rw [List.getD_eq_getElem?_getD, List.getElem?_eq_getElem (by omega)]; rfl
    have hl : l[o + i]? = some (xs.getD i default) := by
      rw [← hx, e2 i hi, List.getElem?_drop]
    obtain ⟨v, hv, hr⟩ := hb _ _ hl
    exact ⟨v, by rw [← hv, Nat.add_assoc], hr⟩
  refine ⟨(List.range n).map fun i => (w.cell? ⟨bi.r, bi.sh + o + i, none⟩).getD undef, by simp, ?_, ?_, ?_⟩
  · refine run_loadCells w _ n (fun i => (w.cell? ⟨bi.r, bi.sh + o + i, none⟩).getD undef) fun j hj => ?_
    rw [addr_add]
    obtain ⟨v, hv, _⟩ := hex j hj
    simp [hv]
  · refine VRL.of_get (by simp [e1]) fun i x hx => ?_
    have hi : i < n := by
      have := (List.getElem?_eq_some_iff.1 hx).1; omega
    obtain ⟨v, hv, hr⟩ := hex i hi
    refine ⟨v, by simp [List.getElem?_range, hi, hv], ?_⟩
    have : xs.getD i default = x := by rw [List.getD_eq_getElem?_getD, hx]; rfl
    rwa [this] at hr
  · intro j v hv
    have hj : j < n := by
      have := (List.getElem?_eq_some_iff.1 hv).1; simpa using this
    rw [addr_add]
    obtain ⟨u, hu, _⟩ := hex j hj
    simp [List.getElem?_range, hj, hu] at hv
    rw [hu, hv]

/-- Cells overwritten, from 'o' on. -/
def wrote (cc : Array Value) (o : Nat) (vs : List Value) : Array Value := (cc.toList.take o ++ vs ++ cc.toList.drop (o + vs.length)).toArray
theorem wrote_size {cc : Array Value} {o : Nat} {vs : List Value} (h : o + vs.length ≤ cc.size) : (wrote cc o vs).size = cc.size := by
  simp [wrote]; omega
theorem wrote_get {cc : Array Value} {o : Nat} {vs : List Value} (h : o + vs.length ≤ cc.size) (i : Nat) :
    (wrote cc o vs)[i]? = if o ≤ i ∧ i < o + vs.length then vs[i - o]? else cc[i]? := by
  simp only [wrote, List.getElem?_toArray, List.append_assoc]
  by_cases h1 : i < o
  · rw [if_neg (by omega), List.getElem?_append_left (by simp; omega), List.getElem?_take]
    simp [h1]
  · rw [List.getElem?_append_right (by simp; omega)]
    have e : i - (cc.toList.take o).length = i - o := by simp; omega
    rw [e]
    by_cases h2 : i < o + vs.length
    · rw [if_pos ⟨by omega, h2⟩, List.getElem?_append_left (by omega)]
    · rw [if_neg (by omega), List.getElem?_append_right (by omega), List.getElem?_drop]
      have : o + vs.length + (i - o - vs.length) = i := by omega
      rw [this]; simp

theorem run_write {P : Program} {g o : Nat} {ty : TypeId} {fr : Nat × Nat} : ∀ (vs : List Value) (i : Nat) (cc : Array Value) (w : World),
    w.heap[g]? = some (.cells cc ty fr) → Open cc fr → o + i + vs.length ≤ cc.size → (∀ v ∈ vs, v.oneCell' = true) →
    ∃ w', (storeCells ⟨g, o, none⟩ vs i).run P w = .ok () w' ∧ w'.heap = w.heap.setIfInBounds g (.cells (wrote cc (o + i) vs) ty fr) ∧
      w'.os = w.os ∧ w'.tape = w.tape ∧ w'.output = w.output
  | [], i, cc, w, hg, _, _, _ => by
    refine ⟨w, rfl, ?_, rfl, rfl, rfl⟩
    have : wrote cc (o + i) [] = cc := by simp [wrote]
    rw [this]
    apply Array.ext_getElem?
    intro j
    by_cases e : g = j
    · subst e
      have hlt := (Array.getElem?_eq_some_iff.1 hg).1
      rw [Array.getElem?_setIfInBounds_self_of_lt hlt, hg]
    · rw [Array.getElem?_setIfInBounds_ne e]
  | v :: vs, i, cc, w, hg, hf, hl, h1 => by
    have hlt : o + i < cc.size := by simp at hl; omega
    have hc : w.cell? ⟨g, o + i, none⟩ = some cc[o + i] := by rw [cell_of hg, Array.getElem?_eq_getElem hlt]
    have hz : w.frozen? ⟨g, o + i, none⟩ = false := by
      have := hf (o + i) hlt
      simp only [World.frozen?, hg]
      obtain ⟨lo, hi⟩ := fr
      simp at this ⊢
      omega
    have hg' : (w.setCell ⟨g, o + i, none⟩ v).heap[g]? = some (.cells (cc.setIfInBounds (o + i) v) ty fr) := by
      simp [World.setCell, Array.getElem?_modify, hg]
    have hf' : Open (cc.setIfInBounds (o + i) v) fr := fun j hj => hf j (by simpa using hj)
    obtain ⟨w', hr, hh, h3, h4, h5⟩ := run_write (P := P) (o := o) vs (i + 1) (cc.setIfInBounds (o + i) v) (w.setCell ⟨g, o + i, none⟩ v) hg' hf'
      (by simp at hl ⊢; omega) (fun u hu => h1 u (by simp [hu]))
    refine ⟨w', ?_, ?_, h3, h4, h5⟩
    · simp only [storeCells, Sem.run_bind, addr_add]
      rw [run_store P w _ v .plain (h1 v (by simp))]
      simp only [hc, hz, Bool.false_eq_true, if_false, Result.andThen_ok]
      exact hr
    · rw [hh]
      apply Array.ext_getElem?
      intro j
      by_cases e : g = j
      · subst e
        have hlt2 := (Array.getElem?_eq_some_iff.1 hg).1
        rw [Array.getElem?_setIfInBounds_self_of_lt (by simpa [World.setCell] using hlt2), Array.getElem?_setIfInBounds_self_of_lt hlt2]
        congr 2
        apply Array.ext_getElem?
        intro m
        rw [wrote_get (by simp at hl ⊢; omega), wrote_get (by simp at hl ⊢; omega)]
        by_cases e1 : m = o + i
        · subst e1
          rw [if_neg (by omega), if_pos (by simp)]
          simp [hlt]
        · by_cases e2 : o + (i + 1) ≤ m ∧ m < o + (i + 1) + vs.length
          · rw [if_pos e2, if_pos (by simp; omega)]
            have : m - (o + i) = (m - (o + (i + 1))) + 1 := by omega
            rw [this]; rfl
          · rw [if_neg e2, if_neg (by simp; omega), Array.getElem?_setIfInBounds_ne (Ne.symm e1)]
      · rw [Array.getElem?_setIfInBounds_ne e, Array.getElem?_setIfInBounds_ne e]
        simp [World.setCell, Array.getElem?_modify, e]

/-- Cells written on both sides. -/
theorem HR.write {P : Program} {ρ : RM} {H : Hp} {w : World} (h : HR ρ H w) {b : Nat} {bi : BI} {l l' xs : List AV} {g : Option Nat} {o : Nat} {vs : List Value}
    (hb : H.t.get b = some (.cells l g)) (hbi : ρ b = some bi) (hx : VRL ρ xs vs) (h1 : ∀ v ∈ vs, v.oneCell' = true) (hne : xs ≠ []) (hset : setN l o xs = some l') :
    ∃ w', (storeCells ⟨bi.r, bi.sh + o, none⟩ vs).run P w = .ok () w' ∧ HR ρ (H.upd b (.cells l' g)) w' ∧ Ext ρ H w ρ (H.upd b (.cells l' g)) w' := by
  obtain ⟨bj, e1, hk⟩ := h.blk b _ hb
  rw [hbi] at e1; cases e1
  obtain ⟨cc, ty, fr, g1, g2, g3, g4⟩ := hk
  obtain ⟨s1, s2, s3⟩ := setN_spec hset
  have hlen := hx.length
  have hin : bi.sh + o + vs.length ≤ cc.size := by
    have hs := s1 hne
    have hpos : 0 < xs.length := Nat.pos_of_ne_zero fun e => hne (List.eq_nil_of_length_eq_zero e)
    have hlt : o + xs.length - 1 < l.length := by omega
    obtain ⟨v, hv, _⟩ := g3 (o + xs.length - 1) l[o + xs.length - 1] (List.getElem?_eq_getElem hlt)
    have := (Array.getElem?_eq_some_iff.1 hv).1
    omega
  obtain ⟨w', hr, hh, k1, k2, k3⟩ := run_write (P := P) (o := bi.sh + o) vs 0 cc w g1 g2 (by omega) h1
  refine ⟨w', hr, ?_⟩
  have hlt2 := (Array.getElem?_eq_some_iff.1 g1).1
  have hsz : (wrote cc (bi.sh + o + 0) vs).size = cc.size := wrote_size (by omega)
  refine h.upd (bi := bi) (.cells (wrote cc (bi.sh + o + 0) vs) ty fr) hb rfl hbi hh k1 k2 k3
    ⟨_, ty, fr, by rw [hh, Array.getElem?_setIfInBounds_self_of_lt hlt2], fun i hi => g2 i (by omega), ?_, by rw [hsz, s2]; exact g4⟩ rfl
  intro i x hx'
  rw [s3 i] at hx'
  rw [wrote_get (by omega)]
  by_cases hc : o ≤ i ∧ i < o + xs.length
  · rw [if_pos hc] at hx'
    rw [if_pos (by omega)]
    obtain ⟨v, hv, hr'⟩ := hx.get hx'
    exact ⟨v, by rw [← hv]; congr 1; omega, hr'⟩
  · rw [if_neg hc] at hx'
    rw [if_neg (by omega)]
    exact g3 i x hx'
end Go.Ev
