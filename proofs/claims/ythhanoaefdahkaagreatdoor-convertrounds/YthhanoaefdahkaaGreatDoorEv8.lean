/- A group of operations whose order Go leaves open: one run in the order of the text, with a check, serves every order. -/
import Derived.Test.YthhanoaefdahkaaGreatDoorEv7
import Derived.Still
namespace Go.Ev

/-- Operations that lay one new row of cells and look at no memory. -/
def isMk : Op → Bool
  | .alloc _ => true
  | .box _ _ => true
  | .buildSlice _ _ _ => true
  | _ => false
def MkR (P : Program) (ρ : RM) (e : Operand → Value) (o : Oper) (H : Hp) (x : AV) (H' : Hp) : Prop :=
  ∃ (l : List AV) (cc : Array Value) (ty : TypeId) (g : Option Nat), H' = H.new (.cells l g) ∧ VRL ρ l cc.toList ∧ (∀ r, Gr g ⟨r, 0, 0, 0⟩ ty cc.size l.length) ∧
    ∀ w : World, ∃ v, (execOp e o).run P w = .ok (.value v) (w.alloc (.cells cc ty)) ∧ ∀ ρ' : RM, ρ' H.next = some ⟨w.heap.size, 0, 0, 0⟩ → VR ρ' x v
theorem mk_sound {P : Program} {ρ : RM} {E : Operand → Option AV} {e : Operand → Value} (hE : OpdR ρ E e) {H H' : Hp} {o : Oper} {x : AV} (hm : isMk o.op = true)
    (h : writeA P E H o.op = some (x, H')) : MkR P ρ e o H x H' := by
  obtain ⟨dst, op, type, pos, after, guard⟩ := o
  unfold writeA at h
  cases op <;> first | (simp [isMk] at hm; done) | skip
  case alloc t =>
    simp only [] at h
    split at h
    · rename_i z hz
      simp only [Option.some.injEq, Prod.mk.injEq] at h
      obtain ⟨rfl, rfl⟩ := h
      obtain ⟨i, zv, g1, g2, g3⟩ := zeroT_spec hz
      exact ⟨z.cells, zv.cells, t, selfG P t, rfl, (g3 ρ).cells, selfG_ok (P := P) (t := t) (by rw [(g3 ρ).cells.length]; simp), fun w => ⟨_, by simp [execOp, Instr.alloc, run_zeroValue g1 g2, newVar, newRow], fun ρ' hb => .ptr (bi := ⟨w.heap.size, 0, 0, 0⟩) hb⟩⟩
    · cases h
  case box t a =>
    simp only [] at h
    split at h
    · rename_i v hv
      simp only [Option.some.injEq, Prod.mk.injEq] at h
      obtain ⟨rfl, rfl⟩ := h
      exact ⟨v.cells, (e a).cells, t, none, rfl, (hE _ _ hv).cells, fun r => Gr.none _ _ _ _, fun w => ⟨_, by simp [execOp, Instr.box, newVar, newRow], fun ρ' hb => .ptr (bi := ⟨w.heap.size, 0, 0, 0⟩) hb⟩⟩
    · cases h
  case buildSlice t len parts =>
    simp only [] at h
    split at h
    · rename_i ps hps
      have hp := evP_sound hE hps
      have hp : PartsR ρ ps (parts.map fun (i, x) => (i, e x)).toList := by simpa using hp
      unfold buildSliceA at h
      split at h
      · rename_i el hu
        split at h
        · rename_i size z hs hz
          obtain ⟨i, zv, g1, g2, g3⟩ := zeroT_spec hz
          split at h
          · rename_i hc
            split at h
            · rename_i c hf
              simp at h
              obtain ⟨rfl, rfl⟩ := h
              have hzc := (g3 ρ).cells
              have hrep := rep_rel hzc len (len * size) (by rw [hc.1])
              have hvz : z.cells.length = zv.cells.size := by rw [hzc.length]; simp
              by_cases h0 : len * size = 0
              · have hrep0 : VRL ρ (repL len z.cells) (((Array.range (len * size)).map fun i => (#[] : Array Value)[i % (#[] : Array Value).size]!)).toList := by
                  have e1 : repL len z.cells = [] := List.eq_nil_of_length_eq_zero (by rw [repL_length, hc.1, h0])
                  rw [e1, h0]; simpa using VRL.nil
                obtain ⟨cs', f1, f2⟩ := fillA_sound hf hp hrep0
                refine ⟨c, cs', el, none, rfl, f2, fun r => Gr.none _ _ _ _, fun w => ⟨_, ?_, fun ρ' hb => .sl (bi := ⟨w.heap.size, 0, 0, 0⟩) hb (Nat.le_refl _)⟩⟩
                simp only [execOp, Instr.buildSlice, Sem.run_bind, run_underlying hu, Result.andThen_ok, run_sizeOf hs]
                rw [if_neg (by omega), if_pos h0]
                simp only [Sem.run_pure, Result.andThen_ok, Sem.run_bind, f1]
                simp [newRow]
              · obtain ⟨cs', f1, f2⟩ := fillA_sound hf hp hrep
                refine ⟨c, cs', el, none, rfl, f2, fun r => Gr.none _ _ _ _, fun w => ⟨_, ?_, fun ρ' hb => .sl (bi := ⟨w.heap.size, 0, 0, 0⟩) hb (Nat.le_refl _)⟩⟩
                simp only [execOp, Instr.buildSlice, Sem.run_bind, run_underlying hu, Result.andThen_ok, run_sizeOf hs]
                rw [if_neg (by omega), if_neg h0]
                simp only [Sem.run_pure, Result.andThen_ok, Sem.run_bind, run_zeroValue g1 g2, f1]
                simp [newRow]
            · cases h
          · cases h
        · cases h
      · cases h
    · cases h

/-- A step of the run in the order of the text. 'kind': 0: not carried out, 1: a look, 2: it may change memory. -/
structure St where
  o : Oper
  fr : Fr
  x : AV
  h0 : Hp
  h1 : Hp
  kind : Nat

def look (L : List Tmp) (T : Tmp → Option AV) (t : Tmp) : Option AV := if L.contains t then T t else none

def runD (P : Program) (call : CallF) (ops : Array Oper) : List Oper → Fr → Hp → Option (List St × Fr × Hp)
  | [], fr, H => some ([], fr, H)
  | o :: l, fr, H => match wantT ops (look (o.looksAt ops) fr.t.get) o with
    | some true => match readA P (evOp (look (o.looksAt ops) fr.t.get)) H o.op with
      | some x => match fr.put o.dst x with
        | some fr' => match runD P call ops l fr' H with
          | some (S, r) => some (⟨o, fr, x, H, H, 1⟩ :: S, r)
          | none => none
        | none => none
      | none => match opW P call (evOp (look (o.looksAt ops) fr.t.get)) H o with
        | some (x, H') => match fr.put o.dst x with
          | some fr' => match runD P call ops l fr' H' with
            | some (S, r) => some (⟨o, fr, x, H, H', 2⟩ :: S, r)
            | none => none
          | none => none
        | none => none
    | some false => match fr.put o.dst (.tuple []) with
      | some fr' => match runD P call ops l fr' H with
        | some (S, r) => some (⟨o, fr, .tuple [], H, H, 0⟩ :: S, r)
        | none => none
      | none => none
    | none => none

/-- What a run is. -/
inductive Run (P : Program) (call : CallF) (ops : Array Oper) : List Oper → List St → Fr → Hp → Fr → Hp → Prop
  | nil {fr H} : Run P call ops [] [] fr H fr H
  | skip {o l S fr fr' H frN HN} (hw : wantT ops (look (o.looksAt ops) fr.t.get) o = some false) (hp : fr.put o.dst (.tuple []) = some fr') (t : Run P call ops l S fr' H frN HN) :
      Run P call ops (o :: l) (⟨o, fr, .tuple [], H, H, 0⟩ :: S) fr H frN HN
  | read {o l S x fr fr' H frN HN} (hw : wantT ops (look (o.looksAt ops) fr.t.get) o = some true) (hx : readA P (evOp (look (o.looksAt ops) fr.t.get)) H o.op = some x)
      (hp : fr.put o.dst x = some fr') (t : Run P call ops l S fr' H frN HN) : Run P call ops (o :: l) (⟨o, fr, x, H, H, 1⟩ :: S) fr H frN HN
  | write {o l S x fr fr' H H' frN HN} (hw : wantT ops (look (o.looksAt ops) fr.t.get) o = some true) (hx : opW P call (evOp (look (o.looksAt ops) fr.t.get)) H o = some (x, H'))
      (hp : fr.put o.dst x = some fr') (t : Run P call ops l S fr' H' frN HN) : Run P call ops (o :: l) (⟨o, fr, x, H, H', 2⟩ :: S) fr H frN HN

theorem runD_run {P : Program} {call : CallF} {ops : Array Oper} : ∀ {l : List Oper} {fr : Fr} {H : Hp} {S : List St} {frN : Fr} {HN : Hp}, runD P call ops l fr H = some (S, frN, HN) → Run P call ops l S fr H frN HN
  | [], fr, H, S, frN, HN, h => by
    simp only [runD, Option.some.injEq, Prod.mk.injEq] at h
    obtain ⟨rfl, rfl, rfl⟩ := h
    exact .nil
  | o :: l, fr, H, S, frN, HN, h => by
    simp only [runD] at h
    split at h
    · rename_i hw
      split at h
      · rename_i x hx
        split at h
        · rename_i fr' hp
          split at h
          · rename_i S' r hr
            simp only [Option.some.injEq, Prod.mk.injEq] at h
            obtain ⟨rfl, rfl⟩ := h
            exact .read hw hx hp (runD_run hr)
          · cases h
        · cases h
      · split at h
        · rename_i x H' hx
          split at h
          · rename_i fr' hp
            split at h
            · rename_i S' r hr
              simp only [Option.some.injEq, Prod.mk.injEq] at h
              obtain ⟨rfl, rfl⟩ := h
              exact .write hw hx hp (runD_run hr)
            · cases h
          · cases h
        · cases h
    · rename_i hw
      split at h
      · rename_i fr' hp
        split at h
        · rename_i S' r hr
          simp only [Option.some.injEq, Prod.mk.injEq] at h
          obtain ⟨rfl, rfl⟩ := h
          exact .skip hw hp (runD_run hr)
        · cases h
      · cases h
    · cases h

/-! ### The check -/
/-- For each operation, which ones come before it in every order. -/
def maskOf (M : List Nat) : List Edge → Nat
  | [] => 0
  | e :: es => if Region.binds .any e then (2 ^ e.on ||| M.getD e.on 0) ||| maskOf M es else maskOf M es
def masks : List Oper → List Nat → List Nat
  | [], M => M
  | o :: l, M => masks l (M ++ [maskOf M o.after.toList])
def anc (M : List Nat) (j i : Nat) : Bool := Nat.testBit (M.getD j 0) i
def backOK : List Oper → Nat → Bool
  | [], _ => true
  | o :: l, i => o.after.toList.all (fun e => !Region.binds .any e || decide (e.on < i)) && backOK l (i + 1)
def sameRead (P : Program) (ops : Array Oper) (s : St) (H : Hp) : Bool :=
  match readA P (evOp (look (s.o.looksAt ops) s.fr.t.get)) H s.o.op with
  | some y => AV.beq y s.x
  | none => false
def dstNe : Option Tmp → Option Tmp → Bool
  | some a, some b => a != b
  | _, _ => true
def floats (M : List Nat) (i j : Nat) : Bool := (List.range M.length).all fun k => !anc M k j || anc M k i
def chkPair (P : Program) (ops : Array Oper) (M : List Nat) (i : Nat) (si : St) (j : Nat) (sj : St) : Bool :=
  ((!isMk si.o.op && !isMk sj.o.op) || dstNe si.o.dst sj.o.dst) && (anc M j i || (si.o.apart ops sj.o &&
    (if si.kind == 2 && sj.kind == 2 then isMk sj.o.op && floats M i j else true) &&
    (if si.kind == 2 && sj.kind == 1 then sameRead P ops sj si.h0 else true) &&
    (if si.kind == 1 && sj.kind == 2 then sameRead P ops si sj.h1 else true)))
def chkRow (P : Program) (ops : Array Oper) (M : List Nat) (i : Nat) (si : St) : Nat → List St → Bool
  | _, [] => true
  | j, sj :: S => chkPair P ops M i si j sj && chkRow P ops M i si (j + 1) S
def chkAll (P : Program) (ops : Array Oper) (M : List Nat) : Nat → List St → Bool
  | _, [] => true
  | i, s :: S => chkRow P ops M i s (i + 1) S && chkAll P ops M (i + 1) S
def evDraw (P : Program) (call : CallF) (ops : Array Oper) (fr : Fr) (H : Hp) : Option (Fr × Hp) :=
  match runD P call ops ops.toList fr H with
  | some (S, r) => if backOK ops.toList 0 && chkAll P ops (masks ops.toList []) 0 S then some r else none
  | none => none

theorem chkRow_spec {P : Program} {ops : Array Oper} {M : List Nat} {i : Nat} {si : St} : ∀ {S : List St} {k : Nat}, chkRow P ops M i si k S = true → ∀ j sj, S[j]? = some sj → chkPair P ops M i si (k + j) sj = true
  | [], _, _, _, _, h => by simp at h
  | s :: S, k, h, j, sj, hj => by
    simp only [chkRow, Bool.and_eq_true] at h
    cases j with
    | zero => simp at hj; subst hj; exact h.1
    | succ j =>
      have := chkRow_spec h.2 j sj (by simpa using hj)
      rwa [show k + 1 + j = k + (j + 1) by omega] at this
theorem chkAll_spec {P : Program} {ops : Array Oper} {M : List Nat} : ∀ {S : List St} {k : Nat}, chkAll P ops M k S = true → ∀ i j si sj, i < j → S[i]? = some si → S[j]? = some sj → chkPair P ops M (k + i) si (k + j) sj = true
  | [], _, _, _, _, _, _, _, h, _ => by simp at h
  | s :: S, k, h, i, j, si, sj, hij, hi, hj => by
    simp only [chkAll, Bool.and_eq_true] at h
    cases i with
    | zero =>
      simp at hi; subst hi
      obtain ⟨j, rfl⟩ : ∃ m, j = m + 1 := ⟨j - 1, by omega⟩
      have := chkRow_spec h.1 j sj (by simpa using hj)
      rwa [show k + 1 + j = k + (j + 1) by omega] at this
    | succ i =>
      obtain ⟨j, rfl⟩ : ∃ m, j = m + 1 := ⟨j - 1, by omega⟩
      have := chkAll_spec h.2 i j si sj (by omega) (by simpa using hi) (by simpa using hj)
      rwa [show k + 1 + i = k + (i + 1) by omega, show k + 1 + j = k + (j + 1) by omega] at this

/-! ### What comes before in every order has been carried out -/
def Down (ops : Array Oper) (E : Nat → Prop) : Prop := ∀ j o, ops[j]? = some o → E j → ∀ e ∈ o.after, Region.binds .any e = true → E e.on
theorem maskOf_spec {M : List Nat} {E : Nat → Prop} (hM : ∀ m i, anc M m i = true → E m → E i) : ∀ (es : List Edge) (i : Nat), (∀ e ∈ es, Region.binds .any e = true → E e.on) → Nat.testBit (maskOf M es) i = true → E i
  | [], i, _, h => by simp [maskOf] at h
  | e :: es, i, he, h => by
    simp only [maskOf] at h
    split at h
    · rename_i hb
      rw [Nat.testBit_or, Nat.testBit_or] at h
      simp only [Bool.or_eq_true] at h
      rcases h with (h | h) | h
      · have : i = e.on := by
          rw [Nat.testBit_two_pow] at h
          exact (by simpa using h : e.on = i).symm
        rw [this]; exact he e (by simp) hb
      · exact hM e.on i h (he e (by simp) hb)
      · exact maskOf_spec hM es i (fun e' he' => he e' (by simp [he'])) h
    · exact maskOf_spec hM es i (fun e' he' => he e' (by simp [he'])) h
theorem masks_spec {ops : Array Oper} {E : Nat → Prop} (hD : Down ops E) : ∀ (l : List Oper) (M : List Nat), (∀ j, l[j]? = ops[M.length + j]?) → (∀ m i, anc M m i = true → E m → E i) →
    ∀ m i, anc (masks l M) m i = true → E m → E i
  | [], M, _, hM, m, i, h, hm => hM m i h hm
  | o :: l, M, hl, hM, m, i, h, hm => by
    have h0 : ops[M.length]? = some o := by simpa using (hl 0).symm
    refine masks_spec hD l (M ++ [maskOf M o.after.toList]) (fun j => ?_) (fun m' i' h' hm' => ?_) m i h hm
    · have := hl (j + 1)
      simp only [List.getElem?_cons_succ] at this
      rw [this]; congr 1; simp; omega
    · unfold anc at h'
      rw [List.getD_eq_getElem?_getD] at h'
      by_cases e : m' < M.length
      · rw [List.getElem?_append_left e] at h'
        exact hM m' i' (by unfold anc; rw [List.getD_eq_getElem?_getD]; exact h') hm'
      · by_cases e2 : m' = M.length
        · subst e2
          rw [List.getElem?_append_right (Nat.le_refl _)] at h'
          simp only [Nat.sub_self, List.getElem?_cons_zero, Option.getD_some] at h'
          exact maskOf_spec hM o.after.toList i' (fun e' he' hb => hD M.length o h0 hm' e' (by simpa using he') hb) h'
        · rw [List.getElem?_eq_none (by simp; omega)] at h'
          simp at h'

/-! ### The state at a set of operations that have been carried out -/
def tvL (E : Nat → Bool) (t : Tmp) : Nat → List St → Option AV → Option AV
  | _, [], acc => acc
  | i, s :: S, acc => tvL E t (i + 1) S (if E i = true ∧ s.o.dst = some t then some s.x else acc)
def hpL (E : Nat → Bool) : Nat → List St → Hp → Hp
  | _, [], acc => acc
  | i, s :: S, acc => hpL E (i + 1) S (if E i = true ∧ s.kind = 2 then s.h1 else acc)

theorem tvL_none {E : Nat → Bool} {t : Tmp} : ∀ (S : List St) (k : Nat) (acc : Option AV), (∀ j s, S[j]? = some s → s.o.dst = some t → E (k + j) = false) → tvL E t k S acc = acc
  | [], _, _, _ => rfl
  | s :: S, k, acc, h => by
    simp only [tvL]
    have h0 : ¬ (E k = true ∧ s.o.dst = some t) := fun ⟨h1, h2⟩ => by
      have := h 0 s rfl h2
      simp at this; rw [this] at h1; cases h1
    rw [if_neg h0]
    exact tvL_none S (k + 1) acc fun j s' hs hd => by
      have := h (j + 1) s' (by simpa using hs) hd
      rwa [show k + 1 + j = k + (j + 1) by omega]
theorem hpL_none {E : Nat → Bool} : ∀ (S : List St) (k : Nat) (acc : Hp), (∀ j s, S[j]? = some s → s.kind = 2 → E (k + j) = false) → hpL E k S acc = acc
  | [], _, _, _ => rfl
  | s :: S, k, acc, h => by
    simp only [hpL]
    have h0 : ¬ (E k = true ∧ s.kind = 2) := fun ⟨h1, h2⟩ => by
      have := h 0 s rfl h2
      simp at this; rw [this] at h1; cases h1
    rw [if_neg h0]
    exact hpL_none S (k + 1) acc fun j s' hs hd => by
      have := h (j + 1) s' (by simpa using hs) hd
      rwa [show k + 1 + j = k + (j + 1) by omega]
theorem put_get {fr fr' : Fr} {dst : Option Tmp} {x : AV} (h : fr.put dst x = some fr') (t : Tmp) : fr'.t.get t = if dst = some t then some x else fr.t.get t := by
  cases dst with
  | none => simp [Fr.put] at h; subst h; simp
  | some d =>
    simp only [Fr.put] at h
    split at h
    · simp only [Option.some.injEq] at h; subst h
      simp only [Tr.get_put, Option.some.injEq]
      by_cases e : t = d
      · rw [if_pos e, if_pos e.symm]
      · rw [if_neg e, if_neg (fun h => e h.symm)]
    · cases h
theorem put_n {fr fr' : Fr} {dst : Option Tmp} {x : AV} (h : fr.put dst x = some fr') : fr'.n = fr.n := by
  cases dst with
  | none => simp [Fr.put] at h; subst h; rfl
  | some d =>
    simp only [Fr.put] at h
    split at h
    · simp only [Option.some.injEq] at h; subst h; rfl
    · cases h

section
variable {P : Program} {call : CallF} {ops : Array Oper}
theorem Run.split {o : Oper} {l : List Oper} {S : List St} {fr frN : Fr} {H HN : Hp} (h : Run P call ops (o :: l) S fr H frN HN) :
    ∃ s S' fr', S = s :: S' ∧ s.o = o ∧ s.fr = fr ∧ s.h0 = H ∧ fr.put o.dst s.x = some fr' ∧ Run P call ops l S' fr' s.h1 frN HN ∧ (s.kind ≠ 2 → s.h1 = H) ∧
      ((s.kind = 0 ∧ wantT ops (look (o.looksAt ops) fr.t.get) o = some false ∧ s.x = .tuple []) ∨
       (s.kind = 1 ∧ wantT ops (look (o.looksAt ops) fr.t.get) o = some true ∧ readA P (evOp (look (o.looksAt ops) fr.t.get)) H o.op = some s.x) ∨
       (s.kind = 2 ∧ wantT ops (look (o.looksAt ops) fr.t.get) o = some true ∧ opW P call (evOp (look (o.looksAt ops) fr.t.get)) H o = some (s.x, s.h1))) := by
  cases h with
  | skip hw hp t => exact ⟨_, _, _, rfl, rfl, rfl, rfl, hp, t, fun _ => rfl, .inl ⟨rfl, hw, rfl⟩⟩
  | read hw hx hp t => exact ⟨_, _, _, rfl, rfl, rfl, rfl, hp, t, fun _ => rfl, .inr (.inl ⟨rfl, hw, hx⟩)⟩
  | write hw hx hp t => exact ⟨_, _, _, rfl, rfl, rfl, rfl, hp, t, fun h => absurd rfl h, .inr (.inr ⟨rfl, hw, hx⟩)⟩

/-- The frame in front of operation i, where what it looks at has been carried out. -/
theorem Run.tv {E : Nat → Bool} {t : Tmp} {i : Nat} {si : St} {frN : Fr} {HN : Hp} : ∀ {l : List Oper} {S : List St} {fr : Fr} {H : Hp}, Run P call ops l S fr H frN HN → ∀ (k : Nat), k ≤ i → S[i - k]? = some si →
    (∀ j s, S[j]? = some s → k + j < i → s.o.dst = some t → E (k + j) = true) → (∀ j s, S[j]? = some s → i ≤ k + j → s.o.dst = some t → E (k + j) = false) →
    tvL E t k S (fr.t.get t) = si.fr.t.get t
  | [], S, fr, H, hr, k, hk, hi, _, _ => by cases hr; simp at hi
  | o :: l, S, fr, H, hr, k, hk, hi, h1, h2 => by
    obtain ⟨s, S', fr', rfl, so, sf, _, hp, ht, _, _⟩ := hr.split
    by_cases e : k = i
    · subst e
      simp at hi; subst hi
      rw [tvL_none _ _ _ fun j s' hs hd => h2 j s' hs (by omega) hd, sf]
    · have hlt : k < i := by omega
      simp only [tvL]
      have hacc : (if E k = true ∧ s.o.dst = some t then some s.x else fr.t.get t) = fr'.t.get t := by
        rw [put_get hp t, ← so]
        by_cases hd : s.o.dst = some t
        · have := h1 0 s rfl (by simpa using hlt) hd
          rw [if_pos ⟨by simpa using this, hd⟩, if_pos hd]
        · rw [if_neg (fun h => hd h.2), if_neg hd]
      rw [hacc]
      refine Run.tv (i := i) ht (k + 1) (by omega) ?_ (fun j s' hs hj hd => ?_) (fun j s' hs hj hd => ?_)
      · have e1 : i - k = (i - (k + 1)) + 1 := by omega
        rw [e1] at hi; simpa using hi
      · have := h1 (j + 1) s' (by simpa using hs) (by omega) hd
        rwa [show k + 1 + j = k + (j + 1) by omega]
      · have := h2 (j + 1) s' (by simpa using hs) (by omega) hd
        rwa [show k + 1 + j = k + (j + 1) by omega]
theorem Run.tvEnd {E : Nat → Bool} {t : Tmp} {frN : Fr} {HN : Hp} : ∀ {l : List Oper} {S : List St} {fr : Fr} {H : Hp}, Run P call ops l S fr H frN HN → ∀ (k : Nat),
    (∀ j s, S[j]? = some s → E (k + j) = true) → tvL E t k S (fr.t.get t) = frN.t.get t
  | [], S, fr, H, hr, k, _ => by cases hr; rfl
  | o :: l, S, fr, H, hr, k, h1 => by
    obtain ⟨s, S', fr', rfl, so, sf, _, hp, ht, _, _⟩ := hr.split
    simp only [tvL]
    have hacc : (if E k = true ∧ s.o.dst = some t then some s.x else fr.t.get t) = fr'.t.get t := by
      rw [put_get hp t, ← so]
      have := h1 0 s rfl
      by_cases hd : s.o.dst = some t
      · rw [if_pos ⟨by simpa using this, hd⟩, if_pos hd]
      · rw [if_neg (fun h => hd h.2), if_neg hd]
    rw [hacc]
    exact Run.tvEnd ht (k + 1) fun j s' hs => by
      have := h1 (j + 1) s' (by simpa using hs)
      rwa [show k + 1 + j = k + (j + 1) by omega]
/-- The memory in front of operation i. -/
theorem Run.hp {E : Nat → Bool} {i : Nat} {si : St} {frN : Fr} {HN : Hp} : ∀ {l : List Oper} {S : List St} {fr : Fr} {H : Hp}, Run P call ops l S fr H frN HN → ∀ (k : Nat), k ≤ i → S[i - k]? = some si →
    (∀ j s, S[j]? = some s → k + j < i → s.kind = 2 → E (k + j) = true) → (∀ j s, S[j]? = some s → i ≤ k + j → s.kind = 2 → E (k + j) = false) →
    hpL E k S H = si.h0
  | [], S, fr, H, hr, k, hk, hi, _, _ => by cases hr; simp at hi
  | o :: l, S, fr, H, hr, k, hk, hi, h1, h2 => by
    obtain ⟨s, S', fr', rfl, so, sf, sh, hp, ht, hsame, _⟩ := hr.split
    by_cases e : k = i
    · subst e
      simp at hi; subst hi
      rw [hpL_none _ _ _ fun j s' hs hd => h2 j s' hs (by omega) hd, sh]
    · have hlt : k < i := by omega
      simp only [hpL]
      have hacc : (if E k = true ∧ s.kind = 2 then s.h1 else H) = s.h1 := by
        by_cases hd : s.kind = 2
        · have := h1 0 s rfl (by simpa using hlt) hd
          rw [if_pos ⟨by simpa using this, hd⟩]
        · rw [if_neg (fun h => hd h.2), hsame hd]
      rw [hacc]
      refine Run.hp (i := i) ht (k + 1) (by omega) ?_ (fun j s' hs hj hd => ?_) (fun j s' hs hj hd => ?_)
      · have e1 : i - k = (i - (k + 1)) + 1 := by omega
        rw [e1] at hi; simpa using hi
      · have := h1 (j + 1) s' (by simpa using hs) (by omega) hd
        rwa [show k + 1 + j = k + (j + 1) by omega]
      · have := h2 (j + 1) s' (by simpa using hs) (by omega) hd
        rwa [show k + 1 + j = k + (j + 1) by omega]
theorem Run.hpEnd {E : Nat → Bool} {frN : Fr} {HN : Hp} : ∀ {l : List Oper} {S : List St} {fr : Fr} {H : Hp}, Run P call ops l S fr H frN HN → ∀ (k : Nat),
    (∀ j s, S[j]? = some s → E (k + j) = true) → hpL E k S H = HN
  | [], S, fr, H, hr, k, _ => by cases hr; rfl
  | o :: l, S, fr, H, hr, k, h1 => by
    obtain ⟨s, S', fr', rfl, so, sf, sh, hp, ht, hsame, _⟩ := hr.split
    simp only [hpL]
    have hacc : (if E k = true ∧ s.kind = 2 then s.h1 else H) = s.h1 := by
      have := h1 0 s rfl
      by_cases hd : s.kind = 2
      · rw [if_pos ⟨by simpa using this, hd⟩]
      · rw [if_neg (fun h => hd h.2), hsame hd]
    rw [hacc]
    exact Run.hpEnd ht (k + 1) fun j s' hs => by
      have := h1 (j + 1) s' (by simpa using hs)
      rwa [show k + 1 + j = k + (j + 1) by omega]
/-- The memory behind operation i, where no later one has changed it. -/
theorem hpL_at {E : Nat → Bool} {i : Nat} {si : St} : ∀ (S : List St) (k : Nat) (H : Hp), k ≤ i → S[i - k]? = some si → E i = true → si.kind = 2 →
    (∀ j s, S[j]? = some s → i < k + j → s.kind = 2 → E (k + j) = false) → hpL E k S H = si.h1
  | [], k, H, hk, hi, _, _, _ => by simp at hi
  | s :: S, k, H, hk, hi, hE, h2, h => by
    simp only [hpL]
    by_cases e : k = i
    · subst e
      simp at hi; subst hi
      rw [if_pos ⟨hE, h2⟩]
      exact hpL_none _ _ _ fun j s' hs hd => by
        have := h (j + 1) s' (by simpa using hs) (by omega) hd
        rwa [show k + 1 + j = k + (j + 1) by omega]
    · refine hpL_at S (k + 1) _ (by omega) ?_ hE h2 fun j s' hs hj hd => ?_
      · have e1 : i - k = (i - (k + 1)) + 1 := by omega
        rw [e1] at hi; simpa using hi
      · have := h (j + 1) s' (by simpa using hs) (by omega) hd
        rwa [show k + 1 + j = k + (j + 1) by omega]
theorem tvL_at {E : Nat → Bool} {t : Tmp} {i : Nat} {si : St} : ∀ (S : List St) (k : Nat) (acc : Option AV), k ≤ i → S[i - k]? = some si → E i = true → si.o.dst = some t →
    (∀ j s, S[j]? = some s → i < k + j → s.o.dst = some t → E (k + j) = false) → tvL E t k S acc = some si.x
  | [], k, acc, hk, hi, _, _, _ => by simp at hi
  | s :: S, k, acc, hk, hi, hE, h2, h => by
    simp only [tvL]
    by_cases e : k = i
    · subst e
      simp at hi; subst hi
      rw [if_pos ⟨hE, h2⟩]
      exact tvL_none _ _ _ fun j s' hs hd => by
        have := h (j + 1) s' (by simpa using hs) (by omega) hd
        rwa [show k + 1 + j = k + (j + 1) by omega]
    · refine tvL_at S (k + 1) _ (by omega) ?_ hE h2 fun j s' hs hj hd => ?_
      · have e1 : i - k = (i - (k + 1)) + 1 := by omega
        rw [e1] at hi; simpa using hi
      · have := h (j + 1) s' (by simpa using hs) (by omega) hd
        rwa [show k + 1 + j = k + (j + 1) by omega]
theorem tvL_congr {E E' : Nat → Bool} {t : Tmp} : ∀ (S : List St) (k : Nat) (acc : Option AV), (∀ j s, S[j]? = some s → s.o.dst = some t → E (k + j) = E' (k + j)) → tvL E t k S acc = tvL E' t k S acc
  | [], _, _, _ => rfl
  | s :: S, k, acc, h => by
    simp only [tvL]
    have h0 : (if E k = true ∧ s.o.dst = some t then some s.x else acc) = (if E' k = true ∧ s.o.dst = some t then some s.x else acc) := by
      by_cases hd : s.o.dst = some t
      · have := h 0 s rfl hd
        simp only [Nat.add_zero] at this
        rw [this]
      · rw [if_neg (fun h => hd h.2), if_neg (fun h => hd h.2)]
    rw [h0]
    exact tvL_congr S (k + 1) _ fun j s' hs hd => by
      have := h (j + 1) s' (by simpa using hs) hd
      rwa [show k + 1 + j = k + (j + 1) by omega]
theorem hpL_congr {E E' : Nat → Bool} : ∀ (S : List St) (k : Nat) (acc : Hp), (∀ j s, S[j]? = some s → s.kind = 2 → E (k + j) = E' (k + j)) → hpL E k S acc = hpL E' k S acc
  | [], _, _, _ => rfl
  | s :: S, k, acc, h => by
    simp only [hpL]
    have h0 : (if E k = true ∧ s.kind = 2 then s.h1 else acc) = (if E' k = true ∧ s.kind = 2 then s.h1 else acc) := by
      by_cases hd : s.kind = 2
      · have := h 0 s rfl hd
        simp only [Nat.add_zero] at this
        rw [this]
      · rw [if_neg (fun h => hd h.2), if_neg (fun h => hd h.2)]
    rw [h0]
    exact hpL_congr S (k + 1) _ fun j s' hs hd => by
      have := h (j + 1) s' (by simpa using hs) hd
      rwa [show k + 1 + j = k + (j + 1) by omega]
theorem Run.length {frN : Fr} {HN : Hp} : ∀ {l : List Oper} {S : List St} {fr : Fr} {H : Hp}, Run P call ops l S fr H frN HN → S.length = l.length
  | [], S, fr, H, hr => by cases hr; rfl
  | o :: l, S, fr, H, hr => by
    obtain ⟨s, S', fr', rfl, _, _, _, _, ht, _, _⟩ := hr.split
    simp [Run.length ht]
theorem Run.n {frN : Fr} {HN : Hp} : ∀ {l : List Oper} {S : List St} {fr : Fr} {H : Hp}, Run P call ops l S fr H frN HN → frN.n = fr.n
  | [], S, fr, H, hr => by cases hr; rfl
  | o :: l, S, fr, H, hr => by
    obtain ⟨s, S', fr', rfl, _, _, _, hp, ht, _, _⟩ := hr.split
    rw [Run.n ht, put_n hp]
/-- What is known of each step. -/
theorem Run.at {frN : Fr} {HN : Hp} : ∀ {l : List Oper} {S : List St} {fr : Fr} {H : Hp}, Run P call ops l S fr H frN HN → ∀ {i : Nat} {s : St}, S[i]? = some s →
    l[i]? = some s.o ∧ s.fr.n = fr.n ∧ (∃ fr', s.fr.put s.o.dst s.x = some fr') ∧
      ((s.kind = 0 ∧ wantT ops (look (s.o.looksAt ops) s.fr.t.get) s.o = some false ∧ s.x = .tuple []) ∨
       (s.kind = 1 ∧ wantT ops (look (s.o.looksAt ops) s.fr.t.get) s.o = some true ∧ readA P (evOp (look (s.o.looksAt ops) s.fr.t.get)) s.h0 s.o.op = some s.x) ∨
       (s.kind = 2 ∧ wantT ops (look (s.o.looksAt ops) s.fr.t.get) s.o = some true ∧ opW P call (evOp (look (s.o.looksAt ops) s.fr.t.get)) s.h0 s.o = some (s.x, s.h1)))
  | [], S, fr, H, hr, i, s, hi => by cases hr; simp at hi
  | o :: l, S, fr, H, hr, i, s, hi => by
    obtain ⟨s0, S', fr', rfl, so, sf, sh, hp, ht, _, hk⟩ := hr.split
    cases i with
    | zero =>
      simp at hi; subst hi
      subst so; subst sf; subst sh
      exact ⟨rfl, rfl, ⟨fr', hp⟩, hk⟩
    | succ i =>
      obtain ⟨h1, h2, h3, h4⟩ := Run.at ht (i := i) (s := s) (by simpa using hi)
      exact ⟨by simpa using h1, h2.trans (put_n hp), h3, h4⟩
end
end Go.Ev
