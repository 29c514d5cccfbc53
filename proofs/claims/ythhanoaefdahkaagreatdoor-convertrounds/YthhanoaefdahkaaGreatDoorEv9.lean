/- A group of operations whose order Go leaves open: the theorem. -/
import Derived.Test.YthhanoaefdahkaaGreatDoorEv8
namespace Go.Ev

def cntF : List Bool → Nat
  | [] => 0
  | b :: l => (if b then 0 else 1) + cntF l
theorem cntF_set : ∀ (l : List Bool) (i : Nat), l[i]? = some false → cntF (l.set i true) + 1 = cntF l
  | [], _, h => by simp at h
  | b :: l, 0, h => by simp at h; subst h; simp [cntF]; omega
  | b :: l, i + 1, h => by
    have := cntF_set l i (by simpa using h)
    simp only [List.set_cons_succ, cntF]; omega
theorem cntF_zero : ∀ (l : List Bool), cntF l = 0 → ∀ (i : Nat) (b : Bool), l[i]? = some b → b = true
  | [], _, _, _, h => by simp at h
  | b :: l, h, i, c, hc => by
    simp only [cntF] at h
    cases i with
    | zero =>
      simp at hc; subst hc
      cases b with
      | true => rfl
      | false => simp at h
    | succ i => exact cntF_zero l (by omega) i c (by simpa using hc)

theorem last_of {p : Nat → Prop} : ∀ (n : Nat), (∃ j, j < n ∧ p j) → ∃ j, j < n ∧ p j ∧ ∀ l, j < l → l < n → ¬ p l
  | 0, ⟨_, h, _⟩ => by omega
  | n + 1, ⟨j, hj, hp⟩ => by
    by_cases hn : p n
    · exact ⟨n, by omega, hn, fun l h1 h2 => by omega⟩
    · have hjn : j ≠ n := fun e => hn (e ▸ hp)
      obtain ⟨m, h1, h2, h3⟩ := last_of n ⟨j, by omega, hp⟩
      refine ⟨m, by omega, h2, fun l h4 h5 => ?_⟩
      by_cases e : l = n
      · rw [e]; exact hn
      · exact h3 l h4 (by omega)
theorem first_of {p : Nat → Prop} : ∀ (n : Nat), (∃ j, j < n ∧ p j) → ∃ j, j < n ∧ p j ∧ ∀ l, l < j → ¬ p l
  | 0, ⟨_, h, _⟩ => by omega
  | n + 1, ⟨j, hj, hp⟩ => by
    by_cases hlt : ∃ m, m < n ∧ p m
    · obtain ⟨m, h1, h2, h3⟩ := first_of n hlt
      exact ⟨m, by omega, h2, h3⟩
    · have hjn : j = n := by
        rcases Nat.lt_or_ge j n with h | h
        · exact absurd ⟨j, h, hp⟩ hlt
        · omega
      subst hjn
      exact ⟨j, by omega, hp, fun l h1 h2 => hlt ⟨l, h1, h2⟩⟩

theorem backOK_spec : ∀ {l : List Oper} {k : Nat}, backOK l k = true → ∀ i o, l[i]? = some o → ∀ e ∈ o.after, Region.binds .any e = true → e.on < k + i
  | [], _, _, _, _, h, _, _, _ => by simp at h
  | o :: l, k, h, i, o', hi, e, he, hb => by
    simp only [backOK, Bool.and_eq_true] at h
    cases i with
    | zero =>
      simp at hi; subst hi
      have := List.all_eq_true.1 h.1 e (by simpa using he)
      simpa [hb] using this
    | succ i =>
      have := backOK_spec h.2 i o' (by simpa using hi) e he hb
      omega

/-! ### Which of the listed operations count -/
def isK (S : List St) (i : Nat) : Bool := match S[i]? with
  | some s => s.kind == 2
  | none => false
def effL (S : List St) (L : Nat → Bool) (i : Nat) : Bool := L i && (!isK S i || (List.range i).all fun j => !isK S j || L j)
theorem isK_iff {S : List St} {i : Nat} {s : St} (h : S[i]? = some s) : isK S i = true ↔ s.kind = 2 := by simp [isK, h]
theorem effL_le {S : List St} {L : Nat → Bool} {i : Nat} (h : effL S L i = true) : L i = true := by
  simp only [effL, Bool.and_eq_true] at h; exact h.1
theorem effL_nk {S : List St} {L : Nat → Bool} {i : Nat} (h : isK S i = false) : effL S L i = L i := by simp [effL, h]
theorem effL_k {S : List St} {L : Nat → Bool} {i : Nat} (h : isK S i = true) : effL S L i = true ↔ L i = true ∧ ∀ j, j < i → isK S j = true → L j = true := by
  simp only [effL, h, Bool.not_true, Bool.false_or, Bool.and_eq_true, List.all_eq_true, List.mem_range, Bool.or_eq_true, Bool.not_eq_true']
  refine and_congr_right fun _ => ⟨fun g j hj hk => ?_, fun g j hj => ?_⟩
  · rcases g j hj with e | e
    · rw [hk] at e; cases e
    · exact e
  · cases hk : isK S j with
    | false => exact .inl rfl
    | true => exact .inr (g j hj hk)
theorem effL_pre {S : List St} {L : Nat → Bool} {i j : Nat} (h : effL S L i = true) (hi : isK S i = true) (hj : j < i) (hk : isK S j = true) : effL S L j = true := by
  have h' := (effL_k hi).1 h
  exact (effL_k hk).2 ⟨h'.2 j hj hk, fun l hl hkl => h'.2 l (by omega) hkl⟩

/-- A maker that has been carried out ahead of what comes before it in the text: its block lies in memory, and no name stands for it yet. -/
def Pend (S : List St) (ρ : RM) (H : Hp) (w₀ : World) (a : Act) (w : World) (i r : Nat) : Prop :=
  ∃ (s : St) (l : List AV) (cc : Array Value) (ty : TypeId) (g : Option Nat) (v : Value), S[i]? = some s ∧ s.kind = 2 ∧ isMk s.o.op = true ∧ s.h1 = s.h0.new (.cells l g) ∧ (∀ r, Gr g ⟨r, 0, 0, 0⟩ ty cc.size l.length) ∧ (∀ t, s.o.dst = some t → a.tmps[t]? = some v) ∧
    w₀.heap.size ≤ r ∧ w.heap[r]? = some (.cells cc ty) ∧ VRL ρ l cc.toList ∧ (∀ b q bj, H.t.get b = some q → q.void = false → ρ b = some bj → bj.r ≠ r) ∧
    ∀ ρ' : RM, ρ' s.h0.next = some ⟨r, 0, 0, 0⟩ → VR ρ' s.x v

structure Inv (S : List St) (fr0 : Fr) (H0 : Hp) (ρ₀ : RM) (w₀ : World) (L E : Nat → Bool) (ρ : RM) (a : Act) (w : World) : Prop where
  le : ∀ i, E i = true → L i = true
  nk : ∀ i, L i = true → isK S i = false → E i = true
  pre : ∀ i j, E i = true → isK S i = true → j < i → isK S j = true → E j = true
  T : ∀ t x, (∀ j s, L j = true → E j = false → S[j]? = some s → s.o.dst ≠ some t) → tvL E t 0 S (fr0.t.get t) = some x → ∃ v, a.tmps[t]? = some v ∧ VR ρ x v
  n : a.tmps.size = fr0.n
  d : a.defers = []
  H : HR ρ (hpL E 0 S H0) w
  X : Ext ρ₀ H0 w₀ ρ (hpL E 0 S H0) w
  pend : ∃ R : Nat → Nat, (∀ i j, L i = true → E i = false → L j = true → E j = false → i ≠ j → R i ≠ R j) ∧ ∀ i, L i = true → E i = false → Pend S ρ (hpL E 0 S H0) w₀ a w i (R i)

/-- Makers' results lie in variables of their own. -/
def Own (S : List St) : Prop := ∀ (i j : Nat) (si sj : St) (t : Tmp), i ≠ j → S[i]? = some si → S[j]? = some sj → isMk si.o.op = true → si.o.dst = some t → sj.o.dst ≠ some t

theorem dstNe_spec {a b : Option Tmp} (h : dstNe a b = true) (t : Tmp) (ha : a = some t) (hb : b = some t) : False := by
  subst ha; subst hb; simp [dstNe] at h

section
variable {P : Program} {call : CallF} {ops : Array Oper}

/-- One more maker counts. -/
theorem Inv.activate {S : List St} {fr0 frN : Fr} {H0 HN : Hp} {l : List Oper} (hr : Run P call ops l S fr0 H0 frN HN) (hown : Own S) {ρ₀ : RM} {w₀ : World} {L E : Nat → Bool} {ρ : RM} {a : Act} {w : World}
    (h : Inv S fr0 H0 ρ₀ w₀ L E ρ a w) {i : Nat} (hL : L i = true) (hE : E i = false) (hbefore : ∀ j, j < i → isK S j = true → E j = true) :
    ∃ ρ', Inv S fr0 H0 ρ₀ w₀ L (fun k => if k = i then true else E k) ρ' a w := by
  obtain ⟨R, hR, hP⟩ := h.pend
  obtain ⟨s, c, cc, ty, gg, v, hs, hk, hmk, hh1, hgr, hdst, hge, hheap, hvr, hno, hval⟩ := hP i hL hE
  have hKi : isK S i = true := (isK_iff hs).2 hk
  have later : ∀ k, isK S k = true → i < k → E k = false := fun k hkk hik => by
    cases hg : E k with
    | false => rfl
    | true => have := h.pre k i hg hkk hik hKi; rw [hE] at this; cases this
  have hH0 : hpL E 0 S H0 = s.h0 := by
    refine hr.hp (i := i) (si := s) 0 (Nat.zero_le _) (by simpa using hs) (fun j sj hj hji hkj => ?_) (fun j sj hj hij hkj => ?_)
    · rw [Nat.zero_add] at hji ⊢
      exact hbefore j hji ((isK_iff hj).2 hkj)
    · rw [Nat.zero_add] at hij ⊢
      by_cases e : j = i
      · rw [e]; exact hE
      · exact later j ((isK_iff hj).2 hkj) (by omega)
  have hH1 : hpL (fun k => if k = i then true else E k) 0 S H0 = s.h1 := by
    refine hpL_at S 0 H0 (Nat.zero_le _) (i := i) (by simpa using hs) (by simp) hk fun j sj hj hij hkj => ?_
    rw [Nat.zero_add] at hij ⊢
    show (if j = i then true else E j) = false
    rw [if_neg (by omega)]
    exact later j ((isK_iff hj).2 hkj) hij
  have hH := h.H
  have hX := h.X
  rw [hH0] at hH hX hno
  obtain ⟨ρ', q1, q2, q3, q4, q5⟩ := hH.adopt (.cells c gg) ⟨R i, 0, 0, 0⟩ rfl hno
    (fun ρ' hle _ => ⟨cc, ty, (0, 0), hheap, fun i _ hc => by simp at hc, (hvr.cellsAt).mono hle, hgr _⟩)
  refine ⟨ρ', ?_, ?_, ?_, ?_, h.n, h.d, ?_, ?_, R, ?_, ?_⟩
  · intro k hk'
    by_cases e : k = i
    · rw [e]; exact hL
    · simp only [if_neg e] at hk'; exact h.le k hk'
  · intro k hk' hkk
    by_cases e : k = i
    · simp [e]
    · simp only [if_neg e]; exact h.nk k hk' hkk
  · intro k j hk' hkk hjk hjj
    by_cases e2 : j = i
    · simp [e2]
    · simp only [if_neg e2]
      by_cases e : k = i
      · subst e; exact hbefore j hjk hjj
      · simp only [if_neg e] at hk'; exact h.pre k j hk' hkk hjk hjj
  · intro t x hfree hx
    by_cases hd : s.o.dst = some t
    · have hx' : tvL (fun k => if k = i then true else E k) t 0 S (fr0.t.get t) = some s.x := by
        refine tvL_at S 0 _ (Nat.zero_le _) (i := i) (by simpa using hs) (by simp) hd fun j sj hj hij hd2 => ?_
        exact absurd hd2 (hown i (0 + j) s sj t (by omega) hs (by simpa using hj) hmk hd)
      rw [hx'] at hx; cases hx
      exact ⟨v, hdst t hd, hval ρ' q1⟩
    · have hx' : tvL (fun k => if k = i then true else E k) t 0 S (fr0.t.get t) = tvL E t 0 S (fr0.t.get t) := by
        refine tvL_congr S 0 _ fun j sj hj hd2 => ?_
        simp only [Nat.zero_add]
        by_cases e : j = i
        · subst e
          rw [hs] at hj; cases hj
          exact absurd hd2 hd
        · rw [if_neg e]
      rw [hx'] at hx
      obtain ⟨u, h1, h2⟩ := h.T t x (fun j sj hLj hEj hj => by
        by_cases e : j = i
        · subst e
          rw [hs] at hj; cases hj
          exact hd
        · exact hfree j sj hLj (by simp only [if_neg e]; exact hEj) hj) hx
      exact ⟨u, h1, h2.mono q2⟩
  · rw [hH1, hh1]; exact q3
  · rw [hH1, hh1]; exact q5 hX hge
  · intro k j hLk hEk hLj hEj hne
    have e1 : k ≠ i := fun e => by simp [e] at hEk
    have e2 : j ≠ i := fun e => by simp [e] at hEj
    simp only [if_neg e1] at hEk
    simp only [if_neg e2] at hEj
    exact hR k j hLk hEk hLj hEj hne
  · intro k hLk hEk
    have e1 : k ≠ i := fun e => by simp [e] at hEk
    simp only [if_neg e1] at hEk
    obtain ⟨s', c', cc', ty', gg', v', g1, g2, g3, g4, g4b, g5, g6, g7, g8, g9, g10⟩ := hP k hLk hEk
    refine ⟨s', c', cc', ty', gg', v', g1, g2, g3, g4, g4b, g5, g6, g7, g8.mono q2, fun b q bj hb hq hbj => ?_, g10⟩
    rw [hH1, hh1] at hb
    rcases q4 b q bj hb hq hbj with e | ⟨b0, bj0, k1, k2, k3⟩
    · rw [e]; exact hR i k hL hE hLk hEk (Ne.symm e1)
    · rw [← k3]
      rw [hH0] at g9
      exact g9 b0 q bj0 k1 hq k2

/-- All that can count, counts. -/
theorem Inv.saturate {S : List St} {fr0 frN : Fr} {H0 HN : Hp} {l : List Oper} (hr : Run P call ops l S fr0 H0 frN HN) (hown : Own S) {ρ₀ : RM} {w₀ : World} {L E : Nat → Bool} {ρ : RM} {a : Act} {w : World}
    (h : Inv S fr0 H0 ρ₀ w₀ L E ρ a w) : ∃ ρ', Inv S fr0 H0 ρ₀ w₀ L (effL S L) ρ' a w := by
  have step : ∀ m, ∃ ρ', Inv S fr0 H0 ρ₀ w₀ L (fun k => E k || (decide (k < m) && effL S L k)) ρ' a w := by
    intro m
    induction m with
    | zero => exact ⟨ρ, by simpa using h⟩
    | succ m ih =>
      obtain ⟨ρ1, h1⟩ := ih
      have ext : ∀ k, k ≠ m → (E k || (decide (k < m + 1) && effL S L k)) = (E k || (decide (k < m) && effL S L k)) := fun k hk => by
        have : (k < m + 1) ↔ (k < m) := by omega
        simp only [this]
      cases hEm : E m with
      | true =>
        refine ⟨ρ1, ?_⟩
        have : (fun k => E k || (decide (k < m + 1) && effL S L k)) = (fun k => E k || (decide (k < m) && effL S L k)) := by
          funext k
          by_cases e : k = m
          · subst e; simp [hEm]
          · exact ext k e
        rw [this]; exact h1
      | false =>
        cases hem : effL S L m with
        | false =>
          refine ⟨ρ1, ?_⟩
          have : (fun k => E k || (decide (k < m + 1) && effL S L k)) = (fun k => E k || (decide (k < m) && effL S L k)) := by
            funext k
            by_cases e : k = m
            · subst e; simp [hem]
            · exact ext k e
          rw [this]; exact h1
        | true =>
          have hLm := effL_le hem
          have hKm : isK S m = true := by
            cases hk : isK S m with
            | true => rfl
            | false => have := h.nk m hLm hk; rw [hEm] at this; cases this
          obtain ⟨ρ2, h2⟩ := h1.activate hr hown (i := m) hLm (by simp [hEm]) (fun j hj hk => by
            simp only [Bool.or_eq_true, Bool.and_eq_true, decide_eq_true_eq]
            exact .inr ⟨hj, effL_pre hem hKm hj hk⟩)
          refine ⟨ρ2, ?_⟩
          have : (fun k => E k || (decide (k < m + 1) && effL S L k)) = (fun k => if k = m then true else (E k || (decide (k < m) && effL S L k))) := by
            funext k
            by_cases e : k = m
            · subst e; simp [hem]
            · rw [if_neg e]; exact ext k e
          rw [this]; exact h2
  obtain ⟨ρ', h'⟩ := step S.length
  refine ⟨ρ', ?_⟩
  have : (fun k => E k || (decide (k < S.length) && effL S L k)) = effL S L := by
    funext k
    cases hk : effL S L k with
    | true =>
      by_cases hlt : k < S.length
      · simp [hlt]
      · have hKk : isK S k = false := by simp [isK, List.getElem?_eq_none (by omega : S.length ≤ k)]
        simp [h.nk k (effL_le hk) hKk]
    | false =>
      cases hE : E k with
      | false => simp
      | true =>
        exfalso
        have hLk := h.le k hE
        have : effL S L k = true := by
          cases hK : isK S k with
          | false => rw [effL_nk hK]; exact hLk
          | true => exact (effL_k hK).2 ⟨hLk, fun j hj hkj => h.le j (h.pre k j hE hK hj hkj)⟩
        rw [hk] at this; cases this
  rw [this] at h'; exact h'

/-- A real block more that no name stands for. -/
theorem HR.push {ρ : RM} {H : Hp} {w w' : World} {o : Obj} (h : HR ρ H w) (hw : w'.heap = w.heap.push o) : HR ρ H w' :=
  ⟨fun b k hb => let ⟨bi, h1, h2⟩ := h.blk b k hb
    ⟨bi, h1, h2.keepAt (RM.le.refl ρ) fun hv => by
      have := h2.lt hv
      rw [hw, Array.getElem?_push, if_neg (by omega)]⟩, h.fresh, h.inj, h.gl⟩
theorem Ext.push {ρ : RM} {H : Hp} {w w' : World} {o : Obj} (hw : w'.heap = w.heap.push o) (hos : w'.os = w.os) (htape : w'.tape = w.tape) (hout : w'.output = w.output) : Ext ρ H w ρ H w' :=
  ⟨RM.le.refl ρ, hos, htape, hout, by rw [hw]; simp, fun r hr _ => by rw [hw, Array.getElem?_push, if_neg (by omega)], fun b k bi h hk hb _ => ⟨b, k, bi, h, hk, id, hb, rfl⟩⟩

theorem floats_spec {M : List Nat} {i j : Nat} (h : floats M i j = true) (k : Nat) (hk : anc M k j = true) : anc M k i = true := by
  by_cases hl : k < M.length
  · have := List.all_eq_true.1 h k (List.mem_range.2 hl)
    simpa [hk] using this
  · unfold anc at hk
    rw [List.getD_eq_getElem?_getD, List.getElem?_eq_none (by omega)] at hk
    simp at hk

theorem wpAny_of_run (hcall : CallOK P call) {S : List St} {fr0 frN : Fr} {H0 HN : Hp} (hr : Run P call ops ops.toList S fr0 H0 frN HN) (hback : backOK ops.toList 0 = true)
    (hchk : chkAll P ops (masks ops.toList []) 0 S = true) {Q : Exit → Act → World → Prop} {ρ₀ : RM} {w₀ : World} (hQ : ∀ a' w', PostR ρ₀ H0 w₀ frN HN a' w' → Q .normal a' w') :
    ∀ (fuel : Nat) (listed : Array Bool) (a : Act) (w : World) (ρ : RM), listed.size = ops.size → cntF listed.toList ≤ fuel → Down ops (fun i => listed.getD i false = true) →
      Inv S fr0 H0 ρ₀ w₀ (fun i => listed.getD i false) (effL S fun i => listed.getD i false) ρ a w → wpAny P .any ops Q fuel listed a w := by
  have hlen : S.length = ops.size := by rw [hr.length]; simp
  have pair : ∀ j k sj sk, j < k → S[j]? = some sj → S[k]? = some sk → chkPair P ops (masks ops.toList []) j sj k sk = true := fun j k sj sk h1 h2 h3 => by
    have := chkAll_spec hchk j k sj sk h1 h2 h3
    simpa using this
  have own : Own S := by
    have lt : ∀ (i j : Nat) (si sj : St) (t : Tmp), i < j → S[i]? = some si → S[j]? = some sj → (isMk si.o.op = true ∨ isMk sj.o.op = true) → si.o.dst = some t → sj.o.dst = some t → False := by
      intro i j si sj t hij hi hj hm h1 h2
      have := pair i j si sj hij hi hj
      simp only [chkPair, Bool.and_eq_true, Bool.or_eq_true, Bool.not_eq_true'] at this
      rcases this.1 with ⟨e1, e2⟩ | e
      · rcases hm with e | e
        · rw [e] at e1; cases e1
        · rw [e] at e2; cases e2
      · exact dstNe_spec e t h1 h2
    intro i j si sj t hne hi hj hm h1 h2
    rcases Nat.lt_or_gt_of_ne hne with h | h
    · exact lt i j si sj t h hi hj (.inl hm) h1 h2
    · exact lt j i sj si t h hj hi (.inr hm) h2 h1
  have pairC : ∀ j k sj sk, j < k → S[j]? = some sj → S[k]? = some sk → anc (masks ops.toList []) k j = false →
      sj.o.apart ops sk.o = true ∧ (sj.kind = 2 → sk.kind = 2 → isMk sk.o.op = true ∧ ∀ m, anc (masks ops.toList []) m k = true → anc (masks ops.toList []) m j = true) ∧
        (sj.kind = 2 → sk.kind = 1 → sameRead P ops sk sj.h0 = true) ∧ (sj.kind = 1 → sk.kind = 2 → sameRead P ops sj sk.h1 = true) := by
    intro j k sj sk h1 h2 h3 h4
    have := pair j k sj sk h1 h2 h3
    simp only [chkPair, h4, Bool.false_or, Bool.and_eq_true] at this
    obtain ⟨_, ⟨⟨p1, p2⟩, p3⟩, p4⟩ := this
    refine ⟨p1, fun e1 e2 => ?_, fun e1 e2 => by simpa [e1, e2] using p3, fun e1 e2 => by simpa [e1, e2] using p4⟩
    have : isMk sk.o.op = true ∧ floats (masks ops.toList []) j k = true := by simpa [e1, e2] using p2
    exact ⟨this.1, floats_spec this.2⟩
  have getK : ∀ j, isK S j = true → ∃ sj, S[j]? = some sj ∧ sj.kind = 2 := fun j hj => by
    unfold isK at hj
    split at hj
    · rename_i sj hsj
      exact ⟨sj, hsj, by simpa using hj⟩
    · cases hj
  -- all carried out
  have fin : ∀ (listed : Array Bool) (a : Act) (w : World) (ρ : RM), listed.size = ops.size → (∀ i, i < ops.size → listed.getD i false = true) →
      Inv S fr0 H0 ρ₀ w₀ (fun i => listed.getD i false) (effL S fun i => listed.getD i false) ρ a w → Q .normal a w := by
    intro listed a w ρ hs hall hI
    have hE1 : ∀ j, j < ops.size → effL S (fun i => listed.getD i false) j = true := fun j hj => by
      cases hK : isK S j with
      | false => rw [effL_nk hK]; exact hall j hj
      | true => exact (effL_k hK).2 ⟨hall j hj, fun l hl _ => hall l (by omega)⟩
    have hE : ∀ j s, S[j]? = some s → effL S (fun i => listed.getD i false) (0 + j) = true := fun j s hj => by
      have := (List.getElem?_eq_some_iff.1 hj).1
      rw [Nat.zero_add]; exact hE1 j (by omega)
    have hH := hI.H
    have hX := hI.X
    rw [hr.hpEnd 0 hE] at hH hX
    refine hQ a w ⟨ρ, ⟨by rw [hI.n, hr.n], hI.d, fun t x hx => hI.T t x (fun j s _ hf hj => ?_) ?_⟩, hH, hX⟩
    · have := (List.getElem?_eq_some_iff.1 hj).1
      rw [hE1 j (by omega)] at hf; cases hf
    · rw [hr.tvEnd 0 hE]; exact hx
  have allDone : ∀ (listed : Array Bool), listed.size = ops.size → Region.ready .any ops listed = [] → ∀ i, i < ops.size → listed.getD i false = true := by
    intro listed hs hready i
    induction i using Nat.strongRecOn with
    | _ i ih =>
      intro hi
      cases hg : listed.getD i false with
      | true => rfl
      | false =>
        exfalso
        have hmem : i ∈ Region.ready .any ops listed := by
          rw [mem_ready]
          refine ⟨?_, ops[i], Array.getElem?_eq_getElem hi, fun e he hb => ?_⟩
          · have hlt : i < listed.size := by omega
            simp [Array.getElem?_eq_getElem hlt] at hg ⊢
            exact hg
          · have := backOK_spec hback i ops[i] (by simp [hi]) e he hb
            exact ih e.on (by omega) (by omega)
        rw [hready] at hmem
        cases hmem
  intro fuel
  induction fuel with
  | zero =>
    intro listed a w ρ hs hc hD hI
    have hall : ∀ i, i < ops.size → listed.getD i false = true := fun i hi => by
      have hlt : i < listed.size := by omega
      have := cntF_zero listed.toList (by omega) i listed[i] (by simp [hlt])
      simp [Array.getElem?_eq_getElem hlt, this]
    refine ⟨?_, fin listed a w ρ hs hall hI⟩
    apply List.eq_nil_iff_forall_not_mem.2
    intro i hi
    obtain ⟨h0, o, ho, _⟩ := mem_ready.1 hi
    have hlt := (Array.getElem?_eq_some_iff.1 ho).1
    have h1 := hall i hlt
    have hlt' : i < listed.size := by omega
    simp [Array.getElem?_eq_getElem hlt'] at h0 h1
    rw [h0] at h1; cases h1
  | succ fuel ih =>
    intro listed a w ρ hs hc hD hI
    refine ⟨fun h0 => fin listed a w ρ hs (allDone listed hs h0) hI, fun i hi => ?_⟩
    obtain ⟨h0, o, ho, hdeps⟩ := mem_ready.1 hi
    have hlt := (Array.getElem?_eq_some_iff.1 ho).1
    have hltl : i < listed.size := by omega
    have hun : listed.getD i false = false := by
      simp [Array.getElem?_eq_getElem hltl] at h0 ⊢; exact h0
    obtain ⟨s, hsi⟩ : ∃ s, S[i]? = some s := ⟨S[i]'(by omega), List.getElem?_eq_getElem (by omega)⟩
    obtain ⟨hso, hsn, ⟨frn, hput⟩, hkind⟩ := hr.at hsi
    have hoo : s.o = o := by
      have : ops[i]? = some s.o := by simpa using hso
      rw [ho] at this; exact (Option.some.inj this).symm
    rw [hoo] at hput hkind
    have hM0 : ∀ m i, anc [] m i = true → ∀ E : Nat → Prop, E m → E i := fun m i h => by simp [anc] at h
    -- what has been carried out
    have done : ∀ j l, listed.getD j false = true → anc (masks ops.toList []) j l = true → listed.getD l false = true := fun j l hj hl =>
      masks_spec hD ops.toList [] (by simp) (fun m i h hm => hM0 m i h (fun i => listed.getD i false = true) hm) j l hl hj
    have up : ∀ j, listed.getD j false = true → anc (masks ops.toList []) j i = false := fun j hj => by
      cases hg : anc (masks ops.toList []) j i with
      | false => rfl
      | true =>
        have := done j i hj hg
        rw [hun] at this
        cases this
    have dn : ∀ j, j ≠ i → anc (masks ops.toList []) i j = true → listed.getD j false = true := fun j hne hj => by
      have hD' : Down ops (fun k => k = i ∨ listed.getD k false = true) := by
        intro k o' hk hE e he hb
        rcases hE with rfl | hE
        · rw [ho] at hk; cases hk
          exact .inr (hdeps e he hb)
        · exact .inr (hD k o' hk hE e he hb)
      have := masks_spec hD' ops.toList [] (by simp) (fun m i' h hm => hM0 m i' h (fun k => k = i ∨ listed.getD k false = true) hm) i j hj (.inl rfl)
      exact this.resolve_left hne
    generalize hLdef : (fun i => listed.getD i false) = L at hI
    have hLl : ∀ k, L k = listed.getD k false := fun k => by rw [← hLdef]
    have hLi : L i = false := by rw [hLl]; exact hun
    have hEi : effL S L i = false := by
      cases hg : effL S L i with
      | false => rfl
      | true => have := effL_le hg; rw [hLi] at this; cases this
    -- what i waits for, counts
    have effOf : ∀ j, j < i → anc (masks ops.toList []) i j = true → effL S L j = true := fun j hj ha => by
      have hLj : L j = true := by rw [hLl]; exact dn j (by omega) ha
      cases hK : isK S j with
      | false => rw [effL_nk hK]; exact hLj
      | true =>
        refine (effL_k hK).2 ⟨hLj, fun l hl hkl => ?_⟩
        rw [hLl]
        cases hg : anc (masks ops.toList []) j l with
        | true => exact done j l (by rw [← hLl]; exact hLj) hg
        | false =>
          obtain ⟨sl, hsl, hkl2⟩ := getK l hkl
          obtain ⟨sj, hsj, hkj2⟩ := getK j hK
          exact dn l (by omega) (((pairC l j sl sj hl hsl hsj hg).2.1 hkl2 hkj2).2 i ha)
    have notLooked : ∀ t, t ∈ o.looksAt ops → ∀ j sj, S[j]? = some sj → sj.o.dst = some t → (j < i ∧ effL S L j = true) ∨ L j = false := by
      intro t hmem j sj hj hdst
      rcases Nat.lt_trichotomy j i with h | h | h
      · cases hg : anc (masks ops.toList []) i j with
        | true => exact .inl ⟨h, effOf j h hg⟩
        | false =>
          obtain ⟨hap, _⟩ := pairC j i sj s h hj hsi hg
          rw [hoo] at hap
          exact absurd hmem ((Oper.apart_spec hap).1 t hdst)
      · rw [h]; exact .inr hLi
      · cases hg : L j with
        | false => exact .inr rfl
        | true =>
          obtain ⟨hap, _⟩ := pairC i j s sj h hsi hj (up j (by rw [← hLl]; exact hg))
          rw [hoo] at hap
          exact absurd hmem ((Oper.apart_spec hap).2.2 t hdst)
    -- the frame that i looks at
    have hTL : TR ρ (look (o.looksAt ops) s.fr.t.get) a := by
      intro t x hx
      unfold look at hx
      split at hx
      · rename_i hmem
        have hmem' : t ∈ o.looksAt ops := by simpa using hmem
        refine hI.T t x (fun j sj hLj hEj hj hdst => ?_) ?_
        · rcases notLooked t hmem' j sj hj hdst with ⟨_, e⟩ | e
          · rw [hEj] at e; cases e
          · rw [hLj] at e; cases e
        · rw [hr.tv (i := i) (si := s) 0 (Nat.zero_le _) (by simpa using hsi) ?_ ?_]
          · exact hx
          · intro j sj hj hji hdst
            rw [Nat.zero_add] at hji ⊢
            cases hg : anc (masks ops.toList []) i j with
            | true => exact effOf j hji hg
            | false =>
              obtain ⟨hap, _⟩ := pairC j i sj s hji hj hsi hg
              rw [hoo] at hap
              exact absurd hmem' ((Oper.apart_spec hap).1 t hdst)
          · intro j sj hj hij hdst
            rw [Nat.zero_add] at hij ⊢
            cases hg : effL S L j with
            | false => rfl
            | true =>
              rcases notLooked t hmem' j sj hj hdst with ⟨e, _⟩ | e
              · omega
              · rw [effL_le hg] at e; cases e
      · cases hx
    have hL' : ∀ k, (listed.setIfInBounds i true).getD k false = if k = i then true else L k := fun k => by
      by_cases e : k = i
      · subst e; simp [hltl]
      · rw [if_neg e, getD_set_ne false (Ne.symm e), hLl]
    -- behind i
    have cont : ∀ (E1 : Nat → Bool) (ρ1 : RM) (v : Value) (w1 : World), Inv S fr0 H0 ρ₀ w₀ (fun k => if k = i then true else L k) E1 ρ1 (a.put o.dst v) w1 → wpAny P .any ops Q fuel (listed.setIfInBounds i true) (a.put o.dst v) w1 := by
      intro E1 ρ1 v w1 hI1
      obtain ⟨ρ2, hI2⟩ := hI1.saturate hr own
      have eL : (fun k => if k = i then true else L k) = fun k => (listed.setIfInBounds i true).getD k false := funext fun k => (hL' k).symm
      rw [eL] at hI2
      refine ih _ _ _ ρ2 (by simp [hs]) ?_ ?_ hI2
      · have := cntF_set listed.toList i (by
          have : listed[i] = false := by simpa [Array.getElem?_eq_getElem hltl] using hun
          simp [hltl, this])
        simp only [Array.toList_setIfInBounds]
        omega
      · intro k o' hk hE e he hb
        simp only [hL'] at hE ⊢
        by_cases e2 : e.on = i
        · rw [if_pos e2]
        · rw [if_neg e2, hLl]
          by_cases e1 : k = i
          · subst e1
            rw [ho] at hk; cases hk
            exact hdeps e he hb
          · rw [if_neg e1, hLl] at hE
            exact hD k o' hk hE e he hb
    have putOther : ∀ (v : Value) (t : Tmp), o.dst ≠ some t → (a.put o.dst v).tmps[t]? = a.tmps[t]? := fun v t hne => by
      cases hod : o.dst with
      | none => rfl
      | some d =>
        have hne : d ≠ t := fun e => hne (by rw [hod, e])
        simp only [Act.put]
        rw [Array.getElem?_setIfInBounds_ne hne]
    have putSame : ∀ (v : Value) (t : Tmp), o.dst = some t → (a.put o.dst v).tmps[t]? = some v := fun v t hdst => by
      have hlt2 : t < a.tmps.size := by
        simp only [Fr.put, hdst] at hput
        split at hput
        · rw [hI.n, ← hsn]; assumption
        · cases hput
      simp [Act.put, hdst, hlt2]
    have putN : ∀ v, (a.put o.dst v).tmps.size = fr0.n := fun v => by cases hod : o.dst <;> simp [Act.put, hI.n]
    have putD : ∀ v, (a.put o.dst v).defers = [] := fun v => by cases hod : o.dst <;> simp [Act.put, hI.d]
    have next : ∀ (ρ' : RM) (v : Value) (w' : World) (H' : Hp), RM.le ρ ρ' → VR ρ' s.x v → (isK S i = true → ∀ j, j < i → isK S j = true → effL S L j = true) →
        hpL (fun k => if k = i then true else effL S L k) 0 S H0 = H' → HR ρ' H' w' → Ext ρ₀ H0 w₀ ρ' H' w' →
        (∀ r, r < w.heap.size → (∀ b q bj, (hpL (effL S L) 0 S H0).t.get b = some q → q.void = false → ρ b = some bj → bj.r ≠ r) →
          w'.heap[r]? = w.heap[r]? ∧ ∀ b q bj, H'.t.get b = some q → q.void = false → ρ' b = some bj → bj.r ≠ r) →
        wpAny P .any ops Q fuel (listed.setIfInBounds i true) (a.put o.dst v) w' := by
      intro ρ' v w' H' hle hv hbefore hH' hHR hExt hpres
      refine cont (fun k => if k = i then true else effL S L k) ρ' v w' ⟨?_, ?_, ?_, ?_, putN v, putD v, by rw [hH']; exact hHR, by rw [hH']; exact hExt, ?_⟩
      · intro k hk
        by_cases e : k = i
        · simp [e]
        · simp only [if_neg e] at hk ⊢; exact effL_le hk
      · intro k hk hkk
        by_cases e : k = i
        · simp [e]
        · simp only [if_neg e] at hk ⊢; rw [effL_nk hkk]; exact hk
      · intro k j hk hkk hjk hjj
        by_cases e2 : j = i
        · simp [e2]
        · simp only [if_neg e2]
          by_cases e : k = i
          · subst e; exact hbefore hkk j hjk hjj
          · simp only [if_neg e] at hk; exact effL_pre hk hkk hjk hjj
      · intro t x hfree hx
        by_cases hdst : o.dst = some t
        · have hx' : tvL (fun k => if k = i then true else effL S L k) t 0 S (fr0.t.get t) = some s.x := by
            refine tvL_at S 0 _ (Nat.zero_le _) (i := i) (by simpa using hsi) (by simp) (by rw [hoo]; exact hdst) fun j sj hj hij hd2 => ?_
            rw [Nat.zero_add] at hij ⊢
            show (if j = i then true else effL S L j) = false
            rw [if_neg (by omega)]
            cases hg : effL S L j with
            | false => rfl
            | true =>
              obtain ⟨hap, _⟩ := pairC i j s sj hij hsi hj (up j (by rw [← hLl]; exact effL_le hg))
              rw [hoo] at hap
              exact absurd hd2 ((Oper.apart_spec hap).2.1 t hdst)
          rw [hx'] at hx; cases hx
          exact ⟨v, putSame v t hdst, hv⟩
        · have hx' : tvL (fun k => if k = i then true else effL S L k) t 0 S (fr0.t.get t) = tvL (effL S L) t 0 S (fr0.t.get t) := by
            refine tvL_congr S 0 _ fun j sj hj hd2 => ?_
            simp only [Nat.zero_add]
            by_cases e : j = i
            · subst e
              rw [hsi] at hj; cases hj
              rw [hoo] at hd2
              exact absurd hd2 hdst
            · rw [if_neg e]
          rw [hx'] at hx
          obtain ⟨u, h1, h2⟩ := hI.T t x (fun j sj hLj hEj hj => by
            have e : j ≠ i := fun e => by rw [e, hLi] at hLj; cases hLj
            exact hfree j sj (by simp only [if_neg e]; exact hLj) (by simp only [if_neg e]; exact hEj) hj) hx
          exact ⟨u, by rw [putOther v t hdst]; exact h1, h2.mono hle⟩
      · obtain ⟨R, hR, hP⟩ := hI.pend
        refine ⟨R, fun k j hLk hEk hLj hEj hne => ?_, fun k hLk hEk => ?_⟩
        · have e1 : k ≠ i := fun e => by simp [e] at hEk
          have e2 : j ≠ i := fun e => by simp [e] at hEj
          simp only [if_neg e1] at hEk hLk
          simp only [if_neg e2] at hEj hLj
          exact hR k j hLk hEk hLj hEj hne
        · have e1 : k ≠ i := fun e => by simp [e] at hEk
          simp only [if_neg e1] at hEk hLk
          obtain ⟨s', c', cc', ty', gg', v', g1, g2, g3, g4, g4b, g5, g6, g7, g8, g9, g10⟩ := hP k hLk hEk
          obtain ⟨p1, p2⟩ := hpres (R k) (Array.getElem?_eq_some_iff.1 g7).1 g9
          rw [hH']
          exact ⟨s', c', cc', ty', gg', v', g1, g2, g3, g4, g4b, fun t ht => by rw [putOther v t (by rw [← hoo]; exact own k i s' s t e1 g1 hsi g3 ht)]; exact g5 t ht, g6, p1.trans g7, g8.mono hle, p2, g10⟩
    have hsame : s.kind ≠ 2 → hpL (fun k => if k = i then true else effL S L k) 0 S H0 = hpL (effL S L) 0 S H0 := fun hk => by
      refine hpL_congr S 0 _ fun j sj hj hd2 => ?_
      simp only [Nat.zero_add]
      by_cases e : j = i
      · subst e
        rw [hsi] at hj; cases hj
        exact absurd hd2 hk
      · rw [if_neg e]
    have notK : s.kind ≠ 2 → isK S i = false := fun hk => by
      cases hg : isK S i with
      | false => rfl
      | true => exact absurd ((isK_iff hsi).1 hg) hk
    have hH := hI.H
    have hX := hI.X
    have still : ∀ (v : Value), VR ρ s.x v → s.kind ≠ 2 → wpAny P .any ops Q fuel (listed.setIfInBounds i true) (a.put o.dst v) w := fun v hv hk =>
      next ρ v w _ (RM.le.refl ρ) hv (fun h => by rw [notK hk] at h; cases h) (hsame hk) hH hX fun r _ hn => ⟨rfl, hn⟩
    have hOp := evOp_sound hH.gl hTL
    unfold wpOp
    simp only [ho]
    rcases hkind with ⟨hk, hw, hx⟩ | ⟨hk, hw, hx⟩ | ⟨hk, hw, hx⟩
    · -- not carried out
      rw [wantT_sound hTL hw]
      simp only [Bool.false_eq_true, if_false]
      exact still undef (by rw [hx]; exact .tuple (cs := []) .nil) (by omega)
    · -- a look
      rw [wantT_sound hTL hw]
      simp only [if_true]
      left
      have hread : readA P (evOp (look (o.looksAt ops) s.fr.t.get)) (hpL (effL S L) 0 S H0) o.op = some s.x := by
        have bySame : ∀ H, sameRead P ops s H = true → readA P (evOp (look (o.looksAt ops) s.fr.t.get)) H o.op = some s.x := fun H hH => by
          unfold sameRead at hH
          rw [hoo] at hH
          split at hH
          · rename_i y hy
            rw [hy, AV.beq_eq _ _ hH]
          · cases hH
        by_cases hlater : ∃ j, j < S.length ∧ (i < j ∧ effL S L j = true ∧ ∃ sj, S[j]? = some sj ∧ sj.kind = 2)
        · obtain ⟨j, hjl, ⟨hij, hEj, sj, hsj, hkj⟩, hlast⟩ := last_of _ hlater
          have hhp := hpL_at (E := effL S L) (i := j) (si := sj) S 0 H0 (Nat.zero_le _) (by simpa using hsj) hEj hkj (fun l sl hl hjl2 hkl => by
            rw [Nat.zero_add] at hjl2 ⊢
            cases hg : effL S L l with
            | false => rfl
            | true =>
              have hll := (List.getElem?_eq_some_iff.1 hl).1
              exact absurd ⟨by omega, hg, sl, hl, hkl⟩ (hlast l hjl2 hll))
          rw [hhp]
          exact bySame _ ((pairC i j s sj hij hsi hsj (up j (by rw [← hLl]; exact effL_le hEj))).2.2.2 hk hkj)
        · by_cases hearly : ∃ j, j < i ∧ (effL S L j = false ∧ ∃ sj, S[j]? = some sj ∧ sj.kind = 2)
          · obtain ⟨j, hji, ⟨hEj, sj, hsj, hkj⟩, hfirst⟩ := first_of _ hearly
            have hanc : anc (masks ops.toList []) i j = false := by
              cases hg : anc (masks ops.toList []) i j with
              | false => rfl
              | true =>
                have := effOf j hji hg
                rw [hEj] at this; cases this
            have hhp := hr.hp (E := effL S L) (i := j) (si := sj) 0 (Nat.zero_le _) (by simpa using hsj)
              (fun l sl hl hlj hkl => by
                rw [Nat.zero_add] at hlj ⊢
                cases hg : effL S L l with
                | true => rfl
                | false => exact absurd ⟨hg, sl, hl, hkl⟩ (hfirst l hlj))
              (fun l sl hl hjl hkl => by
                rw [Nat.zero_add] at hjl ⊢
                by_cases e : l = j
                · rw [e]; exact hEj
                · cases hg : effL S L l with
                  | false => rfl
                  | true =>
                    have := effL_pre hg ((isK_iff hl).2 hkl) (by omega : j < l) ((isK_iff hsj).2 hkj)
                    rw [hEj] at this; cases this)
            rw [hhp]
            exact bySame _ ((pairC j i sj s hji hsj hsi hanc).2.2.1 hkj hk)
          · have hhp := hr.hp (E := effL S L) (i := i) (si := s) 0 (Nat.zero_le _) (by simpa using hsi)
              (fun l sl hl hli hkl => by
                rw [Nat.zero_add] at hli ⊢
                cases hg : effL S L l with
                | true => rfl
                | false => exact absurd ⟨l, hli, hg, sl, hl, hkl⟩ hearly)
              (fun l sl hl hil hkl => by
                rw [Nat.zero_add] at hil ⊢
                by_cases e : l = i
                · rw [e]; exact hEi
                · cases hg : effL S L l with
                  | false => rfl
                  | true =>
                    have hll := (List.getElem?_eq_some_iff.1 hl).1
                    exact absurd ⟨l, hll, by omega, hg, sl, hl, hkl⟩ hlater)
            rw [hhp]; exact hx
      exact readA_wp hOp hH hread fun v hv => still v hv (by omega)
    · -- it may change memory
      rw [wantT_sound hTL hw]
      simp only [if_true]
      left
      have hKi : isK S i = true := (isK_iff hsi).2 hk
      cases hmk : isMk o.op with
      | true =>
        have hwr : writeA P (evOp (look (o.looksAt ops) s.fr.t.get)) s.h0 o.op = some (s.x, s.h1) := by
          unfold opW at hx
          split at hx
          · rename_i r hr'
            rw [hr', hx]
          · split at hx
            · rename_i c hc
              rw [hc] at hmk; simp [isMk] at hmk
            · cases hx
        obtain ⟨l, cc, ty, gg, hh1, hvr, hgr, hrun⟩ := mk_sound hOp hmk hwr
        obtain ⟨v, hv1, hv2⟩ := hrun w
        unfold Oper.wp
        rw [hv1]
        show wpAny P .any ops Q fuel (listed.setIfInBounds i true) (a.put o.dst v) (w.alloc (.cells cc ty))
        obtain ⟨R, hR, hP⟩ := hI.pend
        have hlive : ∀ b q bj, (hpL (effL S L) 0 S H0).t.get b = some q → q.void = false → ρ b = some bj → bj.r < w.heap.size := fun b q bj hb hq hbj => by
          obtain ⟨bk, g1, g2⟩ := hH.blk b q hb
          rw [hbj] at g1; cases g1
          exact g2.lt hq
        have hpushed : ∀ r, r < w.heap.size → (w.alloc (.cells cc ty)).heap[r]? = w.heap[r]? := fun r hr' => by
          show (w.heap.push _)[r]? = _
          rw [Array.getElem?_push, if_neg (by omega)]
        have ltOf : ∀ k, L k = true → effL S L k = false → R k < w.heap.size := fun k hLk hEk => by
          obtain ⟨s', c', cc', ty', gg', v', g1, g2, g3, g4, g4b, g5, g6, g7, g8, g9, g10⟩ := hP k hLk hEk
          exact (Array.getElem?_eq_some_iff.1 g7).1
        have oldL : ∀ k, k ≠ i → (if k = i then true else L k) = true → L k = true := fun k e h => by rwa [if_neg e] at h
        refine cont (effL S L) ρ v _ ⟨?_, ?_, ?_, ?_, putN v, putD v, hH.push rfl, hX.trans (Ext.push rfl rfl rfl rfl), fun k => if k = i then w.heap.size else R k, ?_, ?_⟩
        · intro k hk'
          by_cases e : k = i
          · simp [e]
          · simp only [if_neg e]; exact effL_le hk'
        · intro k hk' hkk
          have e : k ≠ i := fun e => by rw [e, hKi] at hkk; cases hkk
          rw [effL_nk hkk]; exact oldL k e hk'
        · intro k j hk' hkk hjk hjj
          exact effL_pre hk' hkk hjk hjj
        · intro t x hfree hx'
          have hne : o.dst ≠ some t := by rw [← hoo]; exact hfree i s (by simp) hEi hsi
          obtain ⟨u, h1, h2⟩ := hI.T t x (fun j sj hLj hEj hj => by
            have e : j ≠ i := fun e => by rw [e, hLi] at hLj; cases hLj
            exact hfree j sj (by simp only [if_neg e]; exact hLj) hEj hj) hx'
          exact ⟨u, by rw [putOther v t hne]; exact h1, h2⟩
        · intro k j hLk hEk hLj hEj hne
          by_cases e1 : k = i
          · have e2 : j ≠ i := fun e => hne (e1.trans e.symm)
            simp only [if_pos e1, if_neg e2]
            have := ltOf j (oldL j e2 hLj) hEj
            omega
          · by_cases e2 : j = i
            · simp only [if_neg e1, if_pos e2]
              have := ltOf k (oldL k e1 hLk) hEk
              omega
            · simp only [if_neg e1, if_neg e2]
              exact hR k j (oldL k e1 hLk) hEk (oldL j e2 hLj) hEj hne
        · intro k hLk hEk
          by_cases e1 : k = i
          · subst e1
            simp only [if_true]
            refine ⟨s, l, cc, ty, gg, v, hsi, hk, by rw [hoo]; exact hmk, hh1, hgr, fun t ht => putSame v t (by rw [← hoo]; exact ht), hX.size, heap_alloc_new w _, hvr, fun b q bj hb hq hbj => ?_, hv2⟩
            have := hlive b q bj hb hq hbj
            omega
          · simp only [if_neg e1]
            obtain ⟨s', c', cc', ty', gg', v', g1, g2, g3, g4, g4b, g5, g6, g7, g8, g9, g10⟩ := hP k (oldL k e1 hLk) hEk
            exact ⟨s', c', cc', ty', gg', v', g1, g2, g3, g4, g4b, fun t ht => by rw [putOther v t (by rw [← hoo]; exact own k i s' s t e1 g1 hsi g3 ht)]; exact g5 t ht, g6,
              (hpushed _ (Array.getElem?_eq_some_iff.1 g7).1).trans g7, g8, g9, g10⟩
      | false =>
        have hbefore : ∀ j, j < i → isK S j = true → effL S L j = true := fun j hj hkj => by
          obtain ⟨sj, hsj, hkj2⟩ := getK j hkj
          cases hg : anc (masks ops.toList []) i j with
          | true => exact effOf j hj hg
          | false =>
            have := ((pairC j i sj s hj hsj hsi hg).2.1 hkj2 hk).1
            rw [hoo, hmk] at this; cases this
        have hafter : ∀ l, isK S l = true → i < l → effL S L l = false := fun l hkl hil => by
          cases hg : effL S L l with
          | false => rfl
          | true => have := effL_pre hg hkl hil hKi; rw [hEi] at this; cases this
        have hhp := hr.hp (E := effL S L) (i := i) (si := s) 0 (Nat.zero_le _) (by simpa using hsi)
          (fun l sl hl hli hkl => by
            rw [Nat.zero_add] at hli ⊢
            exact hbefore l hli ((isK_iff hl).2 hkl))
          (fun l sl hl hil hkl => by
            rw [Nat.zero_add] at hil ⊢
            by_cases e : l = i
            · rw [e]; exact hEi
            · exact hafter l ((isK_iff hl).2 hkl) (by omega))
        have hh1 : hpL (fun k => if k = i then true else effL S L k) 0 S H0 = s.h1 := by
          refine hpL_at S 0 H0 (Nat.zero_le _) (i := i) (by simpa using hsi) (by simp) hk fun l sl hl hil hkl => ?_
          rw [Nat.zero_add] at hil ⊢
          show (if l = i then true else effL S L l) = false
          rw [if_neg (by omega)]
          exact hafter l ((isK_iff hl).2 hkl) hil
        rw [hhp] at hH hX
        refine opW_wp hcall hOp hH hx fun ρ' v w' hv hH' hX' => ?_
        refine next ρ' v w' s.h1 hX'.le hv (fun _ => hbefore) hh1 hH' (hX.trans hX') fun r hr' hn => ?_
        rw [hhp] at hn
        refine ⟨hX'.same r hr' fun b q bj hb hq hbj => hn b q bj hb (Blk.wr_void hq) hbj, fun b q bj hb hq hbj e => ?_⟩
        obtain ⟨b0, q0, bj0, k1, k2, _, k3, k4⟩ := hX'.img b q bj hb hq hbj (by rw [e]; exact hr')
        exact hn b0 q0 bj0 k1 k2 k3 (k4.trans e)

theorem evDraw_sound (hcall : CallOK P call) (hmix : P.follows .mixedOrders = true) {Q : Exit → Act → World → Prop} {id : Nat} {fr frN : Fr} {H HN : Hp} {ρ : RM} {a : Act} {w : World}
    (h : evDraw P call ops fr H = some (frN, HN)) (hf : FrR ρ fr a) (hH : HR ρ H w) (hQ : ∀ a' w', PostR ρ H w frN HN a' w' → Q .normal a' w') : (Code.region id ops true).wp P Q a w := by
  unfold evDraw at h
  split at h
  · rename_i S r hrun
    split at h
    · rename_i hc
      simp only [Option.some.injEq] at h; subst h
      simp only [Bool.and_eq_true] at hc
      have hr := runD_run hrun
      have hL0 : ∀ (i : Nat), (Array.replicate ops.size false).getD i false = false := fun i => by
        by_cases hi : i < ops.size <;> simp [hi]
      have hE0 : ∀ (i : Nat), effL S (fun i => (Array.replicate ops.size false).getD i false) i = false := fun i => by
        cases hg : effL S (fun i => (Array.replicate ops.size false).getD i false) i with
        | false => rfl
        | true => have := effL_le hg; simp only [hL0] at this; cases this
      have hHp : hpL (effL S fun i => (Array.replicate ops.size false).getD i false) 0 S H = H := hpL_none S 0 H fun j s _ _ => hE0 _
      refine wp_region_any hmix (wpAny_of_run hcall hr hc.1 hc.2 (ρ₀ := ρ) (w₀ := w) hQ ops.size (Array.replicate ops.size false) a _ ρ (by simp) ?_ ?_ ⟨?_, ?_, ?_, ?_, hf.size, hf.defers, ?_, ?_, fun _ => 0, ?_, ?_⟩)
      · have : ∀ n, cntF (List.replicate n false) = n := fun n => by
          induction n with
          | zero => rfl
          | succ n ih => simp [List.replicate_succ, cntF, ih]; omega
        simp [this]
      · intro j o _ hj
        simp only [hL0] at hj
        cases hj
      · intro i hi; rw [hE0] at hi; cases hi
      · intro i hi; simp only [hL0] at hi; cases hi
      · intro i j hi; rw [hE0] at hi; cases hi
      · intro t x _ hx
        rw [tvL_none S 0 _ fun j s _ _ => hE0 _] at hx
        exact hf.tmps t x hx
      · rw [hHp]; exact hH.keep rfl
      · rw [hHp]; exact Ext.keep rfl rfl rfl rfl
      · intro i j hi; simp only [hL0] at hi; cases hi
      · intro i hi; simp only [hL0] at hi; cases hi
    · cases h
  · cases h
end
end Go.Ev
