/- A group of operations whose order Go leaves open: one run in the order of the text, with a check, serves every order. -/
import Derived.Test.YthhanoaefdahkaaGreatDoorEv6
namespace Go.Ev

mutual
def AV.beq : AV → AV → Bool
  | .bool a, .bool b => a == b
  | .int k a, .int k' b => decide (k = k') && a == b
  | .str a, .str b => a == b
  | .ptr a b, .ptr c d => a == c && b == d
  | .nilptr, .nilptr => true
  | .sl a b c d, .sl a' b' c' d' => a == a' && b == b' && c == c' && d == d'
  | .gsl a b c, .gsl a' b' c' => a == a' && b == b' && c == c'
  | .nilsl, .nilsl => true
  | .map a, .map b => a == b
  | .nilmap, .nilmap => true
  | .func f a c, .func f' a' c' => f == f' && AV.beqL a a' && AV.beqL c c'
  | .nilfunc, .nilfunc => true
  | .nilif, .nilif => true
  | .agg l, .agg m => AV.beqL l m
  | .tuple l, .tuple m => AV.beqL l m
  | _, _ => false
def AV.beqL : List AV → List AV → Bool
  | [], [] => true
  | x :: xs, y :: ys => AV.beq x y && AV.beqL xs ys
  | _, _ => false
end
mutual
theorem AV.beq_eq : ∀ (a b : AV), AV.beq a b = true → a = b
  | .bool a, b, h => by cases b <;> simp [AV.beq] at h; rw [h]
  | .int k a, b, h => by cases b <;> simp [AV.beq] at h; rw [h.1, h.2]
  | .str a, b, h => by cases b <;> simp [AV.beq] at h; rw [h]
  | .ptr a c, b, h => by cases b <;> simp [AV.beq] at h; rw [h.1, h.2]
  | .nilptr, b, h => by cases b <;> simp [AV.beq] at h; rfl
  | .sl a c d e, b, h => by cases b <;> simp [AV.beq] at h; obtain ⟨⟨⟨h1, h2⟩, h3⟩, h4⟩ := h; rw [h1, h2, h3, h4]
  | .gsl a c d, b, h => by cases b <;> simp [AV.beq] at h; obtain ⟨⟨h1, h2⟩, h3⟩ := h; rw [h1, h2, h3]
  | .nilsl, b, h => by cases b <;> simp [AV.beq] at h; rfl
  | .map a, b, h => by cases b <;> simp [AV.beq] at h; rw [h]
  | .nilmap, b, h => by cases b <;> simp [AV.beq] at h; rfl
  | .func f a c, b, h => by
    cases b <;> simp [AV.beq] at h
    obtain ⟨⟨h1, h2⟩, h3⟩ := h
    rw [h1, AV.beqL_eq _ _ h2, AV.beqL_eq _ _ h3]
  | .nilfunc, b, h => by cases b <;> simp [AV.beq] at h; rfl
  | .nilif, b, h => by cases b <;> simp [AV.beq] at h; rfl
  | .agg l, b, h => by cases b <;> simp [AV.beq] at h; rw [AV.beqL_eq _ _ h]
  | .tuple l, b, h => by cases b <;> simp [AV.beq] at h; rw [AV.beqL_eq _ _ h]
  | .op v, b, h => by cases b <;> simp [AV.beq] at h
theorem AV.beqL_eq : ∀ (a b : List AV), AV.beqL a b = true → a = b
  | [], b, h => by cases b <;> simp [AV.beqL] at h; rfl
  | x :: xs, b, h => by
    cases b <;> simp [AV.beqL] at h
    rw [AV.beq_eq _ _ h.1, AV.beqL_eq _ _ h.2]
end

/-! ### Frames -/
structure Fr where
  t : Tr AV
  n : Nat

def evOp (T : Tmp → Option AV) : Operand → Option AV
  | .tmp t => T t
  | .const v => cv v
  | .func f => some (.func f [] [])
  | .global g => if g < 64 then some (.ptr g 0) else none
def TR (ρ : RM) (T : Tmp → Option AV) (a : Act) : Prop := ∀ t x, T t = some x → ∃ v, a.tmps[t]? = some v ∧ VR ρ x v
theorem TR.mono {ρ ρ' : RM} (hle : RM.le ρ ρ') {T a} (h : TR ρ T a) : TR ρ' T a := fun t x hx => let ⟨v, h1, h2⟩ := h t x hx; ⟨v, h1, h2.mono hle⟩
theorem evOp_sound {ρ : RM} {T : Tmp → Option AV} {a : Act} (hG : ∀ b, b < 64 → ρ b = some ⟨b, 0, 0, 0⟩) (h : TR ρ T a) : OpdR ρ (evOp T) a.eval := by
  intro x y hx
  cases x with
  | tmp t =>
    obtain ⟨v, h1, h2⟩ := h t y hx
    have : a.eval (.tmp t) = v := by simp [Act.eval, h1]
    rw [this]; exact h2
  | const v => exact cv_sound hx
  | global g =>
    simp only [evOp] at hx
    split at hx
    · rename_i hg
      simp only [Option.some.injEq] at hx; subst hx
      exact .ptr (hG g hg)
    · cases hx
  | func f =>
    simp only [evOp, Option.some.injEq] at hx; subst hx
    exact .func (fs := []) (cs := []) .nil .nil

def Fr.put (fr : Fr) (dst : Option Tmp) (x : AV) : Option Fr :=
  match dst with
  | none => some fr
  | some d => if d < fr.n then some ⟨fr.t.put d (some x), fr.n⟩ else none
structure FrR (ρ : RM) (fr : Fr) (a : Act) : Prop where
  size : a.tmps.size = fr.n
  defers : a.defers = []
  tmps : TR ρ fr.t.get a
theorem FrR.mono {ρ ρ' : RM} (hle : RM.le ρ ρ') {fr a} (h : FrR ρ fr a) : FrR ρ' fr a := ⟨h.size, h.defers, h.tmps.mono hle⟩
theorem FrR.put {ρ : RM} {fr fr' : Fr} {a : Act} (h : FrR ρ fr a) {dst : Option Tmp} {x : AV} {v : Value} (hx : VR ρ x v) (hp : fr.put dst x = some fr') : FrR ρ fr' (a.put dst v) := by
  cases dst with
  | none => simp [Fr.put] at hp; subst hp; exact h
  | some d =>
    simp only [Fr.put] at hp
    split at hp
    · rename_i hd
      simp only [Option.some.injEq] at hp; subst hp
      refine ⟨by simp [Act.put, h.size], h.defers, fun t y hy => ?_⟩
      simp only [Tr.get_put] at hy
      by_cases e : t = d
      · subst e
        rw [if_pos rfl] at hy; cases hy
        exact ⟨v, by simp [Act.put, h.size, hd], hx⟩
      · rw [if_neg e] at hy
        obtain ⟨u, h1, h2⟩ := h.tmps t y hy
        exact ⟨u, by simp only [Act.put]; rw [Array.getElem?_setIfInBounds_ne (Ne.symm e)]; exact h1, h2⟩
    · cases hp

/-- Is an operation carried out? -/
def wantT (ops : Array Oper) (T : Tmp → Option AV) (o : Oper) : Option Bool :=
  match o.guard with
  | none => some true
  | some (j, want) => match (ops[j]?).bind (·.dst) with
    | some d => match T d with
      | some (.bool b) => some (b == want)
      | some _ => some false
      | none => none
    | none => some false
theorem wantT_sound {ρ : RM} {ops : Array Oper} {T : Tmp → Option AV} {o : Oper} {a : Act} {b : Bool} (h : TR ρ T a) (hw : wantT ops T o = some b) : Region.wanted o (yielded ops a.tmps) = b := by
  unfold wantT at hw
  unfold Region.wanted
  split at hw
  · rename_i hg; rw [hg]; simp only [Option.some.injEq] at hw; exact hw
  · rename_i j want hg
    rw [hg]
    simp only []
    unfold yielded
    split at hw
    · rename_i d hd
      rw [hd]
      split at hw
      · rename_i c hc
        obtain ⟨v, h1, h2⟩ := h d _ hc
        cases h2
        simp only [Option.some.injEq] at hw; subst hw
        simp [h1]
      · rename_i x hx hc
        obtain ⟨v, h1, h2⟩ := h d _ hc
        simp only [Option.some.injEq] at hw; subst hw
        simp only [Option.bind_some, h1]
        cases h2 <;> first | rfl | (exact absurd rfl (hx _)) | (rename_i ho; cases v <;> first | rfl | (simp [opaq] at ho; done))
      · cases hw
    · rename_i hd
      rw [hd]
      simp only [Option.some.injEq] at hw; subst hw
      rfl

/-! ### Calls -/
abbrev CallF := FuncId → List AV → Hp → Option (AV × Hp)
def CallOK (P : Program) (call : CallF) : Prop :=
  ∀ f xs H x H', call f xs H = some (x, H') → (∃ fn, P.funcs[f]? = some fn ∧ (fn.name == "runtime.NumGoroutine") = false ∧ fn.body.isNone = false) ∧
    ∀ ρ vs w, VRL ρ xs vs → HR ρ H w → Calls P f ⟨vs⟩ w fun e w' => ∃ ρ' v, e = .returned v ∧ VR ρ' x v ∧ HR ρ' H' w' ∧ Ext ρ H w ρ' H' w'
/-- What an operation that is no mere look comes to. -/
def opW (P : Program) (call : CallF) (E : Operand → Option AV) (H : Hp) (o : Oper) : Option (AV × Hp) :=
  match writeA P E H o.op with
  | some r => some r
  | none => match o.op with
    | .call c => match callArgs E c with
      | some (f, xs) => call f xs H
      | none => none
    | _ => none

theorem run_call {P : Program} {ρ : RM} {E : Operand → Option AV} {a : Act} (hE : OpdR ρ E a.eval) {c : Call} {f : FuncId} {xs : List AV} (h : callArgs E c = some (f, xs)) {fn : Func}
    (hf : P.funcs[f]? = some fn) (hn : (fn.name == "runtime.NumGoroutine") = false) (hb : fn.body.isNone = false) {o : Oper} (ho : o.op = .call c) (w : World) :
    ∃ vs, (execOp a.eval o).run P w = .ok (.enter f ⟨vs⟩) w ∧ VRL ρ xs vs := by
  unfold callArgs at h
  split at h
  · rename_i fo hfo
    split at h
    · rename_i g first caps hg
      split at h
      · rename_i ys hys
        simp only [Option.some.injEq, Prod.mk.injEq] at h
        obtain ⟨rfl, rfl⟩ := h
        have hv := evL_sound hE hys
        have hc := hE _ _ hg
        generalize hvf : a.eval fo = vf at hc
        cases hc with
        | func h1 h2 =>
        rename_i fs cs
        refine ⟨fs ++ c.args.toList.map a.eval ++ cs, ?_, (h1.append hv).append h2⟩
        have e1 : c.args.map a.eval = ⟨c.args.toList.map a.eval⟩ := by cases c.args; simp
        simp only [execOp, ho, resolve, hfo, hvf, Deferred.ofValue, Sem.run_bind, Sem.run_pure, Result.andThen_ok, invoke, callFunc, run_program, hf, hn, hb, Bool.false_eq_true, if_false, e1]
        congr 2
        simp
      · cases h
    · cases h
  · cases h

/-- An operation that may change memory, and what follows behind it. -/
theorem opW_wp {P : Program} {call : CallF} (hcall : CallOK P call) {ρ : RM} {E : Operand → Option AV} {a : Act} (hE : OpdR ρ E a.eval) {H H' : Hp} {w : World} (hH : HR ρ H w) {o : Oper} {x : AV}
    (h : opW P call E H o = some (x, H')) {K : Act → World → Prop} {Q : Exit → Act → World → Prop}
    (hK : ∀ ρ' v w', VR ρ' x v → HR ρ' H' w' → Ext ρ H w ρ' H' w' → K (a.put o.dst v) w') : o.wp P a w K Q := by
  unfold opW at h
  split at h
  · rename_i r hr
    cases h
    obtain ⟨ρ', w', v, h1, h2, h3, h4⟩ := writeA_sound (P := P) hE hH hr
    unfold Oper.wp
    rcases h1 with h1 | ⟨h1, rfl⟩
    · rw [h1]; exact hK ρ' v w' h2 h3 h4
    · rw [h1]; exact hK ρ' undef w' h2 h3 h4
  · split at h
    · rename_i c ho
      split at h
      · rename_i f xs hc
        obtain ⟨⟨fn, hf, hn, hb⟩, hcl⟩ := hcall f xs H x H' h
        obtain ⟨vs, h1, h2⟩ := run_call (P := P) hE hc hf hn hb ho w
        unfold Oper.wp
        rw [h1]
        simp only [Oper.upon]
        refine (hcl ρ vs w h2 hH).mono ?_
        rintro e w' ⟨ρ', v, rfl, r1, r2, r3⟩
        exact hK ρ' v w' r1 r2 r3
      · cases h
    · cases h
theorem readA_wp {P : Program} {ρ : RM} {E : Operand → Option AV} {a : Act} (hE : OpdR ρ E a.eval) {H : Hp} {w : World} (hH : HR ρ H w) {o : Oper} {x : AV}
    (h : readA P E H o.op = some x) {K : Act → World → Prop} {Q : Exit → Act → World → Prop} (hK : ∀ v, VR ρ x v → K (a.put o.dst v) w) : o.wp P a w K Q := by
  obtain ⟨v, h1, h2⟩ := readA_sound (P := P) hE hH h
  unfold Oper.wp
  rw [h1]
  exact hK v h2

/-! ### Operations in the order of the text -/
def evOps (P : Program) (call : CallF) (ops : Array Oper) : List Oper → Fr → Hp → Option (Fr × Hp)
  | [], fr, H => some (fr, H)
  | o :: l, fr, H => match wantT ops fr.t.get o with
    | some true => match readA P (evOp fr.t.get) H o.op with
      | some x => match fr.put o.dst x with
        | some fr' => evOps P call ops l fr' H
        | none => none
      | none => match opW P call (evOp fr.t.get) H o with
        | some (x, H') => match fr.put o.dst x with
          | some fr' => evOps P call ops l fr' H'
          | none => none
        | none => none
    | some false => match fr.put o.dst (.tuple []) with
      | some fr' => evOps P call ops l fr' H
      | none => none
    | none => none

def PostR (ρ : RM) (H : Hp) (w : World) (fr' : Fr) (H' : Hp) (a' : Act) (w' : World) : Prop :=
  ∃ ρ', FrR ρ' fr' a' ∧ HR ρ' H' w' ∧ Ext ρ H w ρ' H' w'

theorem evOps_sound {P : Program} {call : CallF} (hcall : CallOK P call) {ops : Array Oper} {Q : Exit → Act → World → Prop} {ρ₀ : RM} {H₀ : Hp} {w₀ : World} {frN : Fr} {HN : Hp}
    (hQ : ∀ a' w', PostR ρ₀ H₀ w₀ frN HN a' w' → Q .normal a' w') :
    ∀ (l : List Oper) (i : Nat), (∀ j, l[j]? = ops[i + j]?) → ∀ (fr : Fr) (H : Hp), evOps P call ops l fr H = some (frN, HN) →
      ∀ (ρ : RM) (a : Act) (w : World), FrR ρ fr a → HR ρ H w → Ext ρ₀ H₀ w₀ ρ H w → wpOps P ops Q (List.range' i l.length) a w
  | [], i, _, fr, H, h, ρ, a, w, hf, hH, hX => by
    simp only [evOps, Option.some.injEq, Prod.mk.injEq] at h
    obtain ⟨rfl, rfl⟩ := h
    exact hQ a w ⟨ρ, hf, hH, hX⟩
  | o :: l, i, hl, fr, H, h, ρ, a, w, hf, hH, hX => by
    have h0 : ops[i]? = some o := by simpa using (hl 0).symm
    have hl' : ∀ j, l[j]? = ops[i + 1 + j]? := fun j => by
      have := hl (j + 1)
      simpa [Nat.add_assoc, Nat.add_comm 1 j] using this
    have hE := evOp_sound hH.gl hf.tmps
    simp only [List.length_cons, List.range'_succ, wpOps, h0]
    simp only [evOps] at h
    split at h
    · rename_i hw
      rw [wantT_sound hf.tmps hw]
      simp only [if_true]
      left
      split at h
      · rename_i x hx
        split at h
        · rename_i fr' hp
          exact readA_wp hE hH hx fun v hv => evOps_sound hcall hQ l (i + 1) hl' fr' H h ρ _ w (hf.put hv hp) hH hX
        · cases h
      · split at h
        · rename_i x H' hx
          split at h
          · rename_i fr' hp
            exact opW_wp hcall hE hH hx fun ρ' v w' hv hH' hX' =>
              evOps_sound hcall hQ l (i + 1) hl' fr' H' h ρ' _ w' ((hf.mono hX'.le).put hv hp) hH' (hX.trans hX')
          · cases h
        · cases h
    · rename_i hw
      rw [wantT_sound hf.tmps hw]
      simp only [Bool.false_eq_true, if_false]
      split at h
      · rename_i fr' hp
        exact evOps_sound hcall hQ l (i + 1) hl' fr' H h ρ _ w (hf.put (.tuple (cs := []) .nil) hp) hH hX
      · cases h
    · cases h

theorem evRegion_sound {P : Program} {call : CallF} (hcall : CallOK P call) {ops : Array Oper} {Q : Exit → Act → World → Prop} {id : Nat} {fr frN : Fr} {H HN : Hp} {ρ : RM} {a : Act} {w : World}
    (h : evOps P call ops ops.toList fr H = some (frN, HN)) (hf : FrR ρ fr a) (hH : HR ρ H w) (hQ : ∀ a' w', PostR ρ H w frN HN a' w' → Q .normal a' w') :
    (Code.region id ops false).wp P Q a w := by
  refine wp_region ?_
  have := evOps_sound hcall hQ ops.toList 0 (by simp) fr H h ρ a w hf hH (Ext.refl _ _ _)
  simpa [List.range_eq_range'] using this
end Go.Ev
