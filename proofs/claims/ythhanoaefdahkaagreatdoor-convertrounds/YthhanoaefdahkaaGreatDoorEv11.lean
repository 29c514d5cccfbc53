/- An evaluated call cut into stages: each stage a declaration of its own, the memory between two stages a literal of what is still needed. -/
import Derived.Test.YthhanoaefdahkaaGreatDoorEv10
namespace Go.Ev

def spine : Code → List Code
  | .seq x y => spine x ++ spine y
  | c => [c]
section
variable {P : Program}
def wpAll (P : Program) : List Code → (Exit → Act → World → Prop) → Act → World → Prop
  | [], Q => Q .normal
  | c :: cs, Q => c.wp P (Exit.then (wpAll P cs Q) Q)
theorem wpAll_mono : ∀ {cs : List Code} {Q Q' : Exit → Act → World → Prop} {a : Act} {w : World}, wpAll P cs Q a w → (∀ e a w, Q e a w → Q' e a w) → wpAll P cs Q' a w
  | [], Q, Q', a, w, h, hq => hq _ _ _ h
  | c :: cs, Q, Q', a, w, h, hq => by
    refine wp_mono h ?_
    intro e a1 w1 h1
    cases e <;> first | exact wpAll_mono h1 hq | exact hq _ _ _ h1
theorem spine_wp : ∀ {c : Code} {cs : List Code} {Q : Exit → Act → World → Prop} {a : Act} {w : World}, wpAll P (spine c ++ cs) Q a w → c.wp P (Exit.then (wpAll P cs Q) Q) a w := by
  intro c
  induction c with
  | seq x y ihx ihy =>
    intro cs Q a w h
    simp only [spine, List.append_assoc] at h
    refine wp_seq ?_
    refine wp_mono (ihx h) ?_
    intro e a1 w1 h1
    cases e <;> first | exact ihy h1 | exact h1
  | _ => intro cs Q a w h; exact h

def evK (P : Program) (k : Nat) : List Code → Fr → Hp → Option (Fr × Hp)
  | [], fr, H => some (fr, H)
  | c :: cs, fr, H => match ev P k c fr H with
    | some (.normal, fr1, H1) => evK P k cs fr1 H1
    | _ => none
def evR (P : Program) (k : Nat) : List Code → Fr → Hp → Option (Fr × Hp)
  | [], fr, H => some (fr, H)
  | c :: cs, fr, H => match ev P k c fr H with
    | some (.normal, fr1, H1) => evR P k cs fr1 H1
    | some (.ret, fr1, H1) => some (fr1, H1)
    | _ => none

/-- What is kept between two stages. -/
structure Mid where
  n : Nat
  tmps : List (Nat × AV)
  blks : List (Nat × Blk)
  next : Nat
def mkT {α : Type} : List (Nat × α) → Tr α
  | [] => .nil
  | (t, x) :: r => (mkT r).put t (some x)
theorem mkT_get {α : Type} : ∀ {l : List (Nat × α)} {t : Nat} {x : α}, (mkT l).get t = some x → (t, x) ∈ l
  | [], t, x, h => by simp [mkT, Tr.get] at h
  | (s, y) :: r, t, x, h => by
    simp only [mkT, Tr.get_put] at h
    by_cases e : t = s
    · rw [if_pos e, Option.some.injEq] at h
      rw [e, h]; exact List.mem_cons_self ..
    · rw [if_neg e] at h
      exact List.mem_cons_of_mem _ (mkT_get h)
def Mid.fr (m : Mid) : Fr := ⟨mkT m.tmps, m.n⟩
def Mid.hp (m : Mid) : Hp := ⟨mkT m.blks, m.next⟩
def mapBeq : List (AV × AV × Nat) → List (AV × AV × Nat) → Bool
  | [], [] => true
  | (a, b, n) :: r, (a', b', n') :: r' => AV.beq a a' && AV.beq b b' && n == n' && mapBeq r r'
  | _, _ => false
theorem mapBeq_eq : ∀ {l m : List (AV × AV × Nat)}, mapBeq l m = true → l = m
  | [], [], _ => rfl
  | [], _ :: _, h => by simp [mapBeq] at h
  | _ :: _, [], h => by simp [mapBeq] at h
  | (a, b, n) :: r, (a', b', n') :: r', h => by
    simp only [mapBeq, Bool.and_eq_true, beq_iff_eq] at h
    obtain ⟨⟨⟨h1, h2⟩, h3⟩, h4⟩ := h
    rw [AV.beq_eq _ _ h1, AV.beq_eq _ _ h2, h3, mapBeq_eq h4]
def Blk.beq : Blk → Blk → Bool
  | .cells l g, .cells l' g' => AV.beqL l l' && decide (g = g')
  | .ro l, .ro l' => AV.beqL l l'
  | .mapb e c, .mapb e' c' => mapBeq e e' && c == c'
  | _, _ => false
theorem Blk.beq_eq : ∀ {a b : Blk}, Blk.beq a b = true → a = b
  | .cells l g, .cells l' g', h => by
    simp only [Blk.beq, Bool.and_eq_true, decide_eq_true_eq] at h
    rw [AV.beqL_eq _ _ h.1, h.2]
  | .ro l, .ro l', h => by rw [AV.beqL_eq _ _ h]
  | .mapb e c, .mapb e' c', h => by
    simp only [Blk.beq, Bool.and_eq_true, beq_iff_eq] at h
    rw [mapBeq_eq h.1, h.2]
  | .cells _ _, .ro _, h => by simp [Blk.beq] at h
  | .cells _ _, .mapb _ _, h => by simp [Blk.beq] at h
  | .ro _, .cells _ _, h => by simp [Blk.beq] at h
  | .ro _, .mapb _ _, h => by simp [Blk.beq] at h
  | .mapb _ _, .cells _ _, h => by simp [Blk.beq] at h
  | .mapb _ _, .ro _, h => by simp [Blk.beq] at h
def subFr (m : Mid) (fr : Fr) : Bool := fr.n == m.n && m.tmps.all fun p => match fr.t.get p.1 with
  | some y => AV.beq y p.2
  | none => false
def subHp (m : Mid) (H : Hp) : Bool := H.next == m.next && m.blks.all fun p => match H.t.get p.1 with
  | some q => Blk.beq q p.2
  | none => false
theorem subFr_ok {m : Mid} {fr : Fr} (h : subFr m fr = true) {ρ : RM} {a : Act} (hf : FrR ρ fr a) : FrR ρ m.fr a := by
  simp only [subFr, Bool.and_eq_true, beq_iff_eq, List.all_eq_true] at h
  refine ⟨hf.size.trans h.1, hf.defers, fun t x hx => ?_⟩
  have hm := h.2 _ (mkT_get hx)
  split at hm
  · rename_i y hy
    have := AV.beq_eq _ _ hm
    simp only at this
    subst this
    exact hf.tmps t _ hy
  · cases hm
theorem subHp_ok {m : Mid} {H : Hp} (h : subHp m H = true) {ρ : RM} {w : World} (hH : HR ρ H w) : HR ρ m.hp w ∧ Ext ρ H w ρ m.hp w := by
  simp only [subHp, Bool.and_eq_true, beq_iff_eq, List.all_eq_true] at h
  have old : ∀ b k, m.hp.t.get b = some k → H.t.get b = some k := fun b k hb => by
    have hm := h.2 _ (mkT_get hb)
    split at hm
    · rename_i q hq
      have := Blk.beq_eq hm
      simp only at this
      subst this
      exact hq
    · cases hm
  refine ⟨⟨fun b k hb => hH.blk b k (old b k hb), fun b hb => hH.fresh b (by rw [h.1]; exact hb), ?_, hH.gl⟩, ?_⟩
  · exact fun c c' bj bj' q q' hc hq hc' hq' hj hj' er => hH.inj c c' bj bj' q q' (old c q hc) hq (old c' q' hc') hq' hj hj' er
  · exact ⟨RM.le.refl ρ, rfl, rfl, rfl, Nat.le_refl _, fun _ _ _ => rfl, fun c q bj hc hq hj _ => ⟨c, q, bj, old c q hc, hq, id, hj, rfl⟩⟩

/-- What follows from here on ends in 'true', and leaves what was there. -/
def Good (P : Program) (fn : Func) (cs : List Code) (m : Mid) : Prop :=
  ∀ ρ a w, FrR ρ m.fr a → HR ρ m.hp w → wpAll P cs (fun e a' w' => (e = .normal ∨ e = .ret) ∧ a'.defers = [] ∧ (results fn a'.tmps).run P w' = .ok (.bool true) w' ∧ ∃ ρ' H', Ext ρ m.hp w ρ' H' w') a w
def stageB (P : Program) (k : Nat) (cs : List Code) (m m' : Mid) : Bool := match evK P k cs m.fr m.hp with
  | some (fr, H) => subFr m' fr && subHp m' H
  | none => false
def lastB (P : Program) (k : Nat) (fn : Func) (cs : List Code) (m : Mid) : Bool := match evR P k cs m.fr m.hp with
  | some (fr, H) => match resA P fr H fn.results.toList with
    | some [.bool true] => true
    | _ => false
  | none => false
theorem Good.last (hmix : P.follows .mixedOrders = true) {k : Nat} {fn : Func} : ∀ {cs : List Code} {fr : Fr} {H : Hp} {fr' : Fr} {H' : Hp}, evR P k cs fr H = some (fr', H') → resA P fr' H' fn.results.toList = some [.bool true] →
    ∀ ρ a w, FrR ρ fr a → HR ρ H w → wpAll P cs (fun e a' w' => (e = .normal ∨ e = .ret) ∧ a'.defers = [] ∧ (results fn a'.tmps).run P w' = .ok (.bool true) w' ∧ ∃ ρ' H', Ext ρ H w ρ' H' w') a w
  | [], fr, H, fr', H', h, hr, ρ, a, w, hf, hH => by
    simp only [evR, Option.some.injEq, Prod.mk.injEq] at h
    obtain ⟨rfl, rfl⟩ := h
    obtain ⟨v, r1, r2⟩ := results_sound (P := P) hf hH hr
    cases r2
    exact ⟨.inl rfl, hf.defers, r1, ρ, H, Ext.refl _ _ _⟩
  | c :: cs, fr, H, fr', H', h, hr, ρ, a, w, hf, hH => by
    simp only [evR] at h
    split at h
    · rename_i fr1 H1 h1
      refine wp_mono ((ev_sound hmix k).1 _ _ _ _ _ _ h1 ρ a w hf hH) ?_
      rintro e a1 w1 ⟨rfl, ρ1, g1, g2, g3⟩
      refine wpAll_mono (Good.last hmix h hr ρ1 a1 w1 g1 g2) ?_
      rintro e a2 w2 ⟨k1, k2, k3, ρ2, H2, k4⟩
      exact ⟨k1, k2, k3, ρ2, H2, g3.trans k4⟩
    · rename_i fr1 H1 h1
      simp only [Option.some.injEq, Prod.mk.injEq] at h
      obtain ⟨rfl, rfl⟩ := h
      refine wp_mono ((ev_sound hmix k).1 _ _ _ _ _ _ h1 ρ a w hf hH) ?_
      rintro e a1 w1 ⟨rfl, ρ1, g1, g2, g3⟩
      obtain ⟨v, r1, r2⟩ := results_sound (P := P) g1 g2 hr
      cases r2
      exact ⟨.inr rfl, g1.defers, r1, ρ1, _, g3⟩
    · cases h
theorem good_last (hmix : P.follows .mixedOrders = true) {k : Nat} {fn : Func} {cs : List Code} {m : Mid} (h : lastB P k fn cs m = true) : Good P fn cs m := by
  unfold lastB at h
  split at h
  · rename_i fr H hr
    split at h
    · rename_i hres
      exact fun ρ a w hf hH => Good.last hmix hr hres ρ a w hf hH
    · cases h
  · cases h
theorem stage_run (hmix : P.follows .mixedOrders = true) {k : Nat} {cs2 : List Code} {Q : Exit → Act → World → Prop} : ∀ {cs : List Code} {fr : Fr} {H : Hp} {fr' : Fr} {H' : Hp}, evK P k cs fr H = some (fr', H') →
    ∀ ρ a w, FrR ρ fr a → HR ρ H w → (∀ ρ1 a1 w1, FrR ρ1 fr' a1 → HR ρ1 H' w1 → Ext ρ H w ρ1 H' w1 → wpAll P cs2 Q a1 w1) → wpAll P (cs ++ cs2) Q a w
  | [], fr, H, fr', H', h, ρ, a, w, hf, hH, hK => by
    simp only [evK, Option.some.injEq, Prod.mk.injEq] at h
    obtain ⟨rfl, rfl⟩ := h
    exact hK ρ a w hf hH (Ext.refl _ _ _)
  | c :: cs, fr, H, fr', H', h, ρ, a, w, hf, hH, hK => by
    simp only [evK] at h
    split at h
    · rename_i fr1 H1 h1
      refine wp_mono ((ev_sound hmix k).1 _ _ _ _ _ _ h1 ρ a w hf hH) ?_
      rintro e a1 w1 ⟨rfl, ρ1, g1, g2, g3⟩
      exact stage_run hmix h ρ1 a1 w1 g1 g2 fun ρ2 a2 w2 q1 q2 q3 => hK ρ2 a2 w2 q1 q2 (g3.trans q3)
    · cases h
theorem good_stage (hmix : P.follows .mixedOrders = true) {k d i : Nat} {fn : Func} {cs : List Code} {m m' : Mid} (h : stageB P k ((cs.drop i).take d) m m' = true) (hn : Good P fn (cs.drop (i + d)) m') : Good P fn (cs.drop i) m := by
  intro ρ a w hf hH
  unfold stageB at h
  split at h
  · rename_i fr H hr
    simp only [Bool.and_eq_true] at h
    have e : cs.drop i = (cs.drop i).take d ++ cs.drop (i + d) := by
      rw [← List.drop_drop, List.take_append_drop]
    rw [e]
    refine stage_run hmix hr ρ a w hf hH fun ρ1 a1 w1 g1 g2 g3 => ?_
    obtain ⟨q1, q2⟩ := subHp_ok h.2 g2
    refine wpAll_mono (hn ρ1 a1 w1 (subFr_ok h.1 g1) q1) ?_
    rintro e a2 w2 ⟨k1, k2, k3, ρ2, H2, k4⟩
    exact ⟨k1, k2, k3, ρ2, H2, (g3.trans q2).trans k4⟩
  · cases h
/-- Where the call begins: no variable is known, the tables lie in memory. -/
def startMid (fn : Func) (tabs : List (Nat × IntKind × List Int)) : Mid := ⟨fn.ntmps, [], tabs.map fun p => (p.1, .ro (p.2.2.map (.int p.2.1))), 64⟩
theorem mkT_tabs : ∀ (tabs : List (Nat × IntKind × List Int)), mkT (tabs.map fun p => (p.1, Blk.ro (p.2.2.map (.int p.2.1)))) = glT tabs
  | [] => rfl
  | (g, k, l) :: r => by simp only [List.map_cons, mkT, glT, mkT_tabs r]
theorem calls_of_good {f : FuncId} {fn : Func} {c : Code} (hf : P.funcs[f]? = some fn) (hb : fn.body = some c) {tabs : List (Nat × IntKind × List Int)} (h : Good P fn (spine c) (startMid fn tabs)) (w : World) (hw : TabsIn w tabs) :
    Calls P f #[] w fun e w' => e = .returned (.bool true) ∧ Go.RowKit.Below w.heap.size w w' := by
  refine calls_of_wp hf hb ?_
  have hH : HR ρ0 (startMid fn tabs).hp w := by
    have := hr_start hw
    unfold Mid.hp startMid
    simp only [mkT_tabs]
    exact this
  have hfr : FrR ρ0 (startMid fn tabs).fr { tmps := (#[] : Array Value) ++ Array.replicate (fn.ntmps - (#[] : Array Value).size) undef, defers := [] } := by
    refine ⟨by simp [Mid.fr, startMid], rfl, fun t x hx => ?_⟩
    simp [Mid.fr, startMid, mkT, Tr.get] at hx
  have h1 := h ρ0 _ w hfr hH
  have h2 := spine_wp (c := c) (cs := []) (by rw [List.append_nil]; exact h1)
  refine wp_mono h2 ?_
  have key : ∀ (e : Exit) (a' : Act) (w' : World), ((e = .normal ∨ e = .ret) ∧ a'.defers = [] ∧ (results fn a'.tmps).run P w' = .ok (.bool true) w' ∧ ∃ ρ' H', Ext ρ0 (startMid fn tabs).hp w ρ' H' w') →
      bodyPost P fn (fun e w' => e = .returned (.bool true) ∧ Go.RowKit.Below w.heap.size w w') e a' w' := by
    rintro e a' w' ⟨he, hd, hr, ρ', H', hX⟩
    have hB : Go.RowKit.Below w.heap.size w w' := ⟨hX.os, hX.tape, hX.output, hX.size, fun r hr => hX.same r hr fun b k bi hb hk => by
      have hb' : (glT tabs).get b = some k := by
        have : (startMid fn tabs).hp.t = glT tabs := mkT_tabs tabs
        rw [← this]; exact hb
      obtain ⟨_, _, _, rfl⟩ := glT_get hb'
      simp [Blk.wr] at hk⟩
    rcases he with rfl | rfl
    · exact ⟨hd, _, hr, rfl, hB⟩
    · exact ⟨hd, _, hr, rfl, hB⟩
  intro e a' w' h3
  cases e <;> exact key _ _ _ h3
/-- The pieces of a function's body. -/
def pieces (fn : Func) : List Code := fn.body.elim [] spine
theorem calls_of_pieces {f : FuncId} {fn : Func} (hf : P.funcs[f]? = some fn) (hb : fn.body.isSome = true) {tabs : List (Nat × IntKind × List Int)} (h : Good P fn ((pieces fn).drop 0) (startMid fn tabs)) (w : World) (hw : TabsIn w tabs) :
    Calls P f #[] w fun e w' => e = .returned (.bool true) ∧ Go.RowKit.Below w.heap.size w w' := by
  obtain ⟨c, hc⟩ := Option.isSome_iff_exists.1 hb
  have e : pieces fn = spine c := by unfold pieces; rw [hc]; rfl
  rw [List.drop_zero, e] at h
  exact calls_of_good hf hc h w hw
end
end Go.Ev
