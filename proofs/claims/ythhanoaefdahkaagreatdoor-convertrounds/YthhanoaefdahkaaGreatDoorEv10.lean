/- The abstract evaluator of Go calls, and that what it finds is what the machine does. -/
import Derived.Test.YthhanoaefdahkaaGreatDoorEv9
namespace Go.Ev

inductive Ex where
  | normal
  | exit (id : Nat)
  | ret
def Ex.to : Ex → Exit
  | .normal => .normal
  | .exit i => .exit i
  | .ret => .ret

def enterT : Nat → List AV → Tr AV → Tr AV
  | _, [], t => t
  | i, x :: xs, t => enterT (i + 1) xs (t.put i (some x))
def resA (P : Program) (fr : Fr) (H : Hp) : List ResultVar → Option (List AV)
  | [] => some []
  | .tmp t :: rs => match fr.t.get t, resA P fr H rs with
    | some x, some xs => some (x :: xs)
    | _, _ => none
  | .cell a t :: rs => match fr.t.get a with
    | some (.ptr b o) => match loadV P H t b o, resA P fr H rs with
      | some x, some xs => some (x :: xs)
      | _, _ => none
    | _ => none
def oneOr : List AV → AV
  | [x] => x
  | l => .tuple l
def fnOf (P : Program) (f : FuncId) : Option Func := match P.funcs[f]? with
  | some fn => if fn.name == "runtime.NumGoroutine" then none else some fn
  | none => none
abbrev CodeF := Code → Fr → Hp → Option (Ex × Fr × Hp)
def callWith (P : Program) (rec : CodeF) : CallF := fun f args H =>
  match fnOf P f with
  | some fn => match fn.body with
    | some c => match rec c ⟨enterT 0 args .nil, args.length + (fn.ntmps - args.length)⟩ H with
      | some (.normal, fr', H') | some (.ret, fr', H') => match resA P fr' H' fn.results.toList with
        | some l => some (oneOr l, H')
        | none => none
      | _ => none
    | none => none
  | none => none
def evStep (P : Program) (rec : CodeF) : CodeF := fun c fr H =>
  match c with
  | .skip => some (.normal, fr, H)
  | .label _ => some (.normal, fr, H)
  | .ret => some (.ret, fr, H)
  | .exit id => some (.exit id, fr, H)
  | .seq x y => match rec x fr H with
    | some (.normal, fr1, H1) => rec y fr1 H1
    | r => r
  | .cond c x y => match evOp fr.t.get c with
    | some (.bool true) => rec x fr H
    | some (.bool false) => rec y fr H
    | _ => none
  | .block id x => match rec x fr H with
    | some (.exit i, fr1, H1) => some (if i = id then .normal else .exit i, fr1, H1)
    | r => r
  | .loop x => match rec x fr H with
    | some (.normal, fr1, H1) => rec (.loop x) fr1 H1
    | r => r
  | .scope x => rec x fr H
  | .region _ ops draw => match draw with
    | true => match evDraw P (callWith P rec) ops fr H with
      | some (fr1, H1) => some (.normal, fr1, H1)
      | none => none
    | false => match evOps P (callWith P rec) ops ops.toList fr H with
      | some (fr1, H1) => some (.normal, fr1, H1)
      | none => none
  | _ => none
def ev (P : Program) : Nat → CodeF
  | 0 => fun _ _ _ => none
  | k + 1 => evStep P (ev P k)

def PostC (ρ : RM) (H : Hp) (w : World) (e : Ex) (fr' : Fr) (H' : Hp) (e' : Exit) (a' : Act) (w' : World) : Prop :=
  e' = e.to ∧ PostR ρ H w fr' H' a' w'

theorem enterT_get : ∀ (xs : List AV) (i : Nat) (t : Tr AV) (m : Nat), (enterT i xs t).get m = if i ≤ m ∧ m < i + xs.length then xs[m - i]? else t.get m
  | [], i, t, m => by rw [if_neg (by simp)]; rfl
  | x :: xs, i, t, m => by
    simp only [enterT]
    rw [enterT_get xs (i + 1) _ m]
    by_cases e : m = i
    · subst e
      rw [if_neg (by omega), if_pos (by simp), Tr.get_put_same]; simp
    · by_cases h : i + 1 ≤ m ∧ m < i + 1 + xs.length
      · rw [if_pos h, if_pos (by simp; omega)]
        have : m - i = (m - (i + 1)) + 1 := by omega
        rw [this]; simp
      · rw [if_neg h, if_neg (by simp; omega), Tr.get_put_ne _ _ e]

section
variable {P : Program}
def resOf (tmps : Array Value) : ResultVar → Sem Value
  | .tmp t => pure (tmps.getD t undef)
  | .cell a t => do loadVar t (← asAddr (tmps.getD a undef))
theorem resA_sound {ρ : RM} {fr : Fr} {a : Act} {H : Hp} {w : World} (hf : FrR ρ fr a) (hH : HR ρ H w) : ∀ {rs : List ResultVar} {l : List AV}, resA P fr H rs = some l →
    ∃ vs : List Value, (rs.mapM (resOf a.tmps)).run P w = .ok vs w ∧ VRL ρ l vs
  | [], l, h => by simp [resA] at h; subst h; exact ⟨[], rfl, .nil⟩
  | .tmp t :: rs, l, h => by
    simp only [resA] at h
    split at h
    · rename_i x xs hx hxs
      simp only [Option.some.injEq] at h; subst h
      obtain ⟨v, h1, h2⟩ := hf.tmps t x hx
      obtain ⟨vs, h3, h4⟩ := resA_sound hf hH hxs
      refine ⟨v :: vs, ?_, .cons h2 h4⟩
      have e : a.tmps.getD t undef = v := by simp [h1]
      simp only [List.mapM_cons, Sem.run_bind, resOf, e, Sem.run_pure, Result.andThen_ok, h3]
    · cases h
  | .cell p t :: rs, l, h => by
    simp only [resA] at h
    split at h
    · rename_i b o hp
      split at h
      · rename_i x xs hx hxs
        simp only [Option.some.injEq] at h; subst h
        obtain ⟨v, h1, h2⟩ := hf.tmps p _ hp
        cases h2 with
        | ptr hb =>
        obtain ⟨z, z1, z2⟩ := run_loadV (P := P) hH hb hx
        obtain ⟨vs, h3, h4⟩ := resA_sound hf hH hxs
        refine ⟨z :: vs, ?_, .cons z2 h4⟩
        rename_i bi
        have e : a.tmps.getD p undef = .pointer (some ⟨bi.r, bi.sh + o, none⟩) := by simp [h1]
        simp only [List.mapM_cons, Sem.run_bind, resOf, e, asAddr, Sem.run_pure, Result.andThen_ok, z1, h3]
      · cases h
    · cases h
theorem results_sound {ρ : RM} {fr : Fr} {a : Act} {H : Hp} {w : World} (hf : FrR ρ fr a) (hH : HR ρ H w) {fn : Func} {l : List AV} (h : resA P fr H fn.results.toList = some l) :
    ∃ v, (results fn a.tmps).run P w = .ok v w ∧ VR ρ (oneOr l) v := by
  obtain ⟨vs, h1, h2⟩ := resA_sound (P := P) hf hH h
  have hm : (fn.results.mapM (resOf a.tmps)).run P w = .ok vs.toArray w := by
    rw [Array.mapM_eq_mapM_toList, Sem.run_map, h1]; rfl
  have hr : results fn a.tmps = (do let vs ← fn.results.mapM (resOf a.tmps); pure (if h : vs.size = 1 then vs[0] else .tuple vs)) := by
    unfold results
    congr 1
  rw [hr, Sem.run_bind, hm]
  simp only [Result.andThen_ok, Sem.run_pure]
  cases h2 with
  | nil => exact ⟨_, rfl, .tuple (cs := []) .nil⟩
  | cons hx ht =>
    cases ht with
    | nil => exact ⟨_, rfl, hx⟩
    | cons hy ht' =>
      refine ⟨_, rfl, ?_⟩
      rw [dif_neg (by simp)]
      exact .tuple (.cons hx (.cons hy ht'))

theorem callWith_ok {rec : CodeF} (hrec : ∀ c fr H e fr' H', rec c fr H = some (e, fr', H') → ∀ ρ a w, FrR ρ fr a → HR ρ H w → c.wp P (PostC ρ H w e fr' H') a w) : CallOK P (callWith P rec) := by
  intro f xs H x H' h
  unfold callWith at h
  split at h
  · rename_i fn hfn
    unfold fnOf at hfn
    split at hfn
    · rename_i fn' hf
      split at hfn
      · cases hfn
      · rename_i hname
        simp only [Option.some.injEq] at hfn; subst hfn
        split at h
        · rename_i c hc
          refine ⟨⟨fn', hf, by simpa using hname, by simp [hc]⟩, fun ρ vs w hv hH => ?_⟩
          have key : ∀ e fr' H'', rec c ⟨enterT 0 xs .nil, xs.length + (fn'.ntmps - xs.length)⟩ H = some (e, fr', H'') → (e = .normal ∨ e = .ret) →
              (match resA P fr' H'' fn'.results.toList with
                | some l => some (oneOr l, H'')
                | none => none) = some (x, H') →
              Calls P f ⟨vs⟩ w fun e w' => ∃ ρ' v, e = .returned v ∧ VR ρ' x v ∧ HR ρ' H' w' ∧ Ext ρ H w ρ' H' w' := by
            intro e fr' H'' hrun he hres
            split at hres
            · rename_i l hl
              simp only [Option.some.injEq, Prod.mk.injEq] at hres
              obtain ⟨rfl, rfl⟩ := hres
              refine calls_of_wp hf hc ?_
              have hfr : FrR ρ ⟨enterT 0 xs .nil, xs.length + (fn'.ntmps - xs.length)⟩ { tmps := (⟨vs⟩ : Array Value) ++ Array.replicate (fn'.ntmps - (⟨vs⟩ : Array Value).size) undef, defers := [] } := by
                refine ⟨by simp [hv.length], rfl, fun t y hy => ?_⟩
                simp only [enterT_get, Nat.zero_le, true_and, Nat.zero_add, Nat.sub_zero] at hy
                split at hy
                · rename_i hlt
                  obtain ⟨u, hu, hr⟩ := hv.get hy
                  refine ⟨u, ?_, hr⟩
                  have hlt2 := (List.getElem?_eq_some_iff.1 hu).1
                  rw [Array.getElem?_append_left (by simpa using hlt2)]
                  simpa using hu
                · simp [Tr.get] at hy
              refine wp_mono (hrec c _ H e fr' H'' hrun ρ _ w hfr hH) ?_
              rintro e' a' w' ⟨rfl, ρ', h1, h2, h3⟩
              obtain ⟨v, r1, r2⟩ := results_sound (P := P) h1 h2 hl
              rcases he with rfl | rfl
              · exact ⟨h1.defers, v, r1, ρ', v, rfl, r2, h2, h3⟩
              · exact ⟨h1.defers, v, r1, ρ', v, rfl, r2, h2, h3⟩
            · cases hres
          split at h
          · rename_i fr' H'' hrun
            exact key _ _ _ hrun (.inl rfl) h
          · rename_i fr' H'' hrun
            exact key _ _ _ hrun (.inr rfl) h
          · cases h
        · cases h
    · cases hfn
  · cases h

theorem PostC.trans {ρ ρ₁ : RM} {H H₁ : Hp} {w w₁ : World} {e : Ex} {fr' : Fr} {H' : Hp} (hX : Ext ρ H w ρ₁ H₁ w₁) {e' a' w'} (h : PostC ρ₁ H₁ w₁ e fr' H' e' a' w') : PostC ρ H w e fr' H' e' a' w' :=
  let ⟨h0, ρ', h1, h2, h3⟩ := h
  ⟨h0, ρ', h1, h2, hX.trans h3⟩

/-- **What the evaluator finds is what the machine does.** -/
theorem ev_sound (hmix : P.follows .mixedOrders = true) : ∀ (k : Nat),
    (∀ c fr H e fr' H', ev P k c fr H = some (e, fr', H') → ∀ ρ a w, FrR ρ fr a → HR ρ H w → c.wp P (PostC ρ H w e fr' H') a w) ∧
    (∀ c fr H e fr' H', ev P k (.loop c) fr H = some (e, fr', H') → ∀ ρ a w, FrR ρ fr a → HR ρ H w → Code.rounds P c (PostC ρ H w e fr' H') k a w)
  | 0 => ⟨fun _ _ _ _ _ _ h => by simp [ev] at h, fun _ _ _ _ _ _ h => by simp [ev] at h⟩
  | k + 1 => by
    obtain ⟨ihA, ihL⟩ := ev_sound hmix k
    have hcall : CallOK P (callWith P (ev P k)) := callWith_ok ihA
    have loops : ∀ c fr H e fr' H', ev P (k + 1) (.loop c) fr H = some (e, fr', H') → ∀ ρ a w, FrR ρ fr a → HR ρ H w → Code.rounds P c (PostC ρ H w e fr' H') (k + 1) a w := by
      intro c fr H e fr' H' h ρ a w hf hH
      simp only [ev, evStep] at h
      rw [rounds_succ]
      split at h
      · rename_i fr1 H1 h1
        refine wp_mono (ihA _ _ _ _ _ _ h1 ρ a w hf hH) ?_
        rintro e1 a1 w1 ⟨rfl, ρ1, g1, g2, g3⟩
        show Code.rounds P c (PostC ρ H w e fr' H') k a1 w1
        have := ihL c fr1 H1 e fr' H' h ρ1 a1 w1 g1 g2
        -- the post is the later one
        have mono : ∀ (n : Nat) (a w') , Code.rounds P c (PostC ρ1 H1 w1 e fr' H') n a w' → Code.rounds P c (PostC ρ H w e fr' H') n a w' := by
          intro n
          induction n with
          | zero => intro a w' h; exact h
          | succ n ih =>
            intro a w' h
            rw [rounds_succ] at h ⊢
            refine wp_mono h fun e' a' w'' h' => ?_
            cases e' <;> simp only [Exit.then] at h' ⊢ <;> first | exact ih _ _ h' | exact h'.trans g3
        exact mono k a1 w1 this
      · rename_i hne
        refine wp_mono (ihA _ _ _ _ _ _ h ρ a w hf hH) ?_
        rintro e1 a1 w1 ⟨rfl, hp⟩
        cases e with
        | normal => exact absurd h (hne _ _)
        | exit i => exact ⟨rfl, hp⟩
        | ret => exact ⟨rfl, hp⟩
    refine ⟨?_, loops⟩
    intro c fr H e fr' H' h ρ a w hf hH
    have hE := evOp_sound hH.gl hf.tmps
    have here : ∀ (x : Ex), some (x, fr, H) = some (e, fr', H') → PostC ρ H w e fr' H' x.to a w := fun x hx => by
      simp only [Option.some.injEq, Prod.mk.injEq] at hx
      obtain ⟨rfl, rfl, rfl⟩ := hx
      exact ⟨rfl, ρ, hf, hH, Ext.refl _ _ _⟩
    cases c with
    | loop c => exact wp_loop_rounds (k + 1) (loops c fr H e fr' H' h ρ a w hf hH)
    | skip => exact wp_skip (here .normal h)
    | label l => exact wp_label (here .normal h)
    | ret => exact wp_ret (here .ret h)
    | exit id => exact wp_exit (here (.exit id) h)
    | seq x y =>
      simp only [ev, evStep] at h
      refine wp_seq ?_
      split at h
      · rename_i fr1 H1 h1
        refine wp_mono (ihA _ _ _ _ _ _ h1 ρ a w hf hH) ?_
        rintro e1 a1 w1 ⟨rfl, ρ1, g1, g2, g3⟩
        show y.wp P (PostC ρ H w e fr' H') a1 w1
        exact wp_mono (ihA _ _ _ _ _ _ h ρ1 a1 w1 g1 g2) fun _ _ _ h' => h'.trans g3
      · rename_i hne
        refine wp_mono (ihA _ _ _ _ _ _ h ρ a w hf hH) ?_
        rintro e1 a1 w1 ⟨rfl, hp⟩
        cases e with
        | normal => exact absurd h (hne _ _)
        | exit i => exact ⟨rfl, hp⟩
        | ret => exact ⟨rfl, hp⟩
    | cond c x y =>
      simp only [ev, evStep] at h
      split at h
      · rename_i hc
        have := hE _ _ hc
        generalize hv : a.eval c = v at this
        cases this
        exact wp_cond_true hv (ihA _ _ _ _ _ _ h ρ a w hf hH)
      · rename_i hc
        have := hE _ _ hc
        generalize hv : a.eval c = v at this
        cases this
        exact wp_cond_false hv (ihA _ _ _ _ _ _ h ρ a w hf hH)
      · cases h
    | block id x =>
      simp only [ev, evStep] at h
      refine wp_block ?_
      split at h
      · rename_i i fr1 H1 h1
        simp only [Option.some.injEq, Prod.mk.injEq] at h
        obtain ⟨rfl, rfl, rfl⟩ := h
        refine wp_mono (ihA _ _ _ _ _ _ h1 ρ a w hf hH) ?_
        rintro e1 a1 w1 ⟨rfl, hp⟩
        simp only [Ex.to, Exit.inBlock]
        by_cases hi : i = id
        · rw [if_pos hi, if_pos hi]; exact ⟨rfl, hp⟩
        · rw [if_neg hi, if_neg hi]; exact ⟨rfl, hp⟩
      · rename_i hne
        refine wp_mono (ihA _ _ _ _ _ _ h ρ a w hf hH) ?_
        rintro e1 a1 w1 ⟨rfl, hp⟩
        cases e with
        | normal => exact ⟨rfl, hp⟩
        | exit i => exact absurd h (hne _ _ _)
        | ret => exact ⟨rfl, hp⟩
    | scope x =>
      simp only [ev, evStep] at h
      refine wp_scope_straight ?_
      refine wp_mono (ihA _ _ _ _ _ _ h ρ a w hf hH) ?_
      rintro e1 a1 w1 ⟨rfl, hp⟩
      cases e <;> exact ⟨rfl, hp⟩
    | region id ops draw =>
      simp only [ev, evStep] at h
      cases draw with
      | true =>
        simp only [] at h
        split at h
        · rename_i fr1 H1 h1
          simp only [Option.some.injEq, Prod.mk.injEq] at h
          obtain ⟨rfl, rfl, rfl⟩ := h
          exact evDraw_sound hcall hmix h1 hf hH fun a' w' hp => ⟨rfl, hp⟩
        · cases h
      | false =>
        simp only [] at h
        split at h
        · rename_i fr1 H1 h1
          simp only [Option.some.injEq, Prod.mk.injEq] at h
          obtain ⟨rfl, rfl, rfl⟩ := h
          exact evRegion_sound hcall h1 hf hH fun a' w' hp => ⟨rfl, hp⟩
        · cases h
    | rangeFunc f ps x y => simp [ev, evStep] at h
    | goto l => simp [ev, evStep] at h
    | refuse s => simp [ev, evStep] at h

/-- The memory at the start: tables of whole numbers in package-level variables, which are only read; the first 64 names stand for package-level variables. -/
def glT : List (Nat × IntKind × List Int) → Tr Blk
  | [] => .nil
  | (g, k, l) :: r => (glT r).put g (some (.ro (l.map (.int k))))
theorem glT_get : ∀ {tabs : List (Nat × IntKind × List Int)} {b : Nat} {q : Blk}, (glT tabs).get b = some q → ∃ k l, (b, k, l) ∈ tabs ∧ q = .ro (l.map (.int k))
  | [], b, q, h => by simp [glT, Tr.get] at h
  | (g, k, l) :: r, b, q, h => by
    simp only [glT, Tr.get_put] at h
    by_cases e : b = g
    · rw [if_pos e, Option.some.injEq] at h
      exact ⟨k, l, by rw [e]; exact List.mem_cons_self .., h.symm⟩
    · rw [if_neg e] at h
      obtain ⟨k', l', h1, h2⟩ := glT_get h
      exact ⟨k', l', List.mem_cons_of_mem _ h1, h2⟩
/-- The tables lie in memory. -/
def TabsIn (w : World) (tabs : List (Nat × IntKind × List Int)) : Prop :=
  ∀ g k l, (g, k, l) ∈ tabs → g < 64 ∧ ∀ i n, l[i]? = some n → w.cell? ⟨g, i, none⟩ = some (.int k n)
def ρ0 : RM := fun b => if b < 64 then some ⟨b, 0, 0, 0⟩ else none
theorem hr_start {w : World} {tabs : List (Nat × IntKind × List Int)} (h : TabsIn w tabs) : HR ρ0 ⟨glT tabs, 64⟩ w where
  blk b q hb := by
    obtain ⟨k, l, h1, rfl⟩ := glT_get hb
    obtain ⟨h2, h3⟩ := h b k l h1
    refine ⟨⟨b, 0, 0, 0⟩, if_pos h2, fun i x hx => ?_⟩
    rw [List.getElem?_map] at hx
    cases hn : l[i]? with
    | none => rw [hn] at hx; cases hx
    | some n =>
      rw [hn] at hx
      simp only [Option.map_some, Option.some.injEq] at hx; subst hx
      refine ⟨.int k n, ?_, .int⟩
      rw [Nat.zero_add]
      exact h3 i n hn
  fresh b hb := if_neg (by show ¬ b < 64; have : 64 ≤ b := hb; omega)
  inj b b' bi bi' k k' hb hk := by
    obtain ⟨_, _, _, rfl⟩ := glT_get hb
    simp [Blk.wr] at hk
  gl b hb := if_pos hb

/-- A call of a function, by the evaluator. -/
def evCall (P : Program) (k : Nat) (tabs : List (Nat × IntKind × List Int)) (f : FuncId) (args : List AV) : Option AV :=
  match callWith P (ev P k) f args ⟨glT tabs, 64⟩ with
  | some (x, _) => some x
  | none => none
/-- A call without arguments that comes to a bool: wherever the tables lie in memory, it returns it, and leaves what was there. -/
theorem calls_of_ev (hmix : P.follows .mixedOrders = true) {k : Nat} {tabs : List (Nat × IntKind × List Int)} {f : FuncId} {b : Bool} (h : evCall P k tabs f [] = some (.bool b)) (w : World) (hw : TabsIn w tabs) :
    Calls P f #[] w fun e w' => e = .returned (.bool b) ∧ Go.RowKit.Below w.heap.size w w' := by
  unfold evCall at h
  split at h
  · rename_i x H' hc
    simp only [Option.some.injEq] at h; subst h
    have hcall := callWith_ok (P := P) (ev_sound hmix k).1
    obtain ⟨_, hcl⟩ := hcall f [] ⟨glT tabs, 64⟩ _ H' hc
    refine (hcl ρ0 [] w .nil (hr_start hw)).mono ?_
    rintro e w' ⟨ρ', v, rfl, r1, r2, r3⟩
    cases r1
    exact ⟨rfl, ⟨r3.os, r3.tape, r3.output, r3.size, fun r hr => r3.same r hr fun b k bi hb hk => by
      obtain ⟨_, _, _, rfl⟩ := glT_get hb
      simp [Blk.wr] at hk⟩⟩
  · cases h
/-- The same, as a test that the kernel reckons. -/
def evTrueT (P : Program) (k : Nat) (tabs : List (Nat × IntKind × List Int)) (f : FuncId) : Bool :=
  match evCall P k tabs f [] with
  | some (.bool true) => true
  | _ => false
theorem calls_of_evTrueT (hmix : P.follows .mixedOrders = true) {k : Nat} {tabs : List (Nat × IntKind × List Int)} {f : FuncId} (h : evTrueT P k tabs f = true) (w : World) (hw : TabsIn w tabs) :
    Calls P f #[] w fun e w' => e = .returned (.bool true) ∧ Go.RowKit.Below w.heap.size w w' := by
  unfold evTrueT at h
  split at h
  · rename_i hc
    exact calls_of_ev hmix hc w hw
  · cases h
/-- Without tables. -/
def evTrue (P : Program) (k : Nat) (f : FuncId) : Bool := evTrueT P k [] f
theorem calls_of_evTrue (hmix : P.follows .mixedOrders = true) {k : Nat} {f : FuncId} (h : evTrue P k f = true) (w : World) :
    Calls P f #[] w fun e w' => e = .returned (.bool true) ∧ Go.RowKit.Below w.heap.size w w' :=
  calls_of_evTrueT hmix h w fun _ _ _ h => by cases h
end
end Go.Ev
