/- append, copy, and all operations of an abstract evaluator that change memory, in one theorem. -/
import Derived.Test.YthhanoaefdahkaaGreatDoorEv5
import Derived.Lib.UnsafeStr
namespace Go.Ev

section
variable {P : Program}

def AppN (P : Program) (tX : TypeId) (i : TypeInfo) (xv : Value) (w : World) (n : Nat) (news : Array Value) : Prop :=
  (∃ d, P.underlying tX = some d ∧ (d = .string ∨ ∃ e', d = .slice e') ∧ (Builtin.lenOf xv).run P w = .ok n w ∧ ∀ w' : World, w'.heap = w.heap → (Builtin.firstCells i.size n xv).run P w' = .ok news w') ∨
  (∃ k kd z, P.underlying tX = some (.int kd) ∧ xv = .int k (n : Int) ∧ n * i.bytes ≤ 281474976710656 ∧ n ≤ 9223372036854775807 ∧ i.zero = some z ∧ z.cells.size = i.size ∧
    news = Builtin.zeroCells z.cells n)

theorem run_append_fit {tS tX ty e : TypeId} {i : TypeInfo} {xv : Value} {n : Nat} {news : Array Value} {w : World} {a : Addr} {sLen sCap : Nat}
    (hu : P.underlying tS = some (.slice e)) (hi : P.info? e = some i) (hn : AppN P tX i xv w n news) (hfit : sLen + n ≤ sCap) :
    (Builtin.append_ #[tS, tX] ty #[.slice (some a) sLen sCap, xv]).run P w =
      ((storeCells (a.add (sLen * i.size)) news.toList).run P w).andThen fun _ w' => .ok (.slice (some a) (sLen + n) sCap) w' := by
  rcases hn with ⟨d, hd, hne, hl, hf⟩ | ⟨k, kd, z, hd, rfl, h48, h63, hz, hzs, rfl⟩
  · have hf' := hf w rfl
    rcases hne with rfl | ⟨e', rfl⟩ <;>
      simp [Builtin.append_, run_underlying hu, run_underlying hd, sizeOf, typeInfo, hi, hl, hf', hfit]
  · have hw : IntKind.i64.wrap (n : Int) = n := by rw [IntKind.wrap_i64]; omega
    have h1 : ¬ ((n : Int) < 0) := by omega
    have h2 : ¬ (281474976710656 < (n : Int) * (i.bytes : Int)) := by
      have := Int.ofNat_le.2 h48
      rw [Int.natCast_mul] at this; omega
    by_cases h0 : n * i.size = 0
    · have hnil : Builtin.zeroCells z.cells n = #[] := by
        simp [Builtin.zeroCells, hzs, h0]
      rw [hnil]
      simp [Builtin.append_, run_underlying hu, run_underlying hd, sizeOf, typeInfo, hi, asInt, asIntOf, hw, h1, h2, hfit, h0]
    · simp [Builtin.append_, run_underlying hu, run_underlying hd, sizeOf, typeInfo, hi, asInt, asIntOf, hw, h1, h2, hfit, h0, zeroValue, hz]

theorem run_append_none {tS tX ty e : TypeId} {i : TypeInfo} {xv : Value} {news : Array Value} {w : World}
    (hu : P.underlying tS = some (.slice e)) (hi : P.info? e = some i) (hn : AppN P tX i xv w 0 news) :
    (Builtin.append_ #[tS, tX] ty #[.slice none 0 0, xv]).run P w = .ok (.slice none 0 0) w := by
  rcases hn with ⟨d, hd, hne, hl, hf⟩ | ⟨k, kd, z, hd, rfl, h48, h63, hz, hzs, rfl⟩
  · have hf' := hf w rfl
    rcases hne with rfl | ⟨e', rfl⟩ <;>
      simp [Builtin.append_, run_underlying hu, run_underlying hd, sizeOf, typeInfo, hi, hl, hf']
  · have hw : IntKind.i64.wrap (0 : Int) = 0 := by rw [IntKind.wrap_i64]; omega
    simp [Builtin.append_, run_underlying hu, run_underlying hd, sizeOf, typeInfo, hi, asInt, asIntOf, hw]

theorem run_append_more {tS tX ty e : TypeId} {i : TypeInfo} {z xv : Value} {n : Nat} {news old : Array Value} {w : World} {base : Option Addr} {sLen sCap : Nat}
    (hu : P.underlying tS = some (.slice e)) (hi : P.info? e = some i) (hz : i.zero = some z) (hn : AppN P tX i xv w n news)
    (ho : ∀ w' : World, w'.heap = w.heap → (Builtin.firstCells i.size sLen (.slice base sLen sCap)).run P w' = .ok old w')
    (hlt : sCap < sLen + n) (h63 : sLen + n ≤ 9223372036854775807) (hfit : Builtin.nextslicecap (sLen + n) sCap * i.bytes ≤ 281474976710656) :
    (Builtin.append_ #[tS, tX] ty #[.slice base sLen sCap, xv]).run P w =
      .ok (.slice (some ⟨w.heap.size, 0, none⟩) (sLen + n) (grownCap w (sLen + n) sCap e))
        (w.drew.alloc (.cells (old ++ news ++ Builtin.zeroCells z.cells (grownCap w (sLen + n) sCap e - (sLen + n))) e)) := by
  have hng : ¬ (sLen + n ≤ sCap) := by omega
  have h63' : ¬ (9223372036854775807 < ((sLen : Int) + (n : Int))) := by omega
  have hm : IntKind.i64.max = 9223372036854775807 := by decide
  have ho' := ho w.drew rfl
  have hcut : (Question.appendCap (sLen + n) sCap e).cut (w.tape w.drawn (.appendCap (sLen + n) sCap e)) = grownCap w (sLen + n) sCap e := rfl
  have hfit' : ¬ (281474976710656 < Builtin.nextslicecap (sLen + n) sCap * i.bytes) := by omega
  have hfz : (Question.appendCap (sLen + n) sCap e).forced = false := rfl
  rcases hn with ⟨d, hd, hne, hl, hf⟩ | ⟨k, kd, z', hd, rfl, h48, hn63, hz', hzs, rfl⟩
  · have hf' := hf w.drew rfl
    rcases hne with rfl | ⟨e', rfl⟩ <;>
      simp [Builtin.append_, run_underlying hu, run_underlying hd, sizeOf, typeInfo, hi, hl, hf', ho', hng, hm, h63', hfit', hfz, hcut, zeroValue, hz, newRow]
  · rw [hz] at hz'; cases hz'
    have hw : IntKind.i64.wrap (n : Int) = n := by rw [IntKind.wrap_i64]; omega
    have h1 : ¬ ((n : Int) < 0) := by omega
    have h2 : ¬ (281474976710656 < (n : Int) * (i.bytes : Int)) := by
      have := Int.ofNat_le.2 h48
      rw [Int.natCast_mul] at this; omega
    by_cases h0 : n * i.size = 0
    · have hnil : Builtin.zeroCells z.cells n = #[] := by
        simp [Builtin.zeroCells, hzs, h0]
      rw [hnil]
      simp [Builtin.append_, run_underlying hu, run_underlying hd, sizeOf, typeInfo, hi, asInt, asIntOf, hw, h1, h2, h0, ho', hng, hm, h63', hfit', hfz, hcut, zeroValue, hz, newRow]
    · simp [Builtin.append_, run_underlying hu, run_underlying hd, sizeOf, typeInfo, hi, asInt, asIntOf, hw, h1, h2, h0, ho', hng, hm, h63', hfit', hfz, hcut, zeroValue, hz, newRow]

theorem first_same {ρ : RM} {H : Hp} {w : World} (hH : HR ρ H w) {b o size n : Nat} {l xs : List AV} {bi : BI} (hb : ρ b = some bi) (hl : cellsAt H b = some l)
    (hxs : takeN (n * size) (l.drop o) = some xs) : ∃ vs : Array Value, VRL ρ xs vs.toList ∧ vs.size = n * size ∧
      ∀ (len cap : Nat) (w' : World), w'.heap = w.heap → (Builtin.firstCells size n (.slice (some ⟨bi.r, bi.sh + o, none⟩) len cap)).run P w' = .ok vs w' := by
  have hk := hH.block hl hb
  obtain ⟨vs, k1, _, k3, k4⟩ := run_readN (P := P) hk hxs
  refine ⟨⟨vs⟩, k3, by simpa using k1, fun len cap w' hw' => ?_⟩
  have := run_firstCells_some (P := P) w' size n ⟨bi.r, bi.sh + o, none⟩ len cap vs k1 (fun j v hj => by
    have := k4 j v hj
    unfold World.cell? at this ⊢
    rw [hw']; exact this)
  simpa using this
/-- The cells that are appended. -/
theorem newsA_sound {ρ : RM} {H : Hp} {w : World} (hH : HR ρ H w) {tX e : TypeId} {i : TypeInfo} {z x : AV} {xv : Value} {n : Nat} {news : List AV} (hi : P.info? e = some i) (hz : zeroT P e = some z)
    (hzl : z.cells.length = i.size) (hx : VR ρ x xv) (h : newsA P H tX e i.size i.bytes x = some (n, news)) :
    ∃ vs : Array Value, AppN P tX i xv w n vs ∧ VRL ρ news vs.toList ∧ vs.size = n * i.size := by
  obtain ⟨i', zv, g1, g2, g3⟩ := zeroT_spec hz
  rw [hi] at g1; cases g1
  have hzc := (g3 ρ).cells
  have hzs : zv.cells.size = i.size := by rw [← hzl, hzc.length]; simp
  unfold newsA at h
  split at h
  · rename_i kd hd
    split at h
    · rename_i k l
      split at h
      · rename_i hc
        rw [hz] at h
        simp only [hzl, if_true, Option.some.injEq, Prod.mk.injEq] at h
        obtain ⟨rfl, rfl⟩ := h
        cases hx
        refine ⟨Builtin.zeroCells zv.cells l.toNat, .inr ⟨k, kd, zv, hd, by rw [Int.toNat_of_nonneg hc.1], ?_, by omega, g2, hzs, rfl⟩, ?_, ?_⟩
        · have e : ((l.toNat * i.bytes : Nat) : Int) = l * i.bytes := by rw [Int.natCast_mul, Int.toNat_of_nonneg hc.1]
          have := hc.2.2
          omega
        · exact rep_rel hzc l.toNat (l.toNat * zv.cells.size) (by rw [hzs, hzl])
        · unfold Builtin.zeroCells; simp [hzs]
      · cases h
    · cases h
  · rename_i e' hd
    split at h
    · simp only [Option.some.injEq, Prod.mk.injEq] at h
      obtain ⟨rfl, rfl⟩ := h
      cases hx
      exact ⟨#[], .inl ⟨_, hd, .inr ⟨e', rfl⟩, rfl, fun w' _ => rfl⟩, .nil, by simp⟩
    · rename_i b o len cap
      split at h
      · rename_i l hl
        split at h
        · rename_i xs hxs
          simp only [Option.some.injEq, Prod.mk.injEq] at h
          obtain ⟨rfl, rfl⟩ := h
          cases hx with
          | sl hb hlc =>
          obtain ⟨vs, k1, k2, k3⟩ := first_same (P := P) hH hb hl hxs
          exact ⟨vs, .inl ⟨_, hd, .inr ⟨e', rfl⟩, rfl, k3 _ _⟩, k1, k2⟩
        · cases h
      · cases h
    · rename_i b o len
      split at h
      · rename_i l hl
        split at h
        · rename_i xs hxs
          simp only [Option.some.injEq, Prod.mk.injEq] at h
          obtain ⟨rfl, rfl⟩ := h
          cases hx with
          | gsl hb hc hlc =>
            obtain ⟨vs, k1, k2, k3⟩ := first_same (P := P) hH hb hl hxs
            exact ⟨vs, .inl ⟨_, hd, .inr ⟨e', rfl⟩, rfl, k3 _ _⟩, k1, k2⟩
          | gsl0 hb =>
            rename_i a
            have hnil : xs = [] := by simpa [takeN] using hxs.symm
            subst hnil
            exact ⟨#[], .inl ⟨_, hd, .inr ⟨e', rfl⟩, rfl, fun w' _ => by simp [Builtin.firstCells, loadCells, loadCellsFrom]⟩, .nil, by simp⟩
        · cases h
      · cases h
    · cases h
  · rename_i hd
    split at h
    · rename_i s
      split at h
      · rename_i h1
        simp only [Option.some.injEq, Prod.mk.injEq] at h
        obtain ⟨rfl, rfl⟩ := h
        cases hx
        have hsz : (⟨⟨s⟩⟩ : ByteArray).size = s.length := rfl
        have hex : (⟨⟨s⟩⟩ : ByteArray).extract 0 s.length = ⟨⟨s⟩⟩ := by rw [extract_mk]; simp
        refine ⟨⟨s.map fun c => Value.int .u8 c.toNat⟩, .inl ⟨_, hd, .inl rfl, by simp [Builtin.lenOf, hsz], fun w' _ => ?_⟩, bytes_rel s, by simp [h1]⟩
        simp only [Builtin.firstCells, hex, Sem.run_pure]
        simp
      · cases h
    · cases h
  · cases h

theorem VRL.allOne {ρ : RM} : ∀ {l : List AV} {vs : List Value}, VRL ρ l vs → l.all AV.one = true → ∀ v ∈ vs, v.oneCell' = true
  | _, _, .nil, _, v, hv => by cases hv
  | _, _, .cons h t, ha, v, hv => by
    simp only [List.all_cons, Bool.and_eq_true] at ha
    cases hv with
    | head => exact h.one ha.1
    | tail _ hm => exact VRL.allOne t ha.2 v hm

/-- A new row with room. -/
theorem grown_row {ρ : RM} {H : Hp} {w : World} (hH : HR ρ H w) {e : TypeId} {i : TypeInfo} {zv : Value} (h4096 : i.size < 4096) (hzs : zv.cells.size = i.size) (hpos : 0 < i.size) {len n cap : Nat} {old news : List AV} {vo vn : Array Value}
    (ho : VRL ρ old vo.toList) (hn : VRL ρ news vn.toList) (hos : vo.size = len * i.size) (hns : vn.size = n * i.size) (hcap : len + n ≤ cap) :
    ∃ ρ', VR ρ' (.gsl H.next 0 (len + n)) (.slice (some ⟨w.heap.size, 0, none⟩) (len + n) cap) ∧
      HR ρ' (H.new (.cells (old ++ news) (some (2 * (i.size + 4096 * e))))) (w.drew.alloc (.cells (vo ++ vn ++ Builtin.zeroCells zv.cells (cap - (len + n))) e)) ∧
      Ext ρ H w ρ' (H.new (.cells (old ++ news) (some (2 * (i.size + 4096 * e))))) (w.drew.alloc (.cells (vo ++ vn ++ Builtin.zeroCells zv.cells (cap - (len + n))) e)) := by
  have hsz : (vo ++ vn ++ Builtin.zeroCells zv.cells (cap - (len + n))).size = cap * i.size := by
    simp only [Array.size_append, size_zeroCells, hzs, hos, hns, ← Nat.add_mul]
    congr 1; omega
  have hrel := ho.append hn
  obtain ⟨ρ', h1, h2, h3⟩ := hH.new (w' := w.drew.alloc (.cells (vo ++ vn ++ Builtin.zeroCells zv.cells (cap - (len + n))) e))
    (.cells (vo ++ vn ++ Builtin.zeroCells zv.cells (cap - (len + n))) e) (.cells (old ++ news) (some (2 * (i.size + 4096 * e)))) ⟨w.heap.size, 0, cap * i.size, i.size⟩ rfl rfl rfl rfl rfl
    (fun ρ' hle _ => ⟨_, e, (0, 0), heap_alloc_new w.drew _, fun j _ hc => by simp at hc, fun j x hx => by
      obtain ⟨v, hv, hr⟩ := (hrel.mono hle).get hx
      have hlt := (List.getElem?_eq_some_iff.1 hv).1
      refine ⟨v, ?_, hr⟩
      rw [Nat.zero_add, Array.getElem?_append_left (by simpa using hlt)]
      rw [← Array.getElem?_toList]
      simpa using hv, Gr.row h4096 ⟨rfl, hpos, by rw [hsz]; simp⟩⟩)
  exact ⟨ρ', .gsl (bi := ⟨w.heap.size, 0, cap * i.size, i.size⟩) h1 (by simp) hcap, h2, h3⟩

theorem appendA_sound {ρ : RM} {H H' : Hp} {w : World} (hH : HR ρ H w) {tS tX ty : TypeId} {s x r : AV} {sv xv : Value} (hs : VR ρ s sv) (hx : VR ρ x xv)
    (h : appendA P H tS tX s x = some (r, H')) : Makes P ρ H w (Builtin.append_ #[tS, tX] ty #[sv, xv]) r H' := by
  unfold appendA at h
  split at h
  · rename_i e hu
    split at h
    · rename_i i z hi hz
      split at h
      · cases h
      · rename_i hc
        have hpos : 0 < i.size := by omega
        have h4096 : i.size < 4096 := by omega
        have hzl : z.cells.length = i.size := by omega
        obtain ⟨i', zv, g1, g2, g3⟩ := zeroT_spec hz
        rw [hi] at g1; cases g1
        have hzc := (g3 ρ).cells
        have hzs : zv.cells.size = i.size := by rw [← hzl, hzc.length]; simp
        split at h
        · cases h
        · rename_i n news hnews
          obtain ⟨vn, a1, a2, a3⟩ := newsA_sound hH hi hz hzl hx hnews
          split at h
          · rename_i hone
            have hones := VRL.allOne a2 hone
            split at h
            · -- to a nil slice
              cases hs
              split at h
              · rename_i h0
                subst h0
                simp only [Option.some.injEq, Prod.mk.injEq] at h
                obtain ⟨rfl, rfl⟩ := h
                exact ⟨ρ, w, _, run_append_none hu hi a1, .nilsl, hH, Ext.refl _ _ _⟩
              · rename_i h0
                split at h
                · rename_i hb
                  simp only [Option.some.injEq, Prod.mk.injEq] at h
                  obtain ⟨rfl, rfl⟩ := h
                  have hcap := grownCap_ge w (0 + n) 0 e
                  obtain ⟨ρ', r1, r2, r3⟩ := grown_row (e := e) hH h4096 hzs hpos (len := 0) (n := n) (old := []) (vo := #[]) .nil a2 (by simp) a3 hcap
                  have hrun := run_append_more (ty := ty) (base := none) (sLen := 0) (sCap := 0) (old := #[]) hu hi g2 a1
                    (fun w' _ => by simp [Builtin.firstCells]) (by omega) (by omega) (growslice_fits (by omega) (by simpa using hb.2))
                  refine ⟨ρ', _, _, hrun, ?_, ?_, ?_⟩
                  · simpa using r1
                  · simpa using r2
                  · simpa using r3
                · cases h
            · -- the capacity is known
              rename_i b o len cap
              cases hs with
              | sl hb hlc =>
              rename_i bi
              split at h
              · rename_i hfit
                split at h
                · rename_i hemp
                  simp only [Option.some.injEq, Prod.mk.injEq] at h
                  obtain ⟨rfl, rfl⟩ := h
                  have hnil : news = [] := by simpa using hemp
                  subst hnil
                  have hvn : vn.toList = [] := List.eq_nil_of_length_eq_zero (by have := a2.length; simpa using this.symm)
                  refine ⟨ρ, w, _, ?_, .sl hb hfit, hH, Ext.refl _ _ _⟩
                  rw [run_append_fit hu hi a1 hfit, hvn]
                  simp [storeCells]
                · rename_i hemp
                  split at h
                  · rename_i l g hg
                    split at h
                    · rename_i l' hset
                      simp only [Option.some.injEq, Prod.mk.injEq] at h
                      obtain ⟨rfl, rfl⟩ := h
                      obtain ⟨w', r1, r2, r3⟩ := hH.write (P := P) hg hb a2 hones (by simpa using hemp) hset
                      refine ⟨ρ, w', _, ?_, .sl (hb) hfit, r2, r3⟩
                      rw [run_append_fit hu hi a1 hfit, addr_add, Nat.add_assoc, r1]
                      rfl
                    · cases h
                  · cases h
              · rename_i hfit
                split at h
                · rename_i hbd
                  split at h
                  · rename_i l hl
                    split at h
                    · rename_i old hold
                      simp only [Option.some.injEq, Prod.mk.injEq] at h
                      obtain ⟨rfl, rfl⟩ := h
                      obtain ⟨vo, o1, o2, o3⟩ := first_same (P := P) hH hb hl hold
                      have hcap := grownCap_ge w (len + n) cap e
                      obtain ⟨ρ', r1, r2, r3⟩ := grown_row (e := e) hH h4096 hzs hpos o1 a2 o2 a3 hcap
                      exact ⟨ρ', _, _, run_append_more (ty := ty) hu hi g2 a1 (o3 _ _) (by omega) (by omega) (growslice_fits (by omega) hbd.2), r1, r2, r3⟩
                    · cases h
                  · cases h
                · cases h
            · -- the capacity is not known
              rename_i b o len
              split at h
              · rename_i h0
                subst h0
                simp only [Option.some.injEq, Prod.mk.injEq] at h
                obtain ⟨rfl, rfl⟩ := h
                have hvn : vn.toList = [] := List.eq_nil_of_length_eq_zero (by simpa using a3)
                cases hs with
                | gsl hb hcc hlc =>
                  refine ⟨ρ, w, _, ?_, .gsl hb hcc hlc, hH, Ext.refl _ _ _⟩
                  rw [run_append_fit hu hi a1 (by omega), hvn]
                  simp [storeCells]
                | @gsl0 _ _ bi0 a0 hb =>
                  refine ⟨ρ, w, .slice (some a0) 0 0, ?_, .gsl0 hb, hH, Ext.refl _ _ _⟩
                  rw [run_append_fit hu hi a1 (by omega), hvn]
                  simp [storeCells]
              · rename_i h0
                split at h
                · rename_i hbd
                  split at h
                  · rename_i l hl
                    split at h
                    · rename_i old hold
                      simp only [Option.some.injEq, Prod.mk.injEq] at h
                      obtain ⟨rfl, rfl⟩ := h
                      obtain ⟨k1, k2⟩ := hH.kill b
                      cases hs with
                      | gsl0 hb =>
                        rename_i bi a
                        have hnil : old = [] := by simpa [takeN] using hold.symm
                        subst hnil
                        have hcap := grownCap_ge w (0 + n) 0 e
                        obtain ⟨ρ', r1, r2, r3⟩ := grown_row (e := e) k1 h4096 hzs hpos (len := 0) (n := n) (old := []) (vo := #[]) .nil a2 (by simp) a3 hcap
                        have hrun := run_append_more (ty := ty) (base := some a) (sLen := 0) (sCap := 0) (old := #[]) hu hi g2 a1
                          (fun w' _ => by simp [Builtin.firstCells, loadCells, loadCellsFrom]) (by omega) (by omega) (growslice_fits (by omega) hbd.2.2)
                        exact ⟨ρ', _, _, hrun, r1, r2, k2.trans r3⟩
                      | gsl hb hcc hlc =>
                        rename_i cap bi
                        obtain ⟨hes, _⟩ := hH.growth hbd.1.1 hb
                        obtain ⟨vo, o1, o2, o3⟩ := first_same (P := P) hH hb hl hold
                        by_cases hfit : len + n ≤ cap
                        · -- it fits: the same real block
                          have hg : H.t.get b = some (.cells l (some (2 * (i.size + 4096 * e)))) := by
                            obtain ⟨_, l', e', hg, hty⟩ := growOf_spec hbd.1.1
                            rw [hbd.1.2] at hty
                            have hty := Option.some.inj hty
                            rw [← hty] at hg
                            unfold cellsAt at hl
                            rw [hg] at hl
                            simp only [Option.some.injEq] at hl; subst hl
                            exact hg
                          obtain ⟨bj, hbj, cc, tyc, fr, c1, c2, c3, c4⟩ := hH.blk b _ hg
                          rw [hb] at hbj; cases hbj
                          obtain ⟨d1, d2, d3, d4⟩ := c4.1 i.size e h4096 rfl
                          rw [d4] at c1
                          rw [hes] at hcc
                          have hmul : (len + n) * i.size ≤ cap * i.size := Nat.mul_le_mul_right _ hfit
                          rw [Nat.add_mul] at hmul
                          have hvl : vn.toList.length = n * i.size := by simpa using a3
                          obtain ⟨w', e1, e2, e3, e4, e5⟩ := run_write (P := P) (o := bi.sh + o + len * i.size) vn.toList 0 cc w c1 c2 (by omega) hones
                          have hsz2 : (wrote cc (bi.sh + o + len * i.size + 0) vn.toList).size = cc.size := wrote_size (by omega)
                          have hlt2 := (Array.getElem?_eq_some_iff.1 c1).1
                          obtain ⟨t1, t2⟩ := takeN_spec hold
                          obtain ⟨ρ', f1, f2, f3⟩ := hH.grow (bn := ⟨bi.r, bi.sh + o, bi.N - o, bi.es⟩) (k := .cells (old ++ news) (some (2 * (i.size + 4096 * e))))
                            (.cells (wrote cc (bi.sh + o + len * i.size + 0) vn.toList) e fr) hg rfl hb rfl e2 e3 e4 e5
                            (fun ρ' hle => ⟨_, e, fr, by rw [e2]; exact Array.getElem?_setIfInBounds_self_of_lt hlt2, fun j hj => c2 j (by omega), fun j y hy => by
                              show ∃ v, (wrote cc (bi.sh + o + len * i.size + 0) vn.toList)[bi.sh + o + j]? = some v ∧ _
                              rw [wrote_get (by omega)]
                              by_cases hj : j < len * i.size
                              · rw [if_neg (by omega)]
                                rw [List.getElem?_append_left (by omega)] at hy
                                rw [t2 j hj, List.getElem?_drop] at hy
                                obtain ⟨v, hv, hr⟩ := c3 _ _ hy
                                exact ⟨v, by rw [← hv]; congr 1; omega, hr.mono hle⟩
                              · rw [List.getElem?_append_right (by omega)] at hy
                                have hjlt : j - old.length < news.length := (List.getElem?_eq_some_iff.1 hy).1
                                have hnl : news.length = n * i.size := by rw [a2.length, hvl]
                                rw [if_pos (by omega)]
                                obtain ⟨v, hv, hr⟩ := a2.get hy
                                refine ⟨v, ?_, hr.mono hle⟩
                                rw [← hv]; congr 1; omega, Gr.row h4096 ⟨hes, hpos, by
                                  rw [hsz2, ← d3]
                                  show bi.sh + o + (bi.N - o) = bi.sh + bi.N
                                  omega⟩⟩)
                          refine ⟨ρ', w', .slice (some ⟨bi.r, bi.sh + o, none⟩) (len + n) cap, ?_, ?_, f2, f3⟩
                          · rw [run_append_fit hu hi a1 hfit, addr_add, e1]
                            rfl
                          · have := VR.gsl (ρ := ρ') (b := H.next) (o := 0) (len := len + n) (cap := cap) (bi := ⟨bi.r, bi.sh + o, bi.N - o, bi.es⟩) f1
                              (by show 0 + cap * bi.es = bi.N - o; rw [hes]; omega) hfit
                            simpa using this
                        · have hcap := grownCap_ge w (len + n) cap e
                          obtain ⟨ρ', r1, r2, r3⟩ := grown_row (e := e) k1 h4096 hzs hpos o1 a2 o2 a3 hcap
                          exact ⟨ρ', _, _, run_append_more (ty := ty) hu hi g2 a1 (o3 _ _) (by omega) (by omega) (growslice_fits (by omega) hbd.2.2), r1, r2, k2.trans r3⟩
                    · cases h
                  · cases h
                · cases h
            · cases h
          · cases h
    · cases h
  · cases h

/-! ### copy -/
theorem lenOfA_sound {ρ : RM} {x : AV} {v : Value} {n : Nat} (h : lenOfA x = some n) (hx : VR ρ x v) (w : World) : (Builtin.lenOf v).run P w = .ok n w := by
  unfold lenOfA at h
  split at h <;> first | (cases h; done) | skip
  all_goals
    simp only [Option.some.injEq] at h; subst h
    cases hx <;> rfl
theorem firstA_sound {ρ : RM} {H : Hp} {w : World} (hH : HR ρ H w) {size n sn : Nat} {x : AV} {v : Value} {cs : List AV} (hx : VR ρ x v) (hl : lenOfA x = some sn) (hn : n ≤ sn)
    (h : firstA H size n x = some cs) (hlen : cs.length = n * size) : ∃ vs : Array Value, (Builtin.firstCells size n v).run P w = .ok vs w ∧ VRL ρ cs vs.toList := by
  unfold firstA at h
  split at h
  · simp only [Option.some.injEq] at h; subst h
    cases hx
    exact ⟨#[], by simp [Builtin.firstCells], .nil⟩
  · split at h
    · rename_i l hl
      cases hx with
      | sl hb hlc =>
      obtain ⟨vs, k1, k2, k3⟩ := first_same (P := P) hH hb hl h
      exact ⟨vs, k3 _ _ w rfl, k1⟩
    · cases h
  · split at h
    · rename_i l hl'
      cases hx with
      | gsl hb hc hlc =>
        obtain ⟨vs, k1, k2, k3⟩ := first_same (P := P) hH hb hl' h
        exact ⟨vs, k3 _ _ w rfl, k1⟩
      | gsl0 hb =>
        simp only [lenOfA, Option.some.injEq] at hl
        have h0 : n = 0 := by omega
        subst h0
        have hnil : cs = [] := by simpa [takeN] using h.symm
        subst hnil
        exact ⟨#[], by simp [Builtin.firstCells, loadCells, loadCellsFrom], .nil⟩
    · cases h
  · split at h
    · rename_i s h1
      simp only [Option.some.injEq] at h; subst h
      cases hx
      refine ⟨⟨(s.take n).map fun c => Value.int .u8 c.toNat⟩, ?_, bytes_rel _⟩
      have hex : (⟨⟨s⟩⟩ : ByteArray).extract 0 n = ⟨⟨s.take n⟩⟩ := by rw [extract_mk]; simp
      simp only [Builtin.firstCells, hex, Sem.run_pure]
      simp
    · cases h
  · cases h
theorem run_copy {tD ty e : TypeId} {ts : List TypeId} {size sn dn cap : Nat} {sv : Value} {vs : Array Value} {base : Option Addr} {w : World} (hu : P.underlying tD = some (.slice e)) (hsz : szT P e = some size)
    (l1 : (Builtin.lenOf sv).run P w = .ok sn w) {n : Nat} (hn : Nat.min sn dn = n) (v1 : (Builtin.firstCells size n sv).run P w = .ok vs w) :
    (Builtin.copy_ ⟨tD :: ts⟩ ty #[.slice base dn cap, sv]).run P w =
      ((match base with | some a => storeCells a vs.toList | none => pure () : Sem Unit).run P w).andThen fun _ w' => .ok (.int .i64 n) w' := by
  cases base with
  | none => simp [Builtin.copy_, run_underlying hu, l1, run_sizeOf hsz, hn, v1, goInt]
  | some a => simp [Builtin.copy_, run_underlying hu, l1, run_sizeOf hsz, hn, v1, goInt]
theorem copyA_sound {ρ : RM} {H H' : Hp} {w : World} (hH : HR ρ H w) {tD ty : TypeId} {ts : List TypeId} {d s r : AV} {dv sv : Value} (hd : VR ρ d dv) (hs : VR ρ s sv)
    (h : copyA P H tD d s = some (r, H')) : Makes P ρ H w (Builtin.copy_ ⟨tD :: ts⟩ ty #[dv, sv]) r H' := by
  unfold copyA at h
  split at h
  · rename_i e hu
    split at h
    · rename_i size dn sn hsz hdn hsn
      split at h
      · rename_i cs hcs
        split at h
        · rename_i hc
          obtain ⟨vs, v1, v2⟩ := firstA_sound (P := P) hH hs hsn (Nat.min_le_left _ _) hcs hc.2.2
          have l1 := lenOfA_sound (P := P) hsn hs w
          have hones := VRL.allOne v2 hc.1
          obtain ⟨n, hn⟩ : ∃ n, Nat.min sn dn = n := ⟨_, rfl⟩
          rw [show min sn dn = n from hn] at v1
          rw [hn] at hcs
          have hc3 : cs.length = n * size := by rw [← hn]; exact hc.2.2
          have hrun : ∀ (base : Option Addr) (cap : Nat), (Builtin.copy_ ⟨tD :: ts⟩ ty #[.slice base dn cap, sv]).run P w =
              ((match base with | some a => storeCells a vs.toList | none => pure () : Sem Unit).run P w).andThen fun _ w' => .ok (.int .i64 n) w' := fun base cap => run_copy hu hsz l1 hn v1
          have hshape : ∃ base cap, dv = .slice base dn cap ∧ ((base = none ∧ dn = 0) ∨ ∃ a, base = some a) := by
            unfold lenOfA at hdn
            split at hdn <;> first | (cases hdn; done) | skip
            · simp only [Option.some.injEq] at hdn; subst hdn; cases hd; exact ⟨_, _, rfl, .inl ⟨rfl, rfl⟩⟩
            · simp only [Option.some.injEq] at hdn; subst hdn; cases hd; exact ⟨_, _, rfl, .inr ⟨_, rfl⟩⟩
            · simp only [Option.some.injEq] at hdn; subst hdn
              cases hd with
              | gsl hb hcc hlc => exact ⟨_, _, rfl, .inr ⟨_, rfl⟩⟩
              | gsl0 hb => exact ⟨_, _, rfl, .inr ⟨_, rfl⟩⟩
            · exfalso
              by_cases hq : cs.isEmpty = true <;> simp [hq] at h
          split at h
          · rename_i hemp
            have hnil : cs = [] := by simpa using hemp
            subst hnil
            have hvs : vs.toList = [] := List.eq_nil_of_length_eq_zero (by have := v2.length; simpa using this.symm)
            have hres : r = .int .i64 n ∧ H' = H := by
              rw [hn] at h
              split at h <;> first | (cases h; done) | skip
              all_goals
                simp only [Option.some.injEq, Prod.mk.injEq] at h
                exact ⟨h.1.symm, h.2.symm⟩
            obtain ⟨rfl, rfl⟩ := hres
            obtain ⟨base, cap, rfl, _⟩ := hshape
            refine ⟨ρ, w, _, ?_, .int, hH, Ext.refl _ _ _⟩
            rw [hrun, hvs]
            cases base <;> rfl
          · rename_i hemp
            have hne : cs ≠ [] := by simpa using hemp
            rw [hn] at h
            split at h
            · rename_i b o len cap
              cases hd with
              | sl hb hlc =>
              simp only [lenOfA, Option.some.injEq] at hdn; subst hdn
              split at h
              · rename_i l g hg
                split at h
                · rename_i l' hset
                  simp only [Option.some.injEq, Prod.mk.injEq] at h
                  obtain ⟨rfl, rfl⟩ := h
                  obtain ⟨w', r1, r2, r3⟩ := hH.write (P := P) hg hb v2 hones hne hset
                  refine ⟨ρ, w', _, ?_, .int, r2, r3⟩
                  rw [hrun, r1]
                  rfl
                · cases h
              · cases h
            · rename_i b o len
              cases hd with
              | gsl hb hcc hlc =>
                simp only [lenOfA, Option.some.injEq] at hdn; subst hdn
                split at h
                · rename_i l g hg
                  split at h
                  · rename_i l' hset
                    simp only [Option.some.injEq, Prod.mk.injEq] at h
                    obtain ⟨rfl, rfl⟩ := h
                    obtain ⟨w', r1, r2, r3⟩ := hH.write (P := P) hg hb v2 hones hne hset
                    refine ⟨ρ, w', _, ?_, .int, r2, r3⟩
                    rw [hrun, r1]
                    rfl
                  · cases h
                · cases h
              | gsl0 hb =>
                simp only [lenOfA, Option.some.injEq] at hdn; subst hdn
                exfalso
                have hn0 : n = 0 := by rw [← hn]; exact Nat.min_zero sn
                rw [hn0] at hc3
                exact hne (List.eq_nil_of_length_eq_zero (by simpa using hc3))
            · cases h
        · cases h
      · cases h
    · cases h
  · cases h

/-! ### All of them -/
theorem bytesB_sound {ρ : RM} : ∀ {xs : List AV} {s : List UInt8} {vs : List Value}, bytesB xs = some s → VRL ρ xs vs → vs = s.map fun b => Value.int .u8 b.toNat
  | [], s, vs, h, hv => by
    simp [bytesB] at h; subst h; cases hv; rfl
  | x :: xs, s, vs, h, hv => by
    cases hv with
    | cons hx ht =>
    unfold bytesB at h
    split at h
    · rename_i e; cases e
    case h_3 => cases h
    rename_i n xs' e
    obtain ⟨rfl, rfl⟩ := List.cons.inj e
    split at h
    · rename_i hr
      split at h
      · rename_i l hl
        simp only [Option.some.injEq] at h; subst h
        cases hx
        have := bytesB_sound hl ht
        rw [this]
        simp only [List.map_cons]
        congr 2
        have : (UInt8.ofNat n.toNat).toNat = n.toNat := by
          rw [UInt8.toNat_ofNat']
          omega
        rw [this]; omega
      · cases h
    · cases h
theorem modify_at {a : Array Obj} {i : Nat} {x : Obj} {f : Obj → Obj} (h : a[i]? = some x) : a.modify i f = a.setIfInBounds i (f x) := by
  have hlt := (Array.getElem?_eq_some_iff.1 h).1
  apply Array.ext_getElem?
  intro j
  rw [Array.getElem?_modify]
  by_cases e : i = j
  · subst e
    rw [if_pos rfl, h, Array.getElem?_setIfInBounds_self_of_lt hlt]
    rfl
  · rw [if_neg e, Array.getElem?_setIfInBounds_ne e]
theorem lies_off {e : TypeId} (hc : P.cellsOf e = 1) (count off n : Nat) (hn : off + n ≤ count) : liesAt P P.depth e count off e n = true := by
  have hd : P.depth = (2 * (P.types.size + Made.depth) + 1) + 1 := rfl
  rw [hd]
  simp only [liesAt, Bool.or_eq_true]
  left
  rw [hd]
  simp [rowAt, hc, hn, sameLayout, Nat.mod_one]
theorem run_unsafeString_off {w : World} (pt it ty e : TypeId) (hp : P.underlying pt = some (.pointer e)) (hc : P.cellsOf e = 1) (g o cells : Nat) (hsh : w.shape? g = some (e, cells)) (l : List UInt8) (h0 : l ≠ []) (hn : o + l.length ≤ cells) (h63 : l.length ≤ 9223372036854775807)
    (hcell : ∀ j x, l[j]? = some x → w.cell? ((⟨g, o, none⟩ : Addr).add j) = some (.int .u8 x.toNat)) :
    (Builtin.unsafeString_ #[pt, it] ty #[.pointer (some ⟨g, o, none⟩), .int .i64 l.length]).run P w = .ok (.string ⟨l.toArray⟩) (w.freeze ⟨g, o, none⟩ l.length) := by
  have hl : l.length ≠ 0 := by simpa using h0
  have hlb := Lib.run_loadBytes (P := P) (w := w) l ⟨g, o, none⟩ .empty hcell
  have hlies := lies_off (P := P) hc (cells / P.cellsOf e) o l.length (by rw [hc]; simpa using hn)
  have h63' : ¬ (9223372036854775807 : Int) < (l.length : Int) := by omega
  have hdef : Builtin.unsafeString_ #[pt, it] ty #[.pointer (some ⟨g, o, none⟩), .int .i64 l.length] =
      (do
        let n ← asInt (.int .i64 l.length)
        if n < 0 then runtimePanic (.error "unsafe.String: len out of range")
        if n > IntKind.i64.max then unsupported (.unsafePointer "String: a length above the largest int")
        if n = 0 then pure (.string .empty)
        else if ← variablesAt ⟨g, o, none⟩ (← elemOf pt) n.toNat then do
          let s ← loadBytes ⟨g, o, none⟩ .empty n.toNat
          freeze ⟨g, o, none⟩ n.toNat
          pure (.string s)
        else unsupported (.unsafePointer "String: not so many bytes at ptr")) := rfl
  rw [hdef]
  have hmax : IntKind.i64.max = 9223372036854775807 := rfl
  have hneg : ¬ (l.length : Int) < 0 := by omega
  simp [asInt, asIntOf, hmax, h63', hneg, hl, variablesAt, hsh, elemOf, run_underlying hp, hlies, hlb]
theorem unsafeStrA_sound {ρ : RM} {H H' : Hp} {w : World} (hH : HR ρ H w) {pt it ty : TypeId} {x y r : AV} {xv yv : Value} (hx : VR ρ x xv) (hy : VR ρ y yv)
    (h : unsafeStrA P H pt x y = some (r, H')) : Makes P ρ H w (Builtin.unsafeString_ #[pt, it] ty #[xv, yv]) r H' := by
  unfold unsafeStrA at h
  split at h
  · split at h
    · rename_i hn
      subst hn
      simp only [Option.some.injEq, Prod.mk.injEq] at h
      obtain ⟨rfl, rfl⟩ := h
      cases hx; cases hy
      exact ⟨ρ, w, _, Lib.run_unsafeString_none w _ _ _ _, .str (s := []), hH, Ext.refl _ _ _⟩
    · cases h
  · rename_i b o n
    split at h
    · rename_i hn
      split at h
      · rename_i e e' l g hu hty hg
        split at h
        · rename_i hc
          obtain ⟨rfl, hgr, hce⟩ := hc
          split at h
          · rename_i xs hxs
            split at h
            · rename_i s hs
              simp only [Option.some.injEq, Prod.mk.injEq] at h
              obtain ⟨rfl, rfl⟩ := h
              cases hx with
              | ptr hb =>
              rename_i bi
              cases hy
              have hl : cellsAt H b = some l := by unfold cellsAt; rw [hg]
              have hk := hH.block hl hb
              obtain ⟨vs, q1, q2, q3, q4⟩ := run_readN (P := P) hk hxs
              have hvs := bytesB_sound hs q3
              obtain ⟨bj, hbj, cc, tyc, ⟨flo, fhi⟩, c1, c2, c3, c4⟩ := hH.blk b _ hg
              rw [hb] at hbj; cases hbj
              obtain ⟨h4096, l', e2, hg2, hty2⟩ := growOf_spec hgr
              rw [hty] at hty2
              have hty2 := Option.some.inj hty2
              rw [hg] at hg2
              simp only [Option.some.injEq, Blk.cells.injEq] at hg2
              obtain ⟨_, hg2⟩ := hg2
              obtain ⟨_, _, d3, d4⟩ := c4.1 1 e2 (by omega) hg2
              have hshape : w.shape? bi.r = some (e, cc.size) := by
                unfold World.shape?; rw [c1]; rw [d4, ← hty2]
              have hsl : s.length = n.toNat := by rw [← q1, hvs]; simp
              have hne : s ≠ [] := fun e0 => by rw [e0] at hsl; simp at hsl; omega
              obtain ⟨t1, t2⟩ := takeN_spec hxs
              have hbound : bi.sh + o + s.length ≤ cc.size := by
                have hlt : n.toNat - 1 < xs.length := by omega
                have h2 := t2 (n.toNat - 1) (by omega)
                rw [List.getElem?_drop, List.getElem?_eq_getElem hlt] at h2
                obtain ⟨v, hv, _⟩ := c3 (o + (n.toNat - 1)) _ h2.symm
                have := (Array.getElem?_eq_some_iff.1 hv).1
                omega
              have hrun := run_unsafeString_off (P := P) (w := w) pt it ty e hu hce bi.r (bi.sh + o) cc.size hshape s hne hbound (by omega) (fun j x hj => by
                have := q4 j (.int .u8 x.toNat) (by rw [hvs]; simp [hj])
                exact this)
              have hnn : n = (s.length : Int) := by omega
              have hw : (w.freeze ⟨bi.r, bi.sh + o, none⟩ s.length).heap = w.heap.setIfInBounds bi.r (.cells cc tyc (if flo == fhi then (bi.sh + o, bi.sh + o + s.length) else (min flo (bi.sh + o), max fhi (bi.sh + o + s.length)))) := by
                unfold World.freeze
                rw [if_neg (by omega)]
                dsimp only
                rw [modify_at c1]
              have hlt2 := (Array.getElem?_eq_some_iff.1 c1).1
              obtain ⟨u1, u2⟩ := hH.upd0 (w' := w.freeze ⟨bi.r, bi.sh + o, none⟩ s.length) (k := .ro l) _ hg rfl hb hw
                (by unfold World.freeze; split <;> rfl) (by unfold World.freeze; split <;> rfl) (by unfold World.freeze; split <;> rfl)
                (fun i y hy => by
                  obtain ⟨v, hv, hr⟩ := c3 i y hy
                  refine ⟨v, ?_, hr⟩
                  unfold World.cell?
                  rw [hw, Array.getElem?_setIfInBounds_self_of_lt hlt2]
                  exact hv)
              exact ⟨ρ, _, _, by rw [hnn]; exact hrun, .str, u1, u2⟩
            · cases h
          · cases h
        · cases h
      · cases h
    · cases h
  · cases h
theorem writeA_sound {ρ : RM} {E : Operand → Option AV} {e : Operand → Value} (hE : OpdR ρ E e) {H H' : Hp} {w : World} (hH : HR ρ H w) {o : Oper} {x : AV}
    (h : writeA P E H o.op = some (x, H')) : Wrote P ρ H w (execOp e o) x H' := by
  obtain ⟨dst, op, type, pos, after, guard⟩ := o
  unfold writeA at h
  cases op <;> simp only [] at h <;> first | (cases h; done) | skip
  case alloc t =>
    split at h
    · rename_i z hz
      simp only [Option.some.injEq, Prod.mk.injEq] at h
      obtain ⟨rfl, rfl⟩ := h
      obtain ⟨i, zv, g1, g2, g3⟩ := zeroT_spec hz
      obtain ⟨ρ', w', r1, r2, r3, r4⟩ := makes_rowG (P := P) (e := t) hH (g3 ρ).cells (selfG_ok (P := P) (t := t) (by rw [(g3 ρ).cells.length]; simp) w.heap.size)
      have : Makes P ρ H w (Instr.alloc t true (.tuple #[])) (.ptr H.next 0) (H.new (.cells z.cells (selfG P t))) :=
        ⟨ρ', w', _, by simp [Instr.alloc, run_zeroValue g1 g2, newVar, r1], .ptr r2, r3, r4⟩
      exact this.wrote
    · cases h
  case box t a =>
    split at h
    · rename_i v hv
      simp only [Option.some.injEq, Prod.mk.injEq] at h
      obtain ⟨rfl, rfl⟩ := h
      obtain ⟨ρ', w', r1, r2, r3, r4⟩ := makes_row (P := P) (e := t) hH (hE _ _ hv).cells
      have : Makes P ρ H w (Instr.box t (e a)) (.ptr H.next 0) (H.new (.cells v.cells none)) :=
        ⟨ρ', w', _, by simp [Instr.box, newVar, r1], .ptr r2, r3, r4⟩
      exact this.wrote
    · cases h
  case store t a v =>
    split at h
    · rename_i b off y ha hv
      split at h
      · rename_i H2 hst
        simp only [Option.some.injEq, Prod.mk.injEq] at h
        obtain ⟨rfl, rfl⟩ := h
        have hc := hE _ _ ha
        generalize hva : e a = va at hc
        cases hc with
        | ptr hb =>
        obtain ⟨w', r1, r2, r3⟩ := storeA_sound (P := P) hH hb (hE _ _ hv) hst
        exact ⟨ρ, w', undef, .inr ⟨by simp [execOp, hva, Instr.storeAt, Instr.sureAddr, r1], rfl⟩, .tuple .nil, r2, r3⟩
      · cases h
    · cases h
  case buildSlice t len parts =>
    split at h
    · rename_i ps hps
      have hp := evP_sound hE hps
      have : PartsR ρ ps (parts.map fun (i, x) => (i, e x)).toList := by simpa using hp
      exact (buildSliceA_sound (P := P) hH this h).wrote
    · cases h
  case makeSlice t l c =>
    split at h
    · rename_i a b ha hb
      exact (makeSliceA_sound (P := P) hH (hE _ _ ha) (hE _ _ hb) h).wrote
    · cases h
  case makeMap t r =>
    have key : ∀ (s : Sem Value), s.run P w = .ok (.map (some w.heap.size)) (w.alloc (.map #[] 0)) → Makes P ρ H w s (.map H.next) (H.new (.mapb [] 0)) := by
      intro s hrun
      obtain ⟨ρ', h1, h2, h3⟩ := hH.new (w' := w.alloc (.map #[] 0)) (.map #[] 0) (.mapb [] 0) ⟨w.heap.size, 0, 0, 0⟩ rfl rfl rfl rfl rfl
        (fun ρ' _ _ => ⟨#[], heap_alloc_new w _, by simp [MapR]⟩)
      exact ⟨ρ', _, _, hrun, .map (bi := ⟨w.heap.size, 0, 0, 0⟩) h1, h2, h3⟩
    split at h
    · simp only [Option.some.injEq, Prod.mk.injEq] at h
      obtain ⟨rfl, rfl⟩ := h
      exact (key (Instr.makeMap t none) (by simp [Instr.makeMap])).wrote
    · rename_i x'
      split at h
      · rename_i k el kk n hu hx
        simp only [Option.some.injEq, Prod.mk.injEq] at h
        obtain ⟨rfl, rfl⟩ := h
        have hc := hE _ _ hx
        generalize hvx : e x' = vx at hc
        cases hc
        have := (key (Instr.makeMap t (some (.int kk n))) (by simp [Instr.makeMap, run_underlying hu, asInt, asIntOf])).wrote
        simpa [execOp, hvx] using this
      · cases h
  case mapUpdate t m k v =>
    split at h
    · rename_i m' k' v' hm hk hv
      split at h
      · rename_i H2 hst
        simp only [Option.some.injEq, Prod.mk.injEq] at h
        obtain ⟨rfl, rfl⟩ := h
        obtain ⟨w', r1, r2, r3⟩ := mapSetA_sound (P := P) hH (hE _ _ hm) (hE _ _ hk) (hE _ _ hv) hst
        exact ⟨ρ, w', undef, .inr ⟨by simp [execOp, r1], rfl⟩, .tuple .nil, r2, r3⟩
      · cases h
    · cases h
  case insert t m k v =>
    split at h
    · rename_i m' k' v' hm hk hv
      split at h
      · rename_i H2 hst
        simp only [Option.some.injEq, Prod.mk.injEq] at h
        obtain ⟨rfl, rfl⟩ := h
        obtain ⟨w', r1, r2, r3⟩ := mapSetA_sound (P := P) hH (hE _ _ hm) (hE _ _ hk) (hE _ _ hv) hst
        exact ⟨ρ, w', undef, .inr ⟨by simp [execOp, r1], rfl⟩, .tuple .nil, r2, r3⟩
      · cases h
    · cases h
  case convert s d a =>
    split at h
    · rename_i ds el b h1 h2 ha
      split at h
      · rename_i h3
        split at h
        · rename_i hl
          simp only [Option.some.injEq, Prod.mk.injEq] at h
          obtain ⟨rfl, rfl⟩ := h
          have hc := hE _ _ ha
          generalize hva : e a = va at hc
          cases hc
          have hm := makes_bytes (P := P) (e := el) hH hl
          have : Makes P ρ H w (convert s d (.string ⟨⟨b⟩⟩)) (.gsl H.next 0 b.length) (H.new (.cells (b.map fun c => .int .u8 c.toNat) (some (2 * (1 + 4096 * el))))) := by
            obtain ⟨ρ', w', v, r1, r2, r3, r4⟩ := hm
            refine ⟨ρ', w', v, ?_, r2, r3, r4⟩
            cases ds <;> (simp only [convert, Sem.run_bind, run_underlying h1, run_underlying h2, run_underlying h3, Result.andThen_ok]; exact r1)
          have := this.wrote
          simpa only [execOp, hva] using this
        · cases h
      · cases h
    · cases h
  case call c =>
    obtain ⟨callee, args, argTypes⟩ := c
    cases callee <;> simp only [] at h <;> first | (cases h; done) | skip
    rename_i b
    split at h
    · rename_i x' y' hxs
      have hv := evL_sound hE hxs
      have e1 : args.map e = ⟨args.toList.map e⟩ := by cases args; simp
      generalize hvs : args.toList.map e = vs at hv
      cases hv with
      | cons hx ht =>
      cases ht with
      | cons hy hn =>
      cases hn
      rename_i vx vy
      split at h
      · rename_i tS tX hts
        have e2 : argTypes = #[tS, tX] := by cases argTypes; simp at hts; simp [hts]
        obtain ⟨ρ', w', v, r1, r2, r3, r4⟩ := appendA_sound (P := P) (ty := type) hH hx hy h
        refine ⟨ρ', w', v, .inl ?_, r2, r3, r4⟩
        simp only [execOp, resolve, Sem.run_bind, Sem.run_pure, Result.andThen_ok, invoke, e1, hvs, builtin, e2]
        rw [show (⟨[vx, vy]⟩ : Array Value) = #[vx, vy] from rfl, r1]
        rfl
      · rename_i tD ts hts
        have e2 : argTypes = ⟨tD :: ts⟩ := by cases argTypes; simp at hts; simp [hts]
        obtain ⟨ρ', w', v, r1, r2, r3, r4⟩ := copyA_sound (P := P) (ty := type) (ts := ts) hH hx hy h
        refine ⟨ρ', w', v, .inl ?_, r2, r3, r4⟩
        simp only [execOp, resolve, Sem.run_bind, Sem.run_pure, Result.andThen_ok, invoke, e1, hvs, builtin, e2]
        rw [show (⟨[vx, vy]⟩ : Array Value) = #[vx, vy] from rfl, r1]
        rfl
      · rename_i tP tI hts
        have e2 : argTypes = #[tP, tI] := by cases argTypes; simp at hts; simp [hts]
        obtain ⟨ρ', w', v, r1, r2, r3, r4⟩ := unsafeStrA_sound (P := P) (ty := type) hH hx hy h
        refine ⟨ρ', w', v, .inl ?_, r2, r3, r4⟩
        simp only [execOp, resolve, Sem.run_bind, Sem.run_pure, Result.andThen_ok, invoke, e1, hvs, builtin, e2]
        rw [show (⟨[vx, vy]⟩ : Array Value) = #[vx, vy] from rfl, r1]
        rfl
      · cases h
    · cases h
end
end Go.Ev
