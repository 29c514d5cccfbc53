/- The operations of an abstract evaluator that change memory, and that each of them does what the machine's operation does. -/
import Derived.Test.YthhanoaefdahkaaGreatDoorEv4
namespace Go.Ev

section
variable (P : Program)

def repL {α : Type} : Nat → List α → List α
  | 0, _ => []
  | n + 1, z => z ++ repL n z

def storeA (H : Hp) (t : TypeId) (b o : Nat) (x : AV) : Option Hp :=
  match szT P t with
  | some (n + 1) => if x.cells.length = n + 1 ∧ x.cells.all AV.one = true then
      (match H.t.get b with
      | some (.cells l g) => match setN l o x.cells with
        | some l' => some (H.upd b (.cells l' g))
        | none => none
      | _ => none)
    else none
  | _ => none

/-- What is appended: how many elements, and their cells. -/
def newsA (H : Hp) (tX e : TypeId) (size bytes : Nat) (x : AV) : Option (Nat × List AV) :=
  match P.underlying tX with
  | some (.int _) => match x with
    | .int _ l => if 0 ≤ l ∧ l ≤ 1099511627776 ∧ l * bytes ≤ 140737488355328 then
        (match zeroT P e with
        | some z => if z.cells.length = size then some (l.toNat, repL l.toNat z.cells) else none
        | none => none) else none
    | _ => none
  | some (.slice _) => match x with
    | .nilsl => some (0, [])
    | .sl b o len _ | .gsl b o len => match cellsAt H b with
      | some l => match takeN (len * size) (l.drop o) with
        | some xs => some (len, xs)
        | none => none
      | none => none
    | _ => none
  | some .string => match x with
    | .str s => if size = 1 then some (s.length, s.map fun c => .int .u8 c.toNat) else none
    | _ => none
  | _ => none

def appendA (H : Hp) (tS tX : TypeId) (s x : AV) : Option (AV × Hp) :=
  match P.underlying tS with
  | some (.slice e) => match P.info? e, zeroT P e with
    | some i, some z => if i.size = 0 ∨ 4096 ≤ i.size ∨ z.cells.length ≠ i.size then none else
      (match newsA P H tX e i.size i.bytes x with
      | none => none
      | some (n, news) => if news.all AV.one = true then
        (match s with
        | .nilsl => if n = 0 then some (.nilsl, H)
          else if n ≤ 1099511627776 ∧ n * i.bytes ≤ 140737488355328 then some (.gsl H.next 0 n, H.new (.cells news (some (2 * (i.size + 4096 * e)))))
          else none
        | .sl b o len cap => if len + n ≤ cap then
            (if news.isEmpty then some (.sl b o (len + n) cap, H) else
              (match H.t.get b with
              | some (.cells l g) => match setN l (o + len * i.size) news with
                | some l' => some (.sl b o (len + n) cap, H.upd b (.cells l' g))
                | none => none
              | _ => none))
          else if len + n ≤ 1099511627776 ∧ (len + n) * i.bytes ≤ 140737488355328 then
            (match cellsAt H b with
            | some l => match takeN (len * i.size) (l.drop o) with
              | some old => some (.gsl H.next 0 (len + n), H.new (.cells (old ++ news) (some (2 * (i.size + 4096 * e)))))
              | none => none
            | none => none)
          else none
        | .gsl b o len => if n = 0 then some (.gsl b o len, H)
          else if (growOf H b = some i.size ∧ growTy H b = some e) ∧ len + n ≤ 1099511627776 ∧ (len + n) * i.bytes ≤ 140737488355328 then
            (match cellsAt H b with
            | some l => match takeN (len * i.size) (l.drop o) with
              | some old => some (.gsl H.next 0 (len + n), (H.kill b).new (.cells (old ++ news) (some (2 * (i.size + 4096 * e)))))
              | none => none
            | none => none)
          else none
        | _ => none) else none)
    | _, _ => none
  | _ => none

def lenOfA : AV → Option Nat
  | .nilsl => some 0
  | .sl _ _ n _ => some n
  | .gsl _ _ n => some n
  | .str s => some s.length
  | _ => none
def firstA (H : Hp) (size n : Nat) : AV → Option (List AV)
  | .nilsl => some []
  | .sl b o _ _ | .gsl b o _ => match cellsAt H b with
    | some l => takeN (n * size) (l.drop o)
    | none => none
  | .str s => if size = 1 then some ((s.take n).map fun c => .int .u8 c.toNat) else none
  | _ => none
def copyA (H : Hp) (tD : TypeId) (d s : AV) : Option (AV × Hp) :=
  match P.underlying tD with
  | some (.slice e) => match szT P e, lenOfA d, lenOfA s with
    | some size, some dn, some sn => match firstA H size (Nat.min sn dn) s with
      | some cs => if cs.all AV.one = true ∧ 0 < size ∧ cs.length = Nat.min sn dn * size then
          (if cs.isEmpty then (match d with
            | .nilsl | .sl _ _ _ _ | .gsl _ _ _ => some (.int .i64 (Nat.min sn dn), H)
            | _ => none)
          else match d with
            | .sl b o _ _ | .gsl b o _ => match H.t.get b with
              | some (.cells l g) => match setN l o cs with
                | some l' => some (.int .i64 (Nat.min sn dn), H.upd b (.cells l' g))
                | none => none
              | _ => none
            | _ => none) else none
      | none => none
    | _, _, _ => none
  | _ => none

def updL {α : Type} : List α → Nat → (α → α) → List α
  | [], _, _ => []
  | x :: xs, 0, f => f x :: xs
  | x :: xs, n + 1, f => x :: updL xs n f

def mapSetA (H : Hp) (t : TypeId) (m k v : AV) : Option Hp :=
  match P.underlying t with
  | some (.map kt _) => if keyFits P kt k then
      (match m with
      | .map b => match mapOf H b with
        | some (es, c) => match findA k es 0 with
          | some (some (i, _)) => some (H.upd b (.mapb (updL es i fun q => (k, v, q.2.2)) c))
          | some none => some (H.upd b (.mapb (es ++ [(k, v, c)]) (c + 1)))
          | none => none
        | none => none
      | _ => none) else none
  | _ => none

def buildSliceA (H : Hp) (t : TypeId) (len : Nat) (parts : List (Nat × AV)) : Option (AV × Hp) :=
  match P.underlying t with
  | some (.slice e) => match szT P e, zeroT P e with
    | some size, some z => if z.cells.length = size ∧ len * size ≤ 16777216 then
        (match fillA (fun i => some (i * size, size)) (repL len z.cells) parts with
        | some c => some (.sl H.next 0 len len, H.new (.cells c none))
        | none => none) else none
    | _, _ => none
  | _ => none

def makeSliceA (H : Hp) (t : TypeId) (l c : AV) : Option (AV × Hp) :=
  match P.underlying t with
  | some (.slice e) => match P.info? e, zeroT P e with
    | some i, some z => match l, c with
      | .int _ l, .int _ c => if z.cells.length = i.size ∧ 0 ≤ l ∧ l ≤ c ∧ (i.bytes : Int) * c ≤ 281474976710656 ∧ c ≤ 9223372036854775807 then
          some (.sl H.next 0 l.toNat c.toNat, H.new (.cells (repL c.toNat z.cells) none)) else none
      | _, _ => none
    | _, _ => none
  | _ => none

/-- Bytes out of cells that hold bytes. -/
def bytesB : List AV → Option (List UInt8)
  | [] => some []
  | .int .u8 n :: xs => if 0 ≤ n ∧ n < 256 then match bytesB xs with
    | some l => some (UInt8.ofNat n.toNat :: l)
    | none => none
    else none
  | _ :: _ => none
/-- A text over the cells of a row of bytes; the row is only read from then on. -/
def unsafeStrA (H : Hp) (pt : TypeId) (x y : AV) : Option (AV × Hp) :=
  match x, y with
  | .nilptr, .int .i64 n => if n = 0 then some (.str [], H) else none
  | .ptr b o, .int .i64 n => if 0 < n ∧ n ≤ 1099511627776 then
      (match P.underlying pt, growTy H b, H.t.get b with
      | some (.pointer e), some e', some (.cells l _) => if e = e' ∧ growOf H b = some 1 ∧ P.cellsOf e = 1 then
          (match takeN n.toNat (l.drop o) with
          | some xs => match bytesB xs with
            | some s => some (.str s, H.upd b (.ro l))
            | none => none
          | none => none) else none
      | _, _, _ => none)
    else none
  | _, _ => none
/-- A struct whose first field points to such a struct is marked by its type. -/
def selfG (t : TypeId) : Option Nat := match P.underlying t with
  | some (.struct fs) => match fs[0]? with
    | some fd => match P.underlying fd.type with
      | some (.pointer u) => if u = t then some (2 * t + 1) else none
      | _ => none
    | none => none
  | _ => none
def writeA (E : Operand → Option AV) (H : Hp) (op : Op) : Option (AV × Hp) :=
  match op with
  | .alloc t => match zeroT P t with
    | some z => some (.ptr H.next 0, H.new (.cells z.cells (selfG P t)))
    | none => none
  | .box _ x => match E x with
    | some a => some (.ptr H.next 0, H.new (.cells a.cells none))
    | none => none
  | .store t a x => match E a, E x with
    | some (.ptr b o), some v => match storeA P H t b o v with
      | some H' => some (.tuple [], H')
      | none => none
    | _, _ => none
  | .buildSlice t len parts => match evP E parts.toList with
    | some ps => buildSliceA P H t len ps
    | none => none
  | .makeSlice t l c => match E l, E c with
    | some a, some b => makeSliceA P H t a b
    | _, _ => none
  | .makeMap t r => match r with
    | none => some (.map H.next, H.new (.mapb [] 0))
    | some x => match P.underlying t, E x with
      | some (.map _ _), some (.int _ _) => some (.map H.next, H.new (.mapb [] 0))
      | _, _ => none
  | .mapUpdate t m k v | .insert t m k v => match E m, E k, E v with
    | some m', some k', some v' => match mapSetA P H t m' k' v' with
      | some H' => some (.tuple [], H')
      | none => none
    | _, _, _ => none
  | .convert s d x => match P.underlying s, P.underlying d, E x with
    | some _, some (.slice e), some (.str b) => match P.underlying e with
      | some (.int .u8) => if b.length ≤ 1099511627776 then
          some (.gsl H.next 0 b.length, H.new (.cells (b.map fun c => .int .u8 c.toNat) (some (2 * (1 + 4096 * e))))) else none
      | _ => none
    | _, _, _ => none
  | .call c => match c.callee with
    | .builtin b => match evL E c.args.toList with
      | some [x, y] => match b, c.argTypes.toList with
        | .append, [tS, tX] => appendA P H tS tX x y
        | .copy, tD :: _ => copyA P H tD x y
        | .unsafeString, [tP, _] => unsafeStrA P H tP x y
        | _, _ => none
      | _ => none
    | _ => none
  | _ => none

variable {P}
/-- What an operation that changes memory comes to. -/
def Wrote (P : Program) (ρ : RM) (H : Hp) (w : World) (s : Sem Next) (x : AV) (H' : Hp) : Prop :=
  ∃ ρ' w' v, (s.run P w = .ok (.value v) w' ∨ (s.run P w = .ok .skip w' ∧ v = undef)) ∧ VR ρ' x v ∧ HR ρ' H' w' ∧ Ext ρ H w ρ' H' w'
def Makes (P : Program) (ρ : RM) (H : Hp) (w : World) (s : Sem Value) (x : AV) (H' : Hp) : Prop :=
  ∃ ρ' w' v, s.run P w = .ok v w' ∧ VR ρ' x v ∧ HR ρ' H' w' ∧ Ext ρ H w ρ' H' w'
theorem Makes.wrote {ρ : RM} {H : Hp} {w : World} {s : Sem Value} {x : AV} {H' : Hp} (h : Makes P ρ H w s x H') :
    Wrote P ρ H w (do pure (.value (← s))) x H' :=
  let ⟨ρ', w', v, h1, h2, h3, h4⟩ := h
  ⟨ρ', w', v, .inl (by simp [h1]), h2, h3, h4⟩

theorem VRL.cellsAt {ρ : RM} {l : List AV} {cc : Array Value} (h : VRL ρ l cc.toList) : CellsAt ρ l cc 0 := fun i x hx => by
  obtain ⟨v, hv, hr⟩ := h.get hx
  exact ⟨v, by simpa using hv, hr⟩

/-- A new row of cells. -/
theorem selfG_ok {t : TypeId} {n L : Nat} (h : n = L) (r : Nat) : Gr (selfG P t) ⟨r, 0, 0, 0⟩ t n L := by
  unfold selfG
  repeat' split
  all_goals first | exact Gr.none _ _ _ _ | exact Gr.var h
theorem makes_rowG {ρ : RM} {H : Hp} {w : World} (hH : HR ρ H w) {e : TypeId} {l : List AV} {cc : Array Value} (hl : VRL ρ l cc.toList) {g : Option Nat} (hg : Gr g ⟨w.heap.size, 0, 0, 0⟩ e cc.size l.length) :
    ∃ ρ' w', (newRow e cc).run P w = .ok ⟨w.heap.size, 0, none⟩ w' ∧ ρ' H.next = some ⟨w.heap.size, 0, 0, 0⟩ ∧ HR ρ' (H.new (.cells l g)) w' ∧ Ext ρ H w ρ' (H.new (.cells l g)) w' := by
  obtain ⟨ρ', h1, h2, h3⟩ := hH.new (w' := w.alloc (.cells cc e)) (.cells cc e) (.cells l g) ⟨w.heap.size, 0, 0, 0⟩ rfl rfl rfl rfl rfl
    (fun ρ' hle _ => ⟨cc, e, (0, 0), heap_alloc_new w _, fun i _ hc => by simp at hc, (hl.cellsAt).mono hle, hg⟩)
  exact ⟨ρ', w.alloc (.cells cc e), by simp [newRow], h1, h2, h3⟩
theorem makes_row {ρ : RM} {H : Hp} {w : World} (hH : HR ρ H w) {e : TypeId} {l : List AV} {cc : Array Value} (hl : VRL ρ l cc.toList) :
    ∃ ρ' w', (newRow e cc).run P w = .ok ⟨w.heap.size, 0, none⟩ w' ∧ ρ' H.next = some ⟨w.heap.size, 0, 0, 0⟩ ∧ HR ρ' (H.new (.cells l none)) w' ∧ Ext ρ H w ρ' (H.new (.cells l none)) w' := by
  obtain ⟨ρ', h1, h2, h3⟩ := hH.new (w' := w.alloc (.cells cc e)) (.cells cc e) (.cells l none) ⟨w.heap.size, 0, 0, 0⟩ rfl rfl rfl rfl rfl
    (fun ρ' hle _ => ⟨cc, e, (0, 0), heap_alloc_new w _, fun i _ hc => by simp at hc, (hl.cellsAt).mono hle, Gr.none _ _ _ _⟩)
  exact ⟨ρ', w.alloc (.cells cc e), by simp [newRow], h1, h2, h3⟩

theorem repL_length {α : Type} : ∀ (n : Nat) (z : List α), (repL n z).length = n * z.length
  | 0, z => by simp [repL]
  | n + 1, z => by simp [repL, repL_length n z, Nat.add_mul]; omega
theorem repL_get {α : Type} : ∀ (n : Nat) (z : List α) (i : Nat), i < n * z.length → (repL n z)[i]? = z[i % z.length]?
  | 0, z, i, h => by simp at h
  | n + 1, z, i, h => by
    simp only [repL]
    by_cases hi : i < z.length
    · rw [List.getElem?_append_left hi, Nat.mod_eq_of_lt hi]
    · rw [List.getElem?_append_right (by omega), repL_get n z (i - z.length) (by rw [Nat.add_mul] at h; omega)]
      congr 1
      rw [Nat.mod_eq_sub_mod (a := i) (by omega)]
theorem rep_rel {ρ : RM} {zl : List AV} {z : Array Value} (h : VRL ρ zl z.toList) (n m : Nat) (hm : m = n * zl.length) :
    VRL ρ (repL n zl) ((Array.range m).map fun i => z[i % z.size]!).toList := by
  have hl : zl.length = z.size := by rw [h.length]; simp
  refine VRL.of_get (by simp [repL_length, hm]) fun i x hx => ?_
  have hi : i < n * zl.length := by
    have := (List.getElem?_eq_some_iff.1 hx).1
    rwa [repL_length] at this
  rw [repL_get n zl i hi] at hx
  obtain ⟨v, hv, hr⟩ := h.get hx
  have hpos : 0 < zl.length := by
    rcases Nat.eq_zero_or_pos zl.length with h0 | h0
    · rw [h0] at hi; omega
    · exact h0
  have hlt : i % z.size < z.size := Nat.mod_lt _ (by omega)
  refine ⟨v, ?_, hr⟩
  rw [hl] at hv
  have hv' : z[i % z.size]? = some v := by simpa using hv
  simp only [Array.toList_map, Array.toList_range, List.getElem?_map]
  rw [List.getElem?_range (by rw [hm]; exact hi)]
  simp only [Option.map_some, Option.some.injEq]
  rw [getElem!_pos z (i % z.size) hlt]
  have := (Array.getElem?_eq_some_iff.1 hv').2
  exact this

theorem storeA_sound {ρ : RM} {H H' : Hp} {w : World} (hH : HR ρ H w) {t : TypeId} {b o : Nat} {x : AV} {v : Value} {bi : BI} (hb : ρ b = some bi) (hx : VR ρ x v)
    (h : storeA P H t b o x = some H') : ∃ w', (storeVar t ⟨bi.r, bi.sh + o, none⟩ v).run P w = .ok () w' ∧ HR ρ H' w' ∧ Ext ρ H w ρ H' w' := by
  unfold storeA at h
  split at h
  · rename_i n hn
    split at h
    · rename_i hc
      split at h
      · rename_i l g hg
        split at h
        · rename_i l' hset
          simp at h; subst h
          have hcells := hx.cells
          have hlen := hcells.length
          have hone : ∀ u ∈ v.cells.toList, u.oneCell' = true := by
            intro u hu
            obtain ⟨i, hi⟩ := List.getElem?_of_mem hu
            have hlt : i < x.cells.length := by
              have := (List.getElem?_eq_some_iff.1 hi).1; omega
            obtain ⟨u', hu', hr⟩ := hcells.get (List.getElem?_eq_getElem hlt)
            rw [hi] at hu'; cases hu'
            exact hr.one (List.all_eq_true.1 hc.2 _ (List.getElem_mem hlt))
          obtain ⟨w', h1, h2, h3⟩ := hH.write (P := P) hg hb hcells hone (by intro e; rw [e] at hc; simp at hc) hset
          refine ⟨w', ?_, h2, h3⟩
          have hsz : v.cells.size = n + 1 := by rw [← hc.1, hlen]; simp
          simp [storeVar, run_sizeOf hn, hsz, h1]
        · cases h
      · cases h
    · cases h
  · cases h

theorem buildSliceA_sound {ρ : RM} {H H' : Hp} {w : World} (hH : HR ρ H w) {t : TypeId} {len : Nat} {parts : List (Nat × AV)} {vparts : Array (Nat × Value)} {x : AV}
    (hp : PartsR ρ parts vparts.toList) (h : buildSliceA P H t len parts = some (x, H')) : Makes P ρ H w (Instr.buildSlice t len vparts) x H' := by
  unfold buildSliceA at h
  split at h
  · rename_i e hu
    split at h
    · rename_i size z hs hz
      obtain ⟨i, zv, g1, g2, g3⟩ := zeroT_spec hz
      split at h
      · rename_i hc
        split at h
        · rename_i c hf
          simp at h
          obtain ⟨rfl, rfl⟩ := h
          have hzc := (g3 ρ).cells
          have hrep := rep_rel hzc len (len * size) (by rw [hc.1])
          have hvz : z.cells.length = zv.cells.size := by rw [hzc.length]; simp
          by_cases h0 : len * size = 0
          · have hrep0 : VRL ρ (repL len z.cells) (((Array.range (len * size)).map fun i => (#[] : Array Value)[i % (#[] : Array Value).size]!)).toList := by
              have e1 : repL len z.cells = [] := List.eq_nil_of_length_eq_zero (by rw [repL_length, hc.1, h0])
              rw [e1, h0]; simpa using VRL.nil
            obtain ⟨cs', f1, f2⟩ := fillA_sound hf hp hrep0
            obtain ⟨ρ', w', r1, r2, r3, r4⟩ := makes_row (P := P) (e := e) hH f2
            refine ⟨ρ', w', _, ?_, .sl r2 (Nat.le_refl _), r3, r4⟩
            simp only [Instr.buildSlice, Sem.run_bind, run_underlying hu, Result.andThen_ok, run_sizeOf hs]
            rw [if_neg (by omega), if_pos h0]
            simp only [Sem.run_pure, Result.andThen_ok, Sem.run_bind, f1, r1]
          · obtain ⟨cs', f1, f2⟩ := fillA_sound hf hp hrep
            obtain ⟨ρ', w', r1, r2, r3, r4⟩ := makes_row (P := P) (e := e) hH f2
            refine ⟨ρ', w', _, ?_, .sl r2 (Nat.le_refl _), r3, r4⟩
            simp only [Instr.buildSlice, Sem.run_bind, run_underlying hu, Result.andThen_ok, run_sizeOf hs]
            rw [if_neg (by omega), if_neg h0]
            simp only [Sem.run_pure, Result.andThen_ok, Sem.run_bind, run_zeroValue g1 g2, f1, r1]
        · cases h
      · cases h
    · cases h
  · cases h

theorem makeSliceA_sound {ρ : RM} {H H' : Hp} {w : World} (hH : HR ρ H w) {t : TypeId} {l c x : AV} {vl vc : Value} (hl : VR ρ l vl) (hc : VR ρ c vc)
    (h : makeSliceA P H t l c = some (x, H')) : Makes P ρ H w (Instr.makeSlice t vl vc) x H' := by
  unfold makeSliceA at h
  split at h
  · rename_i e hu
    split at h
    · rename_i i z hi hz
      obtain ⟨i', zv, g1, g2, g3⟩ := zeroT_spec hz
      rw [hi] at g1; cases g1
      split at h
      · rename_i kl l' kc c'
        split at h
        · rename_i hcond
          simp at h
          obtain ⟨rfl, rfl⟩ := h
          cases hl; cases hc
          have hzc := (g3 ρ).cells
          have hvz : z.cells.length = zv.cells.size := by rw [hzc.length]; simp
          have hr := run_make (P := P) w t e i zv hu hi g2 kl kc l' c' hcond.2.1 hcond.2.2.1 hcond.2.2.2.1 hcond.2.2.2.2
          have hrep := rep_rel hzc c'.toNat (c'.toNat * i.size) (by rw [hcond.1])
          obtain ⟨ρ', w', r1, r2, r3, r4⟩ := makes_row (P := P) (e := e) hH hrep
          refine ⟨ρ', w', _, ?_, .sl r2 (by omega), r3, r4⟩
          rw [hr]
          have : w' = w.alloc (.cells (madeCells zv.cells (c'.toNat * i.size)) e) := by
            have := r1
            simp [newRow] at this
            rw [← this]
            rfl
          rw [this]
        · cases h
      · cases h
    · cases h
  · cases h

/-! ### Maps -/
theorem findA_at {k : AV} : ∀ {es : List (AV × AV × Nat)} {j i : Nat} {x : AV}, findA k es j = some (some (i, x)) →
    ∃ q n, j ≤ i ∧ es[i - j]? = some (q, x, n) ∧ sameA k q = some true
  | [], _, _, _, h => by simp [findA] at h
  | (q, v, n) :: es, j, i, x, h => by
    simp only [findA] at h
    split at h
    · rename_i hs
      simp only [Option.some.injEq, Prod.mk.injEq] at h
      obtain ⟨rfl, rfl⟩ := h
      exact ⟨q, n, Nat.le_refl _, by simp, hs⟩
    · obtain ⟨q', n', h1, h2, h3⟩ := findA_at h
      refine ⟨q', n', by omega, ?_, h3⟩
      have : i - j = (i - (j + 1)) + 1 := by omega
      rw [this]; simpa using h2
    · cases h
theorem sameA_eq {k q : AV} (h : sameA k q = some true) : k = q := by
  unfold sameA at h
  split at h
  · split at h
    · rename_i hk; subst hk; simp at h; rw [h]
    · cases h
  · simp at h; rw [h]
  · simp at h; rw [h]
  · cases h
theorem plain_same {ρ : RM} {t : TypeId} {k : AV} {u v : Value} (hf : keyFits P t k = true) (hu : VR ρ k u) (hv : VR ρ k v) : u = v := by
  unfold keyFits at hf
  split at hf <;> first | (cases hf; done) | (cases hu; cases hv; rfl)
theorem sameBits_plain {ρ : RM} {t : TypeId} {k : AV} {u : Value} (hf : keyFits P t k = true) (hu : VR ρ k u) (n : Nat) : Instr.sameBits n u u = true := by
  unfold keyFits at hf
  split at hf
  · cases hu; cases n <;> simp [Instr.sameBits]
  · cases hu
    have : ∀ s : ByteArray, (s == s) = true := fun s => by rw [beq_toListBytes]; simp
    cases n <;> simp [Instr.sameBits, this]
  · cases hu; cases n <;> simp [Instr.sameBits]
  · cases hf
theorem MapR.at {ρ : RM} : ∀ {es : List (AV × AV × Nat)} {fs : List MapEntry}, MapR ρ es fs → ∀ {i : Nat} {q x : AV} {n : Nat}, es[i]? = some (q, x, n) →
    ∃ e, fs[i]? = some e ∧ VR ρ q e.key ∧ VR ρ x e.val ∧ e.born = n
  | [], [], _, _, _, _, _, h => by simp at h
  | (k, v, m) :: es, e :: fs, ⟨h1, h2, h3, h4⟩, i, q, x, n, h => by
    cases i with
    | zero =>
      simp only [List.getElem?_cons_zero, Option.some.injEq, Prod.mk.injEq] at h
      obtain ⟨rfl, rfl, rfl⟩ := h
      exact ⟨e, rfl, h1, h2, h3⟩
    | succ i => simpa using h4.at (by simpa using h)
  | [], _ :: _, h, _, _, _, _, _ => h.elim
  | _ :: _, [], h, _, _, _, _, _ => by simp [MapR] at h
theorem MapR.upd {ρ : RM} {k v : AV} {u x : Value} (hk : VR ρ k u) (hv : VR ρ v x) : ∀ {es : List (AV × AV × Nat)} {fs : List MapEntry} (i : Nat), MapR ρ es fs →
    MapR ρ (updL es i fun q => (k, v, q.2.2)) (fs.modify i fun e => { e with key := u, val := x })
  | [], [], i, _ => by cases i <;> simp [updL, MapR]
  | (q, y, m) :: es, e :: fs, i, ⟨h1, h2, h3, h4⟩ => by
    cases i with
    | zero => simpa [updL, MapR] using ⟨hk, hv, h3, h4⟩
    | succ i => simpa [updL, MapR] using ⟨h1, h2, h3, MapR.upd hk hv i h4⟩
  | [], _ :: _, _, h => h.elim
  | _ :: _, [], _, h => by simp [MapR] at h
theorem MapR.push {ρ : RM} {k v : AV} {u x : Value} {c : Nat} (hk : VR ρ k u) (hv : VR ρ v x) : ∀ {es : List (AV × AV × Nat)} {fs : List MapEntry}, MapR ρ es fs →
    MapR ρ (es ++ [(k, v, c)]) (fs ++ [{ key := u, val := x, born := c }])
  | [], [], _ => by simpa [MapR] using ⟨hk, hv⟩
  | (q, y, m) :: es, e :: fs, ⟨h1, h2, h3, h4⟩ => by simpa [MapR] using ⟨h1, h2, h3, MapR.push hk hv h4⟩
  | [], _ :: _, h => h.elim
  | _ :: _, [], h => by simp [MapR] at h
theorem run_setMap {w : World} {r : Nat} {fs : Array MapEntry} {c : Nat} (h : w.heap[r]? = some (.map fs c)) (o : Obj) :
    (setObj r o).run P w = .ok () { w with heap := w.heap.setIfInBounds r o } := by
  simp only [setObj, Sem.run, h]
theorem mapSetA_sound {ρ : RM} {H H' : Hp} {w : World} (hH : HR ρ H w) {t : TypeId} {m k v : AV} {vm vk vv : Value} (hm : VR ρ m vm) (hk : VR ρ k vk) (hv : VR ρ v vv)
    (h : mapSetA P H t m k v = some H') : ∃ w', (Instr.mapUpdate t vm vk vv).run P w = .ok () w' ∧ HR ρ H' w' ∧ Ext ρ H w ρ H' w' := by
  unfold mapSetA at h
  split at h
  · rename_i kt et hu
    split at h
    · rename_i hf
      split at h
      · rename_i b
        split at h
        · rename_i es c hes
          cases hm with
          | map hb =>
          rename_i bi
          obtain ⟨fs, g1, g2⟩ := hH.mapAt hes hb
          have hget : H.t.get b = some (.mapb es c) := by
            unfold mapOf at hes
            split at hes
            · rename_i hk; simp only [Option.some.injEq, Prod.mk.injEq] at hes; obtain ⟨rfl, rfl⟩ := hes; exact hk
            · cases hes
          have hlt := (Array.getElem?_eq_some_iff.1 g1).1
          split at h
          · rename_i i x hfind
            simp at h; subst h
            obtain ⟨r', f1, f2⟩ := run_findKey (P := P) hf hk hfind g2 w
            cases r' with
            | none => exact f2.elim
            | some p =>
            obtain ⟨j, y⟩ := p
            obtain ⟨hij, _⟩ := f2
            subst hij
            obtain ⟨q, n, _, a2, a3⟩ := findA_at hfind
            have a3' := sameA_eq a3
            subst a3'
            obtain ⟨e, b1, b2, b3, b4⟩ := g2.at (by simpa using a2)
            have hkey : e.key = vk := plain_same hf b2 hk
            have b1' : fs[i]? = some e := by simpa using b1
            refine ⟨{ w with heap := w.heap.setIfInBounds bi.r (.map (fs.modify i fun e => { e with key := vk, val := vv }) c) }, ?_,
              hH.upd (bi := bi) (w' := { w with heap := w.heap.setIfInBounds bi.r (.map (fs.modify i fun e => { e with key := vk, val := vv }) c) })
                (.map (fs.modify i fun e => { e with key := vk, val := vv }) c) hget rfl hb rfl rfl rfl rfl
                ⟨fs.modify i fun e => { e with key := vk, val := vv }, Array.getElem?_setIfInBounds_self_of_lt hlt, by simpa using g2.upd hk hv i⟩ rfl⟩
            simp only [Instr.mapUpdate, Sem.run_bind, run_underlying hu, Result.andThen_ok, run_getMap g1, checkKey_plain hf hk, f1]
            simp only [b1', Option.map_some, Option.getD_some, hkey, Instr.keyThatStays, sameBits_plain hf hk, if_true, Sem.run_pure, Result.andThen_ok, run_setMap g1]
          · rename_i hfind
            simp at h; subst h
            obtain ⟨r', f1, f2⟩ := run_findKey (P := P) hf hk hfind g2 w
            cases r' with
            | some p => exact f2.elim
            | none =>
            refine ⟨{ w with heap := w.heap.setIfInBounds bi.r (.map (fs.push { key := vk, val := vv, born := c }) (c + 1)) }, ?_,
              hH.upd (bi := bi) (w' := { w with heap := w.heap.setIfInBounds bi.r (.map (fs.push { key := vk, val := vv, born := c }) (c + 1)) })
                (.map (fs.push { key := vk, val := vv, born := c }) (c + 1)) hget rfl hb rfl rfl rfl rfl
                ⟨fs.push { key := vk, val := vv, born := c }, Array.getElem?_setIfInBounds_self_of_lt hlt, by simpa using g2.push hk hv⟩ rfl⟩
            simp only [Instr.mapUpdate, Sem.run_bind, run_underlying hu, Result.andThen_ok, run_getMap g1, checkKey_plain hf hk, f1, run_setMap g1]
          · cases h
        · cases h
      · cases h
    · cases h
  · cases h

/-! ### Bytes of a string -/
theorem bytes_rel {ρ : RM} (s : List UInt8) : VRL ρ (s.map fun c => .int .u8 c.toNat) (s.map fun c => Value.int .u8 c.toNat) := by
  induction s with
  | nil => exact .nil
  | cons c s ih => exact .cons .int ih
theorem modify_push (a : Array Obj) (x : Obj) (f : Obj → Obj) : (a.push x).modify a.size f = a.push (f x) := by
  apply Array.ext_getElem?
  intro j
  simp only [Array.getElem?_modify, Array.getElem?_push]
  by_cases e : j = a.size
  · subst e; simp
  · have : ¬ a.size = j := fun h => e h.symm
    simp [e, this]
theorem makes_bytes {ρ : RM} {H : Hp} {w : World} (hH : HR ρ H w) {e : TypeId} {s : List UInt8} (hs : s.length ≤ 1099511627776) :
    Makes P ρ H w (Conv.stringToBytes e ⟨⟨s⟩⟩) (.gsl H.next 0 s.length) (H.new (.cells (s.map fun c => .int .u8 c.toNat) (some (2 * (1 + 4096 * e))))) := by
  have hge := grownCap_ge w s.length 0 e
  generalize hcap : grownCap w s.length 0 e = cap at hge
  have hsz : (⟨⟨s⟩⟩ : ByteArray).size = s.length := rfl
  have hdata : ((⟨⟨s⟩⟩ : ByteArray).data.map fun b => Value.int .u8 b.toNat) = ⟨s.map fun b => Value.int .u8 b.toNat⟩ := by simp
  obtain ⟨cc, hcc⟩ : ∃ cc : Array Value, cc = (⟨s.map fun b => Value.int .u8 b.toNat⟩ : Array Value) ++ Array.replicate (cap - s.length) (.int .u8 0) := ⟨_, rfl⟩
  have hccs : cc.size = cap := by rw [hcc]; simp; omega
  have hw : (((w.drew.alloc (.cells cc e)).freeze ⟨w.heap.size, cc.size, none⟩ 1)).heap = w.heap.push (.cells cc e (cc.size, cc.size + 1)) := by
    unfold World.freeze
    simp only [Nat.one_ne_zero, if_false, World.alloc, World.drew]
    rw [modify_push]
    simp
  have hrun : (Conv.stringToBytes e ⟨⟨s⟩⟩).run P w = .ok (.slice (some ⟨w.heap.size, 0, none⟩) s.length cap) ((w.drew.alloc (.cells cc e)).freeze ⟨w.heap.size, cc.size, none⟩ 1) := by
    have hch : (choose (.appendCap s.length 0 e)).run P w = .ok cap w.drew := by
      rw [run_choose]
      simp only [Question.forced, Bool.false_eq_true, if_false]
      rw [← hcap]; rfl
    have hshape : (w.drew.alloc (.cells cc e)).shape? w.heap.size = some (e, cc.size) := by
      have := heap_alloc_new w.drew (.cells cc e)
      have e1 : w.drew.heap.size = w.heap.size := rfl
      rw [e1] at this
      unfold World.shape?; rw [this]
    simp only [Conv.stringToBytes, Sem.run_bind, hch, Result.andThen_ok, hdata, hsz, ← hcc, newRow, run_newObj, World.alloc_eq, Sem.run_pure, markStringish, run_shape]
    have e1 : w.drew.heap.size = w.heap.size := rfl
    rw [e1, hshape]
    simp only [run_freeze, Result.andThen_ok]
  obtain ⟨ρ', h1, h2, h3⟩ := hH.new (w' := (w.drew.alloc (.cells cc e)).freeze ⟨w.heap.size, cc.size, none⟩ 1) (.cells cc e (cc.size, cc.size + 1))
    (.cells (s.map fun c => .int .u8 c.toNat) (some (2 * (1 + 4096 * e)))) ⟨w.heap.size, 0, cap, 1⟩ rfl hw
    (by unfold World.freeze; rw [if_neg (by decide)]; rfl) (by unfold World.freeze; rw [if_neg (by decide)]; rfl) (by unfold World.freeze; rw [if_neg (by decide)]; rfl)
    (fun ρ' hle _ => ⟨cc, e, (cc.size, cc.size + 1), by rw [hw]; simp, fun i hi => by simp; omega, fun i x hx => by
      obtain ⟨v, hv, hr⟩ := (bytes_rel (ρ := ρ') s).get hx
      have hlt := (List.getElem?_eq_some_iff.1 hv).1
      refine ⟨v, ?_, hr⟩
      rw [hcc, Nat.zero_add, Array.getElem?_append_left (by simpa using hlt)]
      simpa using hv, Gr.row (by omega) ⟨rfl, by omega, by simp [hccs]⟩⟩)
  exact ⟨ρ', _, _, hrun, .gsl (bi := ⟨w.heap.size, 0, cap, 1⟩) h1 (by simp) hge, h2, h3⟩
end
end Go.Ev
