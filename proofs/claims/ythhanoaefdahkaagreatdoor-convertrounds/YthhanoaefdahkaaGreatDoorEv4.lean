/- The operations of an abstract evaluator: those that only look, in one function, and those that change memory. -/
import Derived.Test.YthhanoaefdahkaaGreatDoorEv3
import Derived.Laws.Externs
import Derived.Laws.LoneSync
import Derived.Lib.UnsafeStr
import Derived.KernelRfl
namespace Go.Ev

section
variable (P : Program)

def evL (E : Operand → Option AV) : List Operand → Option (List AV)
  | [] => some []
  | x :: xs => match E x, evL E xs with
    | some y, some ys => some (y :: ys)
    | _, _ => none
def evO (E : Operand → Option AV) : Option Operand → Option (Option AV)
  | none => some none
  | some x => match E x with
    | some y => some (some y)
    | none => none
def evP (E : Operand → Option AV) : List (Nat × Operand) → Option (List (Nat × AV))
  | [] => some []
  | (i, x) :: xs => match E x, evP E xs with
    | some y, some ys => some ((i, y) :: ys)
    | _, _ => none

def unA (op : UnOp) (x : AV) : Option AV :=
  match op, x with
  | .neg, .int k n => some (.int k (wrapF k (0 - n)))
  | .xor, .int k n => some (.int k (k.wrap (BitVec.ofInt k.bits (if k.signed then -1 else k.max) ^^^ BitVec.ofInt k.bits n).toNat))
  | .not, .bool b => some (.bool !b)
  | _, _ => none

/-- Bytes out of cells. -/
def bytesA : List AV → Option (List UInt8)
  | [] => some []
  | .int .u8 n :: xs => match bytesA xs with
    | some l => some (UInt8.ofNat n.toNat :: l)
    | none => none
  | _ :: _ => none

def convR (H : Hp) (src dst : TypeId) (x : AV) : Option AV :=
  match P.underlying src, P.underlying dst, x with
  | some _, some (.int k), .int _ n => some (.int k (wrapF k n))
  | some _, some .string, .str s => some (.str s)
  | some (.slice e), some .string, x => match P.underlying e with
    | some (.int .u8) => match x with
      | .nilsl => some (.str [])
      | .sl b o len _ | .gsl b o len => match cellsAt H b with
        | some l => match takeN len (l.drop o) with
          | some xs => match bytesA xs with
            | some s => some (.str s)
            | none => none
          | none => none
        | none => none
      | _ => none
    | _ => none
  | some (.pointer t), some .unsafePointer, x => match x with
    | .nilptr => some .nilptr
    | .ptr b o => match szT P t, cellsAt H b with
      | some (_ + 1), some l => if o < l.length then some (.ptr b o) else none
      | _, _ => none
    | _ => none
  | some .unsafePointer, some (.pointer u), x => match x with
    | .nilptr => some .nilptr
    | .ptr b o => match szT P u, varOf H b with
      | some (_ + 1), some (t, n) => if liesAt P P.depth t (n / P.cellsOf t) o u 1 = true then some (.ptr b o) else none
      | _, _ => none
    | _ => none
  | _, _, _ => none

def fillA (place : Nat → Option (Nat × Nat)) (cells : List AV) : List (Nat × AV) → Option (List AV)
  | [] => some cells
  | (i, x) :: rest => match place i with
    | none => none
    | some (off, size) => if x.cells.length = size ∧ off + size ≤ cells.length then
        (match setN cells off x.cells with
        | some c => fillA place c rest
        | none => none)
      else none

def placesA : List Field → Option (List (Nat × Nat))
  | [] => some []
  | f :: fs => match szT P f.type, placesA fs with
    | some n, some r => some ((f.offset, n) :: r)
    | _, _ => none

def buildA (t : TypeId) (parts : List (Nat × AV)) : Option AV :=
  match zeroT P t with
  | some z => match P.underlying t with
    | some (.struct fs) => match placesA P fs.toList with
      | some pl => match fillA (fun i => pl[i]?) z.cells parts with
        | some c => some (.agg c)
        | none => none
      | none => none
    | some (.array _ e) => match szT P e with
      | some size => match fillA (fun i => some (i * size, size)) z.cells parts with
        | some c => some (.agg c)
        | none => none
      | none => none
    | _ => none
  | none => none

def idxA (t : TypeId) (x i : AV) : Option AV :=
  match i with
  | .int _ n => match P.underlying t, x with
    | some (.array len e), .agg cs => if 0 ≤ n ∧ n < len then
        (match szT P e with
        | some size => partA P e cs (n.toNat * size)
        | none => none) else none
    | some .string, .str s => if 0 ≤ n then
        (match s[n.toNat]? with
        | some b => some (.int .u8 b.toNat)
        | none => none) else none
    | _, _ => none
  | _ => none

def idxAddrA (t : TypeId) (x i : AV) : Option AV :=
  match i with
  | .int _ n => match P.underlying t, x with
    | some (.array len e), .ptr b o => if 0 ≤ n ∧ n < len then
        (match szT P e with
        | some size => some (.ptr b (o + n.toNat * size))
        | none => none) else none
    | some (.slice e), .sl b o len _ => if 0 ≤ n ∧ n < len then
        (match szT P e with
        | some size => some (.ptr b (o + n.toNat * size))
        | none => none) else none
    | some (.slice e), .gsl b o len => if 0 ≤ n ∧ n < len then
        (match szT P e with
        | some size => some (.ptr b (o + n.toNat * size))
        | none => none) else none
    | _, _ => none
  | _ => none

def lenA (H : Hp) (t : TypeId) (x : AV) : Option AV :=
  match P.underlying t, x with
  | some .string, .str s => some (.int .i64 s.length)
  | some (.array n _), _ => some (.int .i64 n)
  | some (.slice _), .sl _ _ n _ => some (.int .i64 n)
  | some (.slice _), .gsl _ _ n => some (.int .i64 n)
  | some (.slice _), .nilsl => some (.int .i64 0)
  | some (.map _ _), .nilmap => some (.int .i64 0)
  | some (.map _ _), .map b => match mapOf H b with
    | some (es, _) => some (.int .i64 es.length)
    | none => none
  | _, _ => none
def capA (t : TypeId) (x : AV) : Option AV :=
  match P.underlying t, x with
  | some (.array n _), _ => some (.int .i64 n)
  | some (.slice _), .sl _ _ _ c => some (.int .i64 c)
  | some (.slice _), .nilsl => some (.int .i64 0)
  | _, _ => none
def mmA (mx : Bool) (x : AV) : List AV → Option AV
  | [] => match x with
    | .int k a => some (.int k a)
    | _ => none
  | y :: ys => match x, y with
    | .int k a, .int _ b => mmA mx (.int k (if mx then (if b > a then b else a) else (if b < a then b else a))) ys
    | _, _ => none
def builtinR (H : Hp) (b : Builtin) (ts : List TypeId) (xs : List AV) : Option AV :=
  match b, xs with
  | .len, [x] => match ts with
    | [t] => lenA P H t x
    | _ => none
  | .cap, [x] => match ts with
    | [t] => capA P t x
    | _ => none
  | .unsafeSliceData, [x] => match x with
    | .nilsl => some .nilptr
    | .sl b o _ (_ + 1) => some (.ptr b o)
    | .gsl b o (_ + 1) => some (.ptr b o)
    | _ => none
  | .max, x :: y :: ys => mmA true x (y :: ys)
  | .min, x :: y :: ys => mmA false x (y :: ys)
  | _, _ => none

def callArgs (E : Operand → Option AV) (c : Call) : Option (FuncId × List AV) :=
  match c.callee with
  | .value f => match E f with
    | some (.func g first caps) => match evL E c.args.toList with
      | some xs => some (g, first ++ xs ++ caps)
      | none => none
    | _ => none
  | _ => none
/-- The entries that only look: their answers. -/
def extR (f : FuncId) (xs : List AV) : Option AV :=
  match P.funcs[f]? with
  | some fn => if fn.body.isNone = true ∧ fn.origin = "" then
      if fn.name = "internal/bytealg.IndexByteString" then match xs with
        | [.str s, .int .u8 c] => some (.int .i64 (firstIdx ⟨⟨s⟩⟩ c.toNat.toUInt8))
        | _ => none
      else if fn.name = "internal/abi.NoEscape" then match xs with
        | [x] => some x
        | _ => none
      else none
    else none
  | none => none
/-- The operations that only look. -/
def readA (E : Operand → Option AV) (H : Hp) (op : Op) : Option AV :=
  match op with
  | .move x | .assign x => E x
  | .pick c a b => match E c with
    | some (.bool t) => if t then E a else E b
    | _ => none
  | .load t x => match E x with
    | some (.ptr b o) => loadV P H t b o
    | _ => none
  | .nilCheck x => match E x with
    | some (.ptr b o) => some (.ptr b o)
    | some (.func f a c) => some (.func f a c)
    | _ => none
  | .binOp op t x y _ => match E x, E y with
    | some a, some b => binA P op t a b
    | _, _ => none
  | .unOp op _ x => match E x with
    | some a => unA op a
    | none => none
  | .convert s d x => match E x with
    | some a => convR P H s d a
    | none => none
  | .makeFunc fn first captured => match fn with
    | .func f => match evL E first.toList, evL E captured.toList with
      | some a, some c => some (.func f a c)
      | _, _ => none
    | _ => none
  | .slice t x lo hi mx => match E x, evO E lo, evO E hi, evO E mx with
    | some a, some l, some h, some m => sliceA P H t a l h m
    | _, _, _, _ => none
  | .fieldAddr s x f => match E x with
    | some (.ptr b o) => match P.underlying s with
      | some (.struct fs) => match fs[f]? with
        | some fd => match szT P fd.type with
          | some (_ + 1) => some (.ptr b (o + fd.offset))
          | _ => none
        | none => none
      | _ => none
    | _ => none
  | .field t x f => match E x with
    | some (.agg cs) => match P.underlying t with
      | some (.struct fs) => match fs[f]? with
        | some fd => partA P fd.type cs fd.offset
        | none => none
      | _ => none
    | _ => none
  | .indexAddr t x i => match E x, E i with
    | some a, some j => idxAddrA P t a j
    | _, _ => none
  | .index t x i => match E x, E i with
    | some a, some j => idxA P t a j
    | _, _ => none
  | .lookup t x k ok => match E x, E k with
    | some a, some j => lookupA P H t a j ok
    | _, _ => none
  | .extract x i => match E x with
    | some (.tuple l) => l[i]?
    | _ => none
  | .build t parts => match evP E parts.toList with
    | some ps => buildA P t ps
    | none => none
  | .call c => match c.callee with
    | .builtin b => match evL E c.args.toList with
      | some xs => builtinR P H b c.argTypes.toList xs
      | none => none
    | _ => match callArgs E c with
      | some (f, xs) => extR P f xs
      | none => none
  | _ => none

variable {P}
def OpdR (ρ : RM) (E : Operand → Option AV) (e : Operand → Value) : Prop := ∀ x y, E x = some y → VR ρ y (e x)

theorem evL_sound {ρ : RM} {E : Operand → Option AV} {e : Operand → Value} (hE : OpdR ρ E e) : ∀ {xs : List Operand} {ys : List AV}, evL E xs = some ys → VRL ρ ys (xs.map e)
  | [], ys, h => by simp [evL] at h; subst h; exact .nil
  | x :: xs, ys, h => by
    simp only [evL] at h
    split at h
    · rename_i y ys' hy hys
      simp at h; subst h
      exact .cons (hE _ _ hy) (evL_sound hE hys)
    · cases h
theorem evO_sound {ρ : RM} {E : Operand → Option AV} {e : Operand → Value} (hE : OpdR ρ E e) {x : Option Operand} {y : Option AV} (h : evO E x = some y) : VRo ρ y (x.map e) := by
  cases x with
  | none => simp [evO] at h; subst h; trivial
  | some x =>
    simp only [evO] at h
    split at h
    · rename_i z hz; simp at h; subst h; exact hE _ _ hz
    · cases h
def PartsR (ρ : RM) : List (Nat × AV) → List (Nat × Value) → Prop
  | [], [] => True
  | (i, x) :: xs, (j, v) :: vs => i = j ∧ VR ρ x v ∧ PartsR ρ xs vs
  | _, _ => False
theorem evP_sound {ρ : RM} {E : Operand → Option AV} {e : Operand → Value} (hE : OpdR ρ E e) : ∀ {xs : List (Nat × Operand)} {ys : List (Nat × AV)}, evP E xs = some ys →
    PartsR ρ ys (xs.map fun (i, x) => (i, e x))
  | [], ys, h => by simp [evP] at h; subst h; trivial
  | (i, x) :: xs, ys, h => by
    simp only [evP] at h
    split at h
    · rename_i y ys' hy hys
      simp at h; subst h
      exact ⟨rfl, hE _ _ hy, evP_sound hE hys⟩
    · cases h

theorem run_unA {ρ : RM} {op : UnOp} {x r : AV} {v : Value} (h : unA op x = some r) (hx : VR ρ x v) (w : World) : ∃ z, (Op.unary op v).run P w = .ok z w ∧ VR ρ r z := by
  unfold unA at h
  split at h <;> first | (cases h; done) | skip
  · simp at h; subst h; cases hx
    refine ⟨_, ?_, .int⟩
    simp [Op.unary, Op.intArith, wrapF_eq]
  · simp only [Option.some.injEq] at h; subst h; cases hx
    refine ⟨_, ?_, .int⟩
    simp only [Op.unary, Op.intBits]
    rfl
  · simp at h; subst h; cases hx
    refine ⟨_, ?_, .bool⟩
    simp [Op.unary]

theorem bytesA_sound {ρ : RM} : ∀ {xs : List AV} {s : List UInt8} {vs : List Value}, bytesA xs = some s → VRL ρ xs vs →
    ∃ ns : List Int, vs = ns.map (Value.int .u8) ∧ s = ns.map fun n => UInt8.ofNat n.toNat
  | [], s, vs, h, hv => by
    simp [bytesA] at h; subst h; cases hv; exact ⟨[], rfl, rfl⟩
  | x :: xs, s, vs, h, hv => by
    cases hv with
    | cons hx ht =>
    unfold bytesA at h
    split at h
    · rename_i e; cases e
    · rename_i n xs' e
      cases e
      split at h
      · rename_i l hl
        simp at h; subst h
        cases hx
        obtain ⟨ns, h1, h2⟩ := bytesA_sound hl ht
        exact ⟨n :: ns, by simp [h1], by simp [h2]⟩
      · cases h
    · cases h
theorem push_all : ∀ (ns : List Int) (a : List UInt8), ns.foldl (fun r n => r.push (UInt8.ofNat n.toNat)) (⟨⟨a⟩⟩ : ByteArray) = ⟨⟨a ++ ns.map fun n => UInt8.ofNat n.toNat⟩⟩
  | [], a => by simp
  | n :: ns, a => by
    simp only [List.foldl_cons, List.map_cons]
    have : (⟨⟨a⟩⟩ : ByteArray).push (UInt8.ofNat n.toNat) = ⟨⟨a ++ [UInt8.ofNat n.toNat]⟩⟩ := by
      apply ByteArray.ext
      simp [ByteArray.push]
    rw [this, push_all ns]
    simp
theorem run_bytes {ρ : RM} {H : Hp} {w : World} (hH : HR ρ H w) {b o len cap : Nat} {bi : BI} (hb : ρ b = some bi) {l xs : List AV} {s : List UInt8}
    (hl : cellsAt H b = some l) (hx : takeN len (l.drop o) = some xs) (hs : bytesA xs = some s) :
    (Conv.bytesToString (.slice (some ⟨bi.r, bi.sh + o, none⟩) len cap)).run P w = .ok (.string ⟨⟨s⟩⟩) w := by
  have hk := hH.block hl hb
  obtain ⟨vs, h1, h2, h3, _⟩ := run_readN (P := P) hk hx
  obtain ⟨ns, e1, e2⟩ := bytesA_sound hs h3
  subst e1
  rw [run_bytesToString w _ len cap ns h2]
  have := push_all ns []
  simp only [List.nil_append] at this
  subst e2
  rw [← this]
  rfl
theorem run_convR {ρ : RM} {H : Hp} {w : World} (hH : HR ρ H w) {s d : TypeId} {x r : AV} {v : Value} (h : convR P H s d x = some r) (hx : VR ρ x v) :
    ∃ z, (convert s d v).run P w = .ok z w ∧ VR ρ r z := by
  unfold convR at h
  split at h
  · rename_i h1 h2
    simp at h; subst h; cases hx
    refine ⟨_, ?_, .int⟩
    simp [convert, run_underlying h1, run_underlying h2, Conv.intToInt, wrapF_eq]
  · rename_i h1 h2
    simp at h; subst h; cases hx
    refine ⟨_, ?_, .str⟩
    simp only [convert, Sem.run_bind, run_underlying h1, run_underlying h2, Result.andThen_ok]
    rfl
  · rename_i x' e h1 h2 hn1
    split at h
    · rename_i he
      split at h
      · simp only [Option.some.injEq] at h; subst h; cases hx
        refine ⟨_, ?_, .str⟩
        rw [run_convert_bytes_string w s d e _ _ _ h1 he h2]
        simp only [Conv.bytesToString]
        rfl
      · rename_i b o len cap
        split at h
        · rename_i l hl
          split at h
          · rename_i xs hxs
            split at h
            · rename_i st hst
              simp at h; subst h
              cases hx with
              | sl hb hlc =>
              exact ⟨_, by rw [run_convert_bytes_string w s d e _ _ _ h1 he h2]; exact run_bytes hH hb hl hxs hst, .str⟩
            · cases h
          · cases h
        · cases h
      · rename_i b o len
        split at h
        · rename_i l hl
          split at h
          · rename_i xs hxs
            split at h
            · rename_i st hst
              simp at h; subst h
              cases hx with
              | gsl hb hc hlc =>
                exact ⟨_, by rw [run_convert_bytes_string w s d e _ _ _ h1 he h2]; exact run_bytes hH hb hl hxs hst, .str⟩
              | gsl0 hb =>
                rename_i a
                simp [takeN] at hxs; subst hxs
                simp [bytesA] at hst; subst hst
                refine ⟨.string ⟨⟨[]⟩⟩, ?_, .str⟩
                rw [run_convert_bytes_string w s d e _ _ _ h1 he h2]
                simp [Conv.bytesToString, loadCells, loadCellsFrom]
                rfl
            · cases h
          · cases h
        · cases h
      · cases h
    · cases h
  · rename_i x' t h1 h2
    split at h
    · simp only [Option.some.injEq] at h; subst h; cases hx
      refine ⟨_, ?_, .nilptr⟩
      simp [convert, Conv.unsafePointer, run_underlying h1, run_underlying h2]
    · rename_i b o
      split at h
      · rename_i k l hsz hl
        split at h
        · rename_i ho
          simp only [Option.some.injEq] at h; subst h
          cases hx with
          | ptr hb =>
          obtain ⟨v, hv, _⟩ := hH.block hl hb o _ (List.getElem?_eq_getElem ho)
          refine ⟨_, ?_, .ptr hb⟩
          refine run_convert_to_unsafe (t := t) h1 h2 ?_ hv
          unfold szT at hsz
          split at hsz
          · rename_i i hi
            simp only [Option.some.injEq] at hsz
            rw [hi]
            simp [hsz]
          · cases hsz
        · cases h
      · cases h
    · cases h
  · rename_i x' u h1 h2
    split at h
    · simp only [Option.some.injEq] at h; subst h; cases hx
      refine ⟨_, ?_, .nilptr⟩
      simp [convert, Conv.unsafePointer, run_underlying h1, run_underlying h2]
    · rename_i b o
      split at h
      · rename_i k t n hsz hv
        split at h
        · rename_i hl
          simp only [Option.some.injEq] at h; subst h
          cases hx with
          | ptr hb =>
          rename_i bi
          obtain ⟨hsh, h0⟩ := hH.var hv hb
          refine ⟨.pointer (some ⟨bi.r, bi.sh + o, none⟩), ?_, .ptr hb⟩
          unfold szT at hsz
          split at hsz
          · rename_i i hi
            simp only [Option.some.injEq] at hsz
            have hz : i.size ≠ 0 := by omega
            simp [convert, Conv.unsafePointer, Conv.seenAt, viewAt, sizeOf, typeInfo, variablesAt, run_underlying h1, run_underlying h2, hi, hz, hsh, h0, hl, Result.andThen]
          · cases hsz
        · cases h
      · cases h
    · cases h
  · cases h

/-! ### Structs and arrays built -/
theorem foldl_put (cs : Array Value) : ∀ (vs : List Value) (j off : Nat), off + j + vs.length ≤ cs.size →
    ∀ i, ((vs.zipIdx j).foldl (fun (cs : Array Value) (p : Value × Nat) => cs.setIfInBounds (off + p.2) p.1) cs)[i]? = if off + j ≤ i ∧ i < off + j + vs.length then vs[i - (off + j)]? else cs[i]?
  | [], j, off, _, i => by rw [if_neg (by simp)]; simp
  | v :: vs, j, off, h, i => by
    simp only [List.zipIdx_cons, List.foldl_cons]
    have h' : off + (j + 1) + vs.length ≤ (cs.setIfInBounds (off + j) v).size := by simp at h ⊢; omega
    rw [foldl_put (cs.setIfInBounds (off + j) v) vs (j + 1) off h' i]
    by_cases e : i = off + j
    · subst e
      rw [if_neg (by omega), if_pos (by simp)]
      have : off + j < cs.size := by simp at h; omega
      simp [this]
    · by_cases e2 : off + (j + 1) ≤ i ∧ i < off + (j + 1) + vs.length
      · rw [if_pos e2, if_pos (by simp; omega)]
        have : i - (off + j) = (i - (off + (j + 1))) + 1 := by omega
        rw [this]; simp
      · rw [if_neg e2, if_neg (by simp; omega), Array.getElem?_setIfInBounds_ne (Ne.symm e)]
theorem foldl_put_size : ∀ (l : List (Value × Nat)) (off : Nat) (cs : Array Value), (l.foldl (fun (cs : Array Value) (p : Value × Nat) => cs.setIfInBounds (off + p.2) p.1) cs).size = cs.size
  | [], _, _ => rfl
  | p :: l, off, cs => by simp only [List.foldl_cons]; rw [foldl_put_size l off]; simp
theorem fillA_sound {ρ : RM} {place : Nat → Option (Nat × Nat)} : ∀ {parts : List (Nat × AV)} {vparts : List (Nat × Value)} {cells r : List AV} {cs : Array Value},
    fillA place cells parts = some r → PartsR ρ parts vparts → VRL ρ cells cs.toList → ∃ cs', Instr.fill place cs vparts = some cs' ∧ VRL ρ r cs'.toList
  | [], [], cells, r, cs, h, _, hc => by simp [fillA] at h; subst h; exact ⟨cs, rfl, hc⟩
  | [], _ :: _, _, _, _, _, h, _ => h.elim
  | _ :: _, [], _, _, _, _, h, _ => by simp [PartsR] at h
  | (i, x) :: parts, (j, v) :: vparts, cells, r, cs, h, ⟨hij, hx, hps⟩, hc => by
    subst hij
    simp only [fillA] at h
    split at h
    · cases h
    · rename_i off size hp
      split at h
      · rename_i hcond
        split at h
        · rename_i c hset
          have hvl := hx.cells.length
          have hcl := hc.length
          have hsz : v.cells.size = size := by rw [← hcond.1, hvl]; simp
          have hin : off + v.cells.size ≤ cs.size := by
            have : cs.size = cells.length := by rw [hcl]; simp
            omega
          obtain ⟨_, s2, s3⟩ := setN_spec hset
          have hnew : VRL ρ c (v.cells.zipIdx.foldl (fun (cs : Array Value) (p : Value × Nat) => cs.setIfInBounds (off + p.2) p.1) cs).toList := by
            rw [← Array.foldl_toList, Array.toList_zipIdx]
            have hg := foldl_put cs v.cells.toList 0 off (by simpa using hin)
            refine VRL.of_get ?_ fun i y hy => ?_
            · rw [s2, hcl, Array.length_toList, Array.length_toList, foldl_put_size]
            · rw [s3 i] at hy
              rw [Array.getElem?_toList, hg i]
              by_cases hcnd : off ≤ i ∧ i < off + x.cells.length
              · rw [if_pos hcnd] at hy
                rw [if_pos (by rw [← hvl]; omega)]
                obtain ⟨u, hu, hr⟩ := hx.cells.get hy
                exact ⟨u, by simpa using hu, hr⟩
              · rw [if_neg hcnd] at hy
                rw [if_neg (by rw [← hvl]; omega)]
                obtain ⟨u, hu, hr⟩ := hc.get hy
                exact ⟨u, by simpa using hu, hr⟩
          obtain ⟨cs', g1, g2⟩ := fillA_sound h hps hnew
          refine ⟨cs', ?_, g2⟩
          simp only [Instr.fill, hp]
          rw [if_neg (by simp [hsz]; omega)]
          exact g1
        · cases h
      · cases h
theorem placesA_sound : ∀ {fs : List Field} {pl : List (Nat × Nat)}, placesA P fs = some pl → fs.mapM (fun f => (P.info? f.type).map fun i => (f.offset, i.size)) = some pl
  | [], pl, h => by simp [placesA] at h; subst h; rfl
  | f :: fs, pl, h => by
    simp only [placesA] at h
    split at h
    · rename_i n r hn hr
      simp at h; subst h
      obtain ⟨i, hi, rfl⟩ := info_of_szT hn
      have := placesA_sound hr
      simp only [List.mapM_cons, hi, Option.map_some, this]
      rfl
    · cases h
theorem run_buildA {ρ : RM} {t : TypeId} {parts : List (Nat × AV)} {vparts : Array (Nat × Value)} {r : AV} (h : buildA P t parts = some r) (hp : PartsR ρ parts vparts.toList) (w : World) :
    ∃ z, (Instr.build t vparts).run P w = .ok z w ∧ VR ρ r z := by
  unfold buildA at h
  split at h
  · rename_i z hz
    obtain ⟨i, zv, g1, g2, g3⟩ := zeroT_spec hz
    split at h
    · rename_i fs hu
      split at h
      · rename_i pl hpl
        split at h
        · rename_i c hc
          simp at h; subst h
          obtain ⟨cs', e1, e2⟩ := fillA_sound hc hp (g3 ρ).cells
          refine ⟨.agg cs', ?_, .agg (cs := cs'.toList) e2⟩
          have hm := run_places (P := P) w fs.toList pl (placesA_sound hpl)
          have hm' : (fs.mapM fun f => do pure (f.offset, ← sizeOf f.type) : Sem (Array (Nat × Nat))).run P w = .ok pl.toArray w := by
            rw [Array.mapM_eq_mapM_toList]
            simp only [Sem.run_map]
            have e : (fs.toList.mapM fun f => (do pure (f.offset, ← sizeOf f.type) : Sem (Nat × Nat))) = fs.toList.mapM fun f => Prod.mk f.offset <$> sizeOf f.type := rfl
            rw [e, hm]; rfl
          simp only [Instr.build, Sem.run_bind, run_zeroValue g1 g2, Result.andThen_ok, run_underlying hu, hm']
          have : (fun (i : Nat) => pl.toArray[i]?) = fun (i : Nat) => pl[i]? := by funext i; simp
          rw [this, e1]
          rfl
        · cases h
      · cases h
    · rename_i n e hu
      split at h
      · rename_i size hs
        split at h
        · rename_i c hc
          simp at h; subst h
          obtain ⟨cs', e1, e2⟩ := fillA_sound hc hp (g3 ρ).cells
          refine ⟨.agg cs', ?_, .agg (cs := cs'.toList) e2⟩
          simp only [Instr.build, Sem.run_bind, run_zeroValue g1 g2, Result.andThen_ok, run_underlying hu, run_sizeOf hs, e1]
          rfl
        · cases h
      · cases h
    · cases h
  · cases h

/-! ### Elements -/
theorem run_idxA {ρ : RM} {t : TypeId} {x i r : AV} {v u : Value} (h : idxA P t x i = some r) (hx : VR ρ x v) (hi : VR ρ i u) (w : World) :
    ∃ z, (Instr.index t v u).run P w = .ok z w ∧ VR ρ r z := by
  unfold idxA at h
  split at h
  · cases hi
    rename_i k n
    split at h
    · rename_i len e cs hu
      cases hx with
      | agg hx =>
      split at h
      · rename_i hn
        split at h
        · rename_i size hs
          obtain ⟨z, z1, z2⟩ := run_partA hx h w
          exact ⟨z, by simp [Instr.index, asIntOf, run_underlying hu, hn, run_sizeOf hs, z1], z2⟩
        · cases h
      · cases h
    · rename_i s hu
      cases hx
      split at h
      · rename_i hn
        split at h
        · rename_i b hb
          simp at h; subst h
          refine ⟨_, ?_, .int⟩
          have hlt := (List.getElem?_eq_some_iff.1 hb).1
          have hsz : (⟨⟨s⟩⟩ : ByteArray).size = s.length := rfl
          rw [run_index_string w t _ k n hu]
          rw [dif_pos ⟨hn, by rw [hsz]; omega⟩]
          congr 2
          have := (List.getElem?_eq_some_iff.1 hb).2
          rw [← this]
          rfl
        · cases h
      · cases h
    · cases h
  · cases h
theorem run_idxAddrA {ρ : RM} {t : TypeId} {x i r : AV} {v u : Value} (h : idxAddrA P t x i = some r) (hx : VR ρ x v) (hi : VR ρ i u) (w : World) :
    ∃ z, (Instr.indexAt t v u).run P w = .ok z w ∧ VR ρ r z := by
  unfold idxAddrA at h
  split at h
  · cases hi
    rename_i k n
    split at h
    · rename_i len e b o hu
      cases hx with
      | ptr hb =>
      split at h
      · rename_i hn
        split at h
        · rename_i size hs
          simp at h; subst h
          refine ⟨_, ?_, .ptr hb⟩
          simp [Instr.indexAt, asIntOf, run_underlying hu, Instr.sureAddr, hn, run_sizeOf hs, addr_add, Nat.add_assoc]
        · cases h
      · cases h
    · rename_i e b o len cap hu
      cases hx with
      | sl hb hlc =>
      split at h
      · rename_i hn
        split at h
        · rename_i size hs
          simp at h; subst h
          refine ⟨_, ?_, .ptr hb⟩
          simp [Instr.indexAt, asIntOf, run_underlying hu, hn, run_sizeOf hs, addr_add, Nat.add_assoc]
        · cases h
      · cases h
    · rename_i e b o len hu
      split at h
      · rename_i hn
        split at h
        · rename_i size hs
          simp at h; subst h
          cases hx with
          | gsl hb hc hlc =>
            refine ⟨_, ?_, .ptr hb⟩
            simp [Instr.indexAt, asIntOf, run_underlying hu, hn, run_sizeOf hs, addr_add, Nat.add_assoc]
          | gsl0 hb => omega
        · cases h
      · cases h
    · cases h
  · cases h

/-! ### Built-in functions that only look -/
theorem MapR.length {ρ : RM} : ∀ {es fs}, MapR ρ es fs → es.length = fs.length
  | [], [], _ => rfl
  | (_, _, _) :: _, _ :: _, ⟨_, _, _, h⟩ => by simp [MapR.length h]
  | [], _ :: _, h => h.elim
  | _ :: _, [], h => by simp [MapR] at h
theorem run_lenA {ρ : RM} {H : Hp} {w : World} (hH : HR ρ H w) {t ty : TypeId} {x r : AV} {v : Value} (h : lenA P H t x = some r) (hx : VR ρ x v) :
    ∃ z, (Builtin.len_ #[t] ty #[v]).run P w = .ok z w ∧ VR ρ r z := by
  unfold lenA at h
  split at h
  · rename_i s hu
    simp at h; subst h; cases hx
    exact ⟨_, by rw [run_len_string w t ty _ hu]; rfl, .int⟩
  · rename_i n e x' hu
    simp at h; subst h
    exact ⟨_, by simp [Builtin.len_, run_underlying hu]; rfl, .int⟩
  · rename_i hu
    simp at h; subst h; cases hx
    exact ⟨_, by simp [Builtin.len_, run_underlying hu]; rfl, .int⟩
  · rename_i hu
    simp at h; subst h
    cases hx with
    | gsl hb hc hlc => exact ⟨_, by simp [Builtin.len_, run_underlying hu]; rfl, .int⟩
    | gsl0 hb => exact ⟨_, by simp [Builtin.len_, run_underlying hu]; rfl, .int⟩
  · rename_i hu
    simp at h; subst h; cases hx
    exact ⟨_, by simp [Builtin.len_, run_underlying hu]; rfl, .int⟩
  · rename_i hu
    simp at h; subst h; cases hx
    exact ⟨_, by simp [Builtin.len_, run_underlying hu]; rfl, .int⟩
  · rename_i b hu
    split at h
    · rename_i es c hm
      simp at h; subst h
      cases hx with
      | map hb =>
      obtain ⟨fs, g1, g2⟩ := hH.mapAt hm hb
      have := g2.length
      refine ⟨_, by simp [Builtin.len_, run_underlying hu, run_getMap g1]; rfl, ?_⟩
      rw [this]
      simp only [Array.length_toList]
      exact .int
    · cases h
  · cases h
theorem run_capA {ρ : RM} {t ty : TypeId} {x r : AV} {v : Value} (h : capA P t x = some r) (hx : VR ρ x v) (w : World) :
    ∃ z, (Builtin.cap_ #[t] ty #[v]).run P w = .ok z w ∧ VR ρ r z := by
  unfold capA at h
  split at h
  · rename_i n e x' hu
    simp at h; subst h
    exact ⟨_, by simp [Builtin.cap_, run_underlying hu]; rfl, .int⟩
  · rename_i hu
    simp at h; subst h; cases hx
    exact ⟨_, by simp [Builtin.cap_, run_underlying hu]; rfl, .int⟩
  · rename_i hu
    simp at h; subst h; cases hx
    exact ⟨_, by simp [Builtin.cap_, run_underlying hu]; rfl, .int⟩
  · cases h
theorem run_max {ρ : RM} : ∀ {ys : List AV} {x r : AV} {v : Value} {vs : List Value}, mmA true x ys = some r → VR ρ x v → VRL ρ ys vs → ∀ w,
    ∃ z, (vs.foldlM Builtin.max2 v : Sem Value).run P w = .ok z w ∧ VR ρ r z
  | [], x, r, v, vs, h, hx, hv, w => by
    cases hv
    unfold mmA at h
    split at h
    · simp at h; subst h; exact ⟨v, rfl, hx⟩
    · cases h
  | y :: ys, x, r, v, vs, h, hx, hv, w => by
    cases hv with
    | cons hy ht =>
    unfold mmA at h
    split at h
    · cases hx; cases hy
      obtain ⟨z, z1, z2⟩ := run_max h .int ht w
      refine ⟨z, ?_, z2⟩
      simp only [List.foldlM_cons, Sem.run_bind, Builtin.max2, Sem.run_pure, Result.andThen_ok]
      exact z1
    · cases h
theorem run_min {ρ : RM} : ∀ {ys : List AV} {x r : AV} {v : Value} {vs : List Value}, mmA false x ys = some r → VR ρ x v → VRL ρ ys vs → ∀ w,
    ∃ z, (vs.foldlM Builtin.min2 v : Sem Value).run P w = .ok z w ∧ VR ρ r z
  | [], x, r, v, vs, h, hx, hv, w => by
    cases hv
    unfold mmA at h
    split at h
    · simp at h; subst h; exact ⟨v, rfl, hx⟩
    · cases h
  | y :: ys, x, r, v, vs, h, hx, hv, w => by
    cases hv with
    | cons hy ht =>
    unfold mmA at h
    split at h
    · cases hx; cases hy
      obtain ⟨z, z1, z2⟩ := run_min h .int ht w
      refine ⟨z, ?_, z2⟩
      simp only [List.foldlM_cons, Sem.run_bind, Builtin.min2, Sem.run_pure, Result.andThen_ok]
      exact z1
    · cases h
theorem run_builtinR {ρ : RM} {H : Hp} {w : World} (hH : HR ρ H w) {b : Builtin} {ts : Array TypeId} {ty : TypeId} {cs : Array Bool} {xs : List AV} {vs : List Value} {r : AV}
    (h : builtinR P H b ts.toList xs = some r) (hx : VRL ρ xs vs) :
    ∃ z, (builtin b ts ty cs ⟨vs⟩).run P w = .ok (.value z) w ∧ VR ρ r z := by
  unfold builtinR at h
  split at h
  · split at h
    · rename_i t ht
      cases hx with
      | cons hx hn =>
      cases hn
      obtain ⟨z, z1, z2⟩ := run_lenA (ty := ty) hH h hx
      have : ts = #[t] := by cases ts; simp at ht; simp [ht]
      subst this
      exact ⟨z, by simp [builtin, z1], z2⟩
    · cases h
  · split at h
    · rename_i t ht
      cases hx with
      | cons hx hn =>
      cases hn
      obtain ⟨z, z1, z2⟩ := run_capA (ty := ty) h hx w
      have : ts = #[t] := by cases ts; simp at ht; simp [ht]
      subst this
      exact ⟨z, by simp [builtin, z1], z2⟩
    · cases h
  · cases hx with
    | cons hx hn =>
    cases hn
    have hbu : ∀ v, builtin .unsafeSliceData ts ty cs ⟨[v]⟩ = (do pure (.value (← Builtin.unsafeSliceData_ ts ty #[v]))) := fun _ => rfl
    split at h
    · simp only [Option.some.injEq] at h; subst h; cases hx
      exact ⟨_, by rw [hbu]; simp [Lib.run_unsafeSliceData_nil], .nilptr⟩
    · simp only [Option.some.injEq] at h; subst h; cases hx with
      | sl hb hl => exact ⟨_, by rw [hbu]; simp [Lib.run_unsafeSliceData_row], .ptr hb⟩
    · simp only [Option.some.injEq] at h; subst h; cases hx with
      | gsl hb hc hl =>
        rename_i cap bi
        exact ⟨_, by rw [hbu]; simp [Lib.run_unsafeSliceData_row (P := P) (w := w) ts ty _ _ _ (show cap ≠ 0 by omega)], .ptr hb⟩
    · cases h
  · cases hx with
    | cons hx hn =>
    obtain ⟨z, z1, z2⟩ := run_max (P := P) h hx hn w
    exact ⟨z, by simp [builtin, Builtin.max_, z1], z2⟩
  · cases hx with
    | cons hx hn =>
    obtain ⟨z, z1, z2⟩ := run_min (P := P) h hx hn w
    exact ⟨z, by simp [builtin, Builtin.min_, z1], z2⟩
  · cases h

theorem find_of {fn : Func} {n : String} {e : Array Value → Sem Value} (h : fn.name = n) (ho : fn.origin = "") (h1 : Extern.allGenericRows.lookup n = none) (h2 : Extern.allTypedRows.lookup n = none)
    (h3 : Extern.allRows.lookup n = some e) (h4 : Extern.allNextRows.lookup n = none) (h5 : Extern.allNextRows.lookup "" = none) : Extern.find fn = some e ∧ Extern.findNext fn = none := by
  constructor
  · unfold Extern.find
    simp [h, h1, h2, h3]
  · unfold Extern.findNext
    simp [h, ho, h4, h5]
theorem ext_sound {ρ : RM} {f : FuncId} {xs : List AV} {vs : List Value} {x : AV} (h : extR P f xs = some x) (hv : VRL ρ xs vs) (w : World) :
    ∃ v, (callFunc f ⟨vs⟩).run P w = .ok (.value v) w ∧ VR ρ x v := by
  have h5 : Extern.allNextRows.lookup "" = none := by kernel_rfl
  unfold extR at h
  split at h
  · rename_i fn hf
    split at h
    · rename_i hb
      split at h
      · rename_i hn
        split at h
        · rename_i s c
          simp only [Option.some.injEq] at h; subst h
          cases hv with
          | cons h1 t1 =>
          cases t1 with
          | cons h2 t2 =>
          cases t2
          cases h1; cases h2
          obtain ⟨g1, g2⟩ := find_of (e := Extern.BytealgIndexByte.indexByte) hn hb.2 (by kernel_rfl) (by kernel_rfl) (by kernel_rfl) (by kernel_rfl) h5
          refine ⟨_, ?_, .int⟩
          rw [run_callFunc_extern hf (by rw [hn]; decide) hb.1 g2 g1]
          show ((Extern.BytealgIndexByte.indexByte #[.string ⟨⟨s⟩⟩, .int .u8 c]).run P w).andThen _ = _
          rw [run_indexByte_string]
          rfl
        · cases h
      · split at h
        · rename_i _ hn
          split at h
          · simp only [Option.some.injEq] at h; subst h
            cases hv with
            | cons h1 t1 =>
            cases t1
            obtain ⟨g1, g2⟩ := find_of (e := Extern.AbiNoEscape.same) hn hb.2 (by kernel_rfl) (by kernel_rfl) (by kernel_rfl) (by kernel_rfl) h5
            refine ⟨_, ?_, h1⟩
            rw [run_callFunc_extern hf (by rw [hn]; decide) hb.1 g2 g1]
            rfl
          · cases h
        · cases h
    · cases h
  · cases h
/-! ### All of them -/
theorem readA_sound {ρ : RM} {E : Operand → Option AV} {e : Operand → Value} (hE : OpdR ρ E e) {H : Hp} {w : World} (hH : HR ρ H w) {o : Oper} {x : AV} (h : readA P E H o.op = some x) :
    ∃ v, (execOp e o).run P w = .ok (.value v) w ∧ VR ρ x v := by
  obtain ⟨dst, op, type, pos, after, guard⟩ := o
  unfold readA at h
  cases op <;> simp only [] at h <;> first | (cases h; done) | skip
  case move a => exact ⟨_, rfl, hE _ _ h⟩
  case assign a => exact ⟨_, rfl, hE _ _ h⟩
  case pick c a b =>
    split at h
    · rename_i t ht
      have hc := hE _ _ ht
      generalize hv : e c = vc at hc
      cases hc
      split at h
      · rename_i ht'
        exact ⟨_, by simp [execOp, hv, asBool, ht'], hE _ _ h⟩
      · rename_i ht'
        exact ⟨_, by simp [execOp, hv, asBool, ht'], hE _ _ h⟩
    · cases h
  case load t a =>
    split at h
    · rename_i b off ha
      have hc := hE _ _ ha
      generalize hv : e a = va at hc
      cases hc with
      | ptr hb =>
      obtain ⟨z, z1, z2⟩ := run_loadV (P := P) hH hb h
      exact ⟨z, by simp [execOp, hv, Instr.loadAt, Instr.sureAddr, z1], z2⟩
    · cases h
  case nilCheck a =>
    split at h
    · rename_i b off ha
      simp at h; subst h
      have hc := hE _ _ ha
      generalize hv : e a = va at hc
      cases hc with
      | ptr hb => exact ⟨_, by simp only [execOp, hv]; rfl, .ptr hb⟩
    · rename_i f a' c' ha
      simp at h; subst h
      have hc := hE _ _ ha
      generalize hv : e a = va at hc
      cases hc with
      | func h1 h2 => exact ⟨_, by simp only [execOp, hv]; rfl, .func h1 h2⟩
    · cases h
  case binOp op t a b t2 =>
    split at h
    · rename_i x' y' hx hy
      obtain ⟨z, z1, z2⟩ := run_binA (P := P) (ox := a) (oy := b) h (hE _ _ hx) (hE _ _ hy) w
      refine ⟨z, ?_, z2⟩
      simp only [execOp]
      rw [Sem.run_bind, z1]; rfl
    · cases h
  case unOp op t a =>
    split at h
    · rename_i x' hx
      obtain ⟨z, z1, z2⟩ := run_unA (P := P) h (hE _ _ hx) w
      exact ⟨z, by simp [execOp, z1], z2⟩
    · cases h
  case convert s d a =>
    split at h
    · rename_i x' hx
      obtain ⟨z, z1, z2⟩ := run_convR (P := P) hH h (hE _ _ hx)
      exact ⟨z, by simp [execOp, z1], z2⟩
    · cases h
  case makeFunc fn a c =>
    split at h
    · split at h
      · rename_i l1 l2 h1 h2
        simp at h; subst h
        refine ⟨_, rfl, ?_⟩
        have g1 := evL_sound hE h1
        have g2 := evL_sound hE h2
        have e1 : a.map e = ⟨a.toList.map e⟩ := by cases a; simp
        have e2 : c.map e = ⟨c.toList.map e⟩ := by cases c; simp
        rw [e1, e2]
        exact .func g1 g2
      · cases h
    · cases h
  case slice t a lo hi mx =>
    split at h
    · rename_i x' l' h' m' h1 h2 h3 h4
      obtain ⟨z, z1, z2⟩ := run_sliceA (P := P) hH h (hE _ _ h1) (evO_sound hE h2) (evO_sound hE h3) (evO_sound hE h4)
      exact ⟨z, by simp [execOp, z1], z2⟩
    · cases h
  case fieldAddr s a f =>
    split at h
    · rename_i b off ha
      have hc := hE _ _ ha
      generalize hv : e a = va at hc
      cases hc with
      | ptr hb =>
      split at h
      · rename_i fs hu
        split at h
        · rename_i fd hf
          split at h
          · rename_i n hn
            simp at h; subst h
            refine ⟨_, ?_, .ptr hb⟩
            simp [execOp, Instr.fieldAt, run_underlying hu, hf, hv, Instr.sureAddr, fieldPlace, run_sizeOf hn, addr_add, Nat.add_assoc]
          · cases h
        · cases h
      · cases h
    · cases h
  case field t a f =>
    split at h
    · rename_i cs ha
      have hc := hE _ _ ha
      generalize hv : e a = va at hc
      cases hc with
      | agg hb =>
      split at h
      · rename_i fs hu
        split at h
        · rename_i fd hf
          obtain ⟨z, z1, z2⟩ := run_partA hb h w
          exact ⟨z, by simp [execOp, Instr.field, run_underlying hu, hf, hv, asAgg, z1], z2⟩
        · cases h
      · cases h
    · cases h
  case indexAddr t a i =>
    split at h
    · rename_i x' y' hx hy
      obtain ⟨z, z1, z2⟩ := run_idxAddrA (P := P) h (hE _ _ hx) (hE _ _ hy) w
      exact ⟨z, by simp [execOp, z1], z2⟩
    · cases h
  case index t a i =>
    split at h
    · rename_i x' y' hx hy
      obtain ⟨z, z1, z2⟩ := run_idxA (P := P) h (hE _ _ hx) (hE _ _ hy) w
      exact ⟨z, by simp [execOp, z1], z2⟩
    · cases h
  case lookup t a k ok =>
    split at h
    · rename_i x' y' hx hy
      obtain ⟨z, z1, z2⟩ := run_lookupA (P := P) hH h (hE _ _ hx) (hE _ _ hy)
      exact ⟨z, by simp [execOp, z1], z2⟩
    · cases h
  case extract a i =>
    split at h
    · rename_i l ha
      have hc := hE _ _ ha
      generalize hv : e a = va at hc
      cases hc with
      | tuple hb =>
      obtain ⟨u, hu, hr⟩ := hb.get h
      exact ⟨u, by simp [execOp, Instr.extract, hv, hu], hr⟩
    · cases h
  case build t parts =>
    split at h
    · rename_i ps hps
      have hp := evP_sound hE hps
      have : PartsR ρ ps (parts.map fun (i, x) => (i, e x)).toList := by simpa using hp
      obtain ⟨z, z1, z2⟩ := run_buildA (P := P) h this w
      exact ⟨z, by simp only [execOp, Sem.run_bind, z1, Result.andThen_ok]; rfl, z2⟩
    · cases h
  case call c =>
    split at h
    · rename_i b hb
      split at h
      · rename_i xs hxs
        have hv := evL_sound hE hxs
        have e1 : c.args.map e = ⟨c.args.toList.map e⟩ := by cases c.args; simp
        obtain ⟨z, z1, z2⟩ := run_builtinR (P := P) (ty := type) (cs := c.args.map fun | .const _ => true | _ => false) hH h hv
        refine ⟨z, ?_, z2⟩
        simp only [execOp, hb, resolve, Sem.run_bind, Sem.run_pure, Result.andThen_ok, invoke, e1]
        exact z1
      · cases h
    · split at h
      · rename_i f xs hc
        unfold callArgs at hc
        split at hc
        · rename_i fo hfo
          split at hc
          · rename_i g first caps hg
            split at hc
            · rename_i ys hys
              simp only [Option.some.injEq, Prod.mk.injEq] at hc
              obtain ⟨rfl, rfl⟩ := hc
              have hv := evL_sound hE hys
              have hcv := hE _ _ hg
              generalize hvf : e fo = vf at hcv
              cases hcv with
              | func h1 h2 =>
              rename_i fs cs
              obtain ⟨v, r1, r2⟩ := ext_sound (P := P) h ((h1.append hv).append h2) w
              refine ⟨v, ?_, r2⟩
              rw [← r1]
              have e1 : c.args.map e = ⟨c.args.toList.map e⟩ := by cases c.args; simp
              simp only [execOp, hfo, resolve, hvf, Deferred.ofValue, Sem.run_bind, Sem.run_pure, Result.andThen_ok, invoke, e1]
              congr 2
              simp
            · cases hc
          · cases hc
        · cases hc
      · cases h
end
end Go.Ev
