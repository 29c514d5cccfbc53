/- The operations of an abstract evaluator that only look at memory, and that each of them does what the machine's operation does. -/
import Derived.Test.YthhanoaefdahkaaGreatDoorEv2
import Derived.Laws.Slices
import Derived.ChangeKeysEq
import Derived.Laws.Strings
import Derived.Laws.BytesString
import Derived.Laws.Wrap64
namespace Go.Ev

section
variable (P : Program)

def isAggD : TypeDesc → Bool
  | .struct _ | .array _ _ => true
  | _ => false
def aggT (t : TypeId) : Option Bool := match P.underlying t with
  | some d => some (isAggD d)
  | none => none
def szT (t : TypeId) : Option Nat := match P.info? t with
  | some i => some i.size
  | none => none

def cv1 : Value → Option AV
  | .bool b => some (.bool b)
  | .int k n => some (.int k n)
  | .string s => some (.str s.data.toList)
  | .pointer none => some .nilptr
  | .slice none 0 0 => some .nilsl
  | .map none => some .nilmap
  | .nilFunc => some .nilfunc
  | .nilIface => some .nilif
  | _ => none
def cvL : List Value → Option (List AV)
  | [] => some []
  | v :: vs => match cv1 v, cvL vs with
    | some x, some xs => some (x :: xs)
    | _, _ => none
def cv : Value → Option AV
  | .agg cs => match cvL cs.toList with
    | some l => some (.agg l)
    | none => none
  | .tuple cs => match cvL cs.toList with
    | some l => some (.tuple l)
    | none => none
  | v => cv1 v

def zeroT (t : TypeId) : Option AV := match P.info? t with
  | some i => match i.zero with
    | some z => cv z
    | none => none
  | none => none

variable {P}
theorem run_isAgg {t : TypeId} {b : Bool} (h : aggT P t = some b) (w : World) : (isAgg t).run P w = .ok b w := by
  unfold aggT at h
  split at h
  · rename_i d hd
    simp at h; subst h
    unfold isAgg
    rw [Sem.run_bind, run_underlying hd w]
    cases d <;> rfl
  · cases h
theorem info_of_szT {t : TypeId} {n : Nat} (h : szT P t = some n) : ∃ i, P.info? t = some i ∧ i.size = n := by
  unfold szT at h
  split at h
  · rename_i i hi; simp at h; exact ⟨i, hi, h⟩
  · cases h
theorem run_typeInfo {t : TypeId} {i : TypeInfo} (h : P.info? t = some i) (w : World) : (typeInfo t).run P w = .ok i w := by
  simp [typeInfo, h]
theorem run_sizeOf {t : TypeId} {n : Nat} (h : szT P t = some n) (w : World) : (sizeOf t).run P w = .ok n w := by
  obtain ⟨i, hi, rfl⟩ := info_of_szT h
  simp [sizeOf, run_typeInfo hi]

theorem cv1_sound {ρ : RM} : ∀ {v : Value} {x : AV}, cv1 v = some x → VR ρ x v := by
  intro v x h
  unfold cv1 at h
  split at h <;> first | (cases h; done) | (simp at h; subst h; constructor) 
theorem cvL_sound {ρ : RM} : ∀ {vs : List Value} {l : List AV}, cvL vs = some l → VRL ρ l vs
  | [], l, h => by simp [cvL] at h; subst h; exact .nil
  | v :: vs, l, h => by
    simp only [cvL] at h
    split at h
    · rename_i x xs hx hxs
      simp at h; subst h
      exact .cons (cv1_sound hx) (cvL_sound hxs)
    · cases h
theorem cv_sound {ρ : RM} {v : Value} {x : AV} (h : cv v = some x) : VR ρ x v := by
  unfold cv at h
  split at h
  · rename_i cs
    split at h
    · rename_i l hl
      simp at h; subst h
      exact .agg (cs := cs.toList) (cvL_sound hl)
    · cases h
  · rename_i cs
    split at h
    · rename_i l hl
      simp at h; subst h
      exact .tuple (cs := cs.toList) (cvL_sound hl)
    · cases h
  · exact cv1_sound h

theorem zeroT_spec {t : TypeId} {x : AV} (h : zeroT P t = some x) : ∃ i z, P.info? t = some i ∧ i.zero = some z ∧ ∀ ρ, VR ρ x z := by
  unfold zeroT at h
  split at h
  · rename_i i hi
    split at h
    · rename_i z hz; exact ⟨i, z, hi, hz, fun _ => cv_sound h⟩
    · cases h
  · cases h
theorem run_zeroValue {t : TypeId} {i : TypeInfo} {z : Value} (h : P.info? t = some i) (hz : i.zero = some z) (w : World) : (zeroValue t).run P w = .ok z w := by
  simp [zeroValue, run_typeInfo h, hz]

/-! ### Loads and parts -/
variable (P)
def cellsAt (H : Hp) (b : Nat) : Option (List AV) := match H.t.get b with
  | some (.cells l _) => some l
  | some (.ro l) => some l
  | _ => none
def loadV (H : Hp) (t : TypeId) (b o : Nat) : Option AV :=
  match cellsAt H b with
  | some l => match aggT P t with
    | some true => match szT P t with
      | some n => match takeN n (l.drop o) with
        | some xs => some (.agg xs)
        | none => none
      | none => none
    | some false => l[o]?
    | none => none
  | none => none
def partA (t : TypeId) (l : List AV) (o : Nat) : Option AV :=
  match aggT P t with
  | some true => match szT P t with
    | some n => match takeN n (l.drop o) with
      | some xs => some (.agg xs)
      | none => none
    | none => none
  | some false => l[o]?
  | none => none
variable {P}
theorem HR.block {ρ : RM} {H : Hp} {w : World} (h : HR ρ H w) {b : Nat} {l : List AV} (hl : cellsAt H b = some l) {bi : BI} (hb : ρ b = some bi) : Rd ρ bi w l := by
  unfold cellsAt at hl
  split at hl
  · rename_i l' g hg
    simp only [Option.some.injEq] at hl; subst hl
    obtain ⟨bj, h1, h2⟩ := h.blk b _ hg
    rw [hb] at h1; cases h1
    exact h2.rd
  · rename_i l' hg
    simp only [Option.some.injEq] at hl; subst hl
    obtain ⟨bj, h1, h2⟩ := h.blk b _ hg
    rw [hb] at h1; cases h1
    exact h2
  · cases hl
theorem run_loadV {ρ : RM} {H : Hp} {w : World} (h : HR ρ H w) {t : TypeId} {b o : Nat} {x : AV} {bi : BI} (hb : ρ b = some bi) (hx : loadV P H t b o = some x) :
    ∃ v, (loadVar t ⟨bi.r, bi.sh + o, none⟩).run P w = .ok v w ∧ VR ρ x v := by
  unfold loadV at hx
  split at hx
  · rename_i l hl
    have hk := h.block hl hb
    split at hx
    · rename_i ha
      split at hx
      · rename_i n hn
        split at hx
        · rename_i xs hxs
          simp at hx; subst hx
          obtain ⟨vs, h1, h2, h3, _⟩ := run_readN (P := P) hk hxs
          exact ⟨.agg ⟨vs⟩, by simp [loadVar, run_isAgg ha, run_sizeOf hn, h2], .agg h3⟩
        · cases hx
      · cases hx
    · rename_i ha
      obtain ⟨v, hv, hr⟩ := hk _ _ hx
      exact ⟨v, by simp [loadVar, run_isAgg ha, hv], hr⟩
    · cases hx
  · cases hx
theorem run_partA {ρ : RM} {t : TypeId} {l : List AV} {vs : List Value} (hl : VRL ρ l vs) {o : Nat} {x : AV} (hx : partA P t l o = some x) (w : World) :
    ∃ v, (part t ⟨vs⟩ o).run P w = .ok v w ∧ VR ρ x v := by
  unfold partA at hx
  split at hx
  · rename_i ha
    split at hx
    · rename_i n hn
      split at hx
      · rename_i xs hxs
        simp at hx; subst hx
        obtain ⟨e1, e2⟩ := takeN_spec hxs
        refine ⟨.agg ⟨(vs.drop o).take n⟩, ?_, .agg ?_⟩
        · simp [part, run_isAgg ha, run_sizeOf hn]
        · have := (hl.drop o).take n
          have e : (l.drop o).take n = xs := by
            apply List.ext_getElem?
            intro i
            by_cases hi : i < n
            · rw [List.getElem?_take, if_pos hi, e2 i hi]
            · rw [List.getElem?_take, if_neg hi, List.getElem?_eq_none (by omega)]
          rwa [e] at this
      · cases hx
    · cases hx
  · rename_i ha
    obtain ⟨v, hv, hr⟩ := hl.get hx
    exact ⟨v, by simp [part, run_isAgg ha, hv], hr⟩
  · cases hx

/-! ### Numbers -/
def wrapF (k : IntKind) (n : Int) : Int :=
  match k with
  | .i64 => if -9223372036854775808 ≤ n ∧ n < 9223372036854775808 then n else k.wrap n
  | .u64 => if 0 ≤ n ∧ n < 18446744073709551616 then n else k.wrap n
  | .u8 => if 0 ≤ n ∧ n < 256 then n else k.wrap n
  | .u32 => if 0 ≤ n ∧ n < 4294967296 then n else k.wrap n
  | .i32 => if -2147483648 ≤ n ∧ n < 2147483648 then n else k.wrap n
  | _ => k.wrap n
theorem wrapF_eq (k : IntKind) (n : Int) : wrapF k n = k.wrap n := by
  unfold wrapF
  split
  all_goals (try split)
  all_goals (try rfl)
  all_goals (simp only [IntKind.wrap, IntKind.bits, IntKind.signed]; simp; omega)

def binI (op : BinOp) (k : IntKind) (a b : Int) : Option AV :=
  match op with
  | .add => some (.int k (wrapF k (a + b)))
  | .sub => some (.int k (wrapF k (a - b)))
  | .mul => some (.int k (wrapF k (a * b)))
  | .quo => if b = 0 then none else some (.int k (wrapF k (a.tdiv b)))
  | .rem => if b = 0 then none else some (.int k (a.tmod b))
  | .and => some (.int k (k.wrap (BitVec.ofInt k.bits a &&& BitVec.ofInt k.bits b).toNat))
  | .or => some (.int k (k.wrap (BitVec.ofInt k.bits a ||| BitVec.ofInt k.bits b).toNat))
  | .xor => some (.int k (k.wrap (BitVec.ofInt k.bits a ^^^ BitVec.ofInt k.bits b).toNat))
  | .andNot => some (.int k (k.wrap (BitVec.ofInt k.bits a &&& ~~~BitVec.ofInt k.bits b).toNat))
  | .eql => some (.bool (a == b))
  | .neq => some (.bool (a != b))
  | .lss => some (.bool (a < b))
  | .leq => some (.bool (a ≤ b))
  | .gtr => some (.bool (a > b))
  | .geq => some (.bool (a ≥ b))
  | .shl | .shr => none
def shI (op : BinOp) (k : IntKind) (a b : Int) : Option AV :=
  if b < 0 then none else
    match op with
    | .shl => some (.int k (wrapF k (a * ((2 ^ min b.toNat k.bits : Nat) : Int))))
    | .shr => some (.int k (a.fdiv ((2 ^ min b.toNat k.bits : Nat) : Int)))
    | _ => none
def isShift : BinOp → Bool
  | .shl | .shr => true
  | _ => false
def strA (op : BinOp) (a b : List UInt8) : Option AV :=
  match op with
  | .add => if a.length + b.length ≤ 9223372036854775807 then some (.str (a ++ b)) else none
  | .eql => some (.bool (a == b))
  | .neq => some (.bool !(a == b))
  | .lss => some (.bool (Op.bytesLess a b))
  | .leq => some (.bool (Op.bytesLess a b || a == b))
  | .gtr => some (.bool !(Op.bytesLess a b || a == b))
  | .geq => some (.bool !(Op.bytesLess a b))
  | _ => none

theorem run_binI {ρ : RM} {op : BinOp} {k : IntKind} {a b : Int} {x : AV} {t : TypeId} (h : binI op k a b = some x) (w : World) :
    ∃ v, (binOp op t (.int k a) (.int k b)).run P w = .ok v w ∧ VR ρ x v := by
  cases op <;> simp only [binI] at h
  case shl => cases h
  case shr => cases h
  case quo =>
    split at h
    · cases h
    · rename_i hb
      simp only [Option.some.injEq] at h; subst h
      refine ⟨_, ?_, .int⟩
      simp [binOp, Op.intDiv, hb, wrapF_eq]
  case rem =>
    split at h
    · cases h
    · rename_i hb
      simp only [Option.some.injEq] at h; subst h
      refine ⟨_, ?_, .int⟩
      simp [binOp, Op.intDiv, hb]
  all_goals
    simp only [Option.some.injEq] at h; subst h
    first
      | (refine ⟨_, ?_, .int⟩; simp only [binOp, ne_eq, not_true_eq_false, if_false, Op.intArith, wrapF_eq]; rfl)
      | (refine ⟨_, ?_, .int⟩; simp only [binOp, ne_eq, not_true_eq_false, if_false, Op.intBits]; rfl)
      | (refine ⟨_, ?_, .bool⟩; simp only [binOp, ne_eq, not_true_eq_false, if_false, Op.intCmp]; rfl)
theorem run_shI {ρ : RM} {op : BinOp} {k k' : IntKind} {a b : Int} {x : AV} {t : TypeId} (hs : isShift op = true) (h : shI op k a b = some x) (w : World) :
    ∃ v, (binOp op t (.int k a) (.int k' b)).run P w = .ok v w ∧ VR ρ x v := by
  unfold shI at h
  split at h
  · cases h
  · rename_i hb
    have hb' : ¬ b < 0 := hb
    cases op <;> simp [isShift] at hs <;> simp only [Option.some.injEq] at h <;> subst h
    · refine ⟨_, ?_, .int⟩
      simp [binOp, Op.shift, hb', wrapF_eq, Int.natCast_pow]
    · refine ⟨_, ?_, .int⟩
      simp [binOp, Op.shift, hb', Int.natCast_pow]
theorem run_strA {ρ : RM} {op : BinOp} {a b : List UInt8} {x : AV} {t : TypeId} (h : strA op a b = some x) (w : World) :
    ∃ v, (binOp op t (.string ⟨⟨a⟩⟩) (.string ⟨⟨b⟩⟩)).run P w = .ok v w ∧ VR ρ x v := by
  have ea : (⟨⟨a⟩⟩ : ByteArray).toList = a := by rw [ByteArray.toList_eq]
  have eb : (⟨⟨b⟩⟩ : ByteArray).toList = b := by rw [ByteArray.toList_eq]
  cases op <;> simp only [strA] at h
  case add =>
    split at h
    · rename_i hl
      simp only [Option.some.injEq] at h; subst h
      refine ⟨.string ⟨⟨a ++ b⟩⟩, ?_, .str⟩
      have hs : ¬ ((((⟨⟨a⟩⟩ : ByteArray).size + (⟨⟨b⟩⟩ : ByteArray).size : Nat) : Int) > IntKind.i64.max) := by
        show ¬ (((a.length + b.length : Nat) : Int) > IntKind.i64.max)
        have : IntKind.i64.max = 9223372036854775807 := by decide
        omega
      simp only [binOp, Op.stringOp, Sem.run_ite, if_neg hs, Sem.run_pure]
      congr 2
    · cases h
  all_goals (first | (cases h; done) | skip)
  all_goals
    simp only [Option.some.injEq] at h; subst h
    refine ⟨_, ?_, .bool⟩
    simp only [binOp, Op.stringOp, ea, eb]
    rfl

/-! ### Equality -/
variable (P)
def allIs (f : Nat → Option Bool) : List Nat → Option Bool
  | [] => some true
  | i :: is => match f i with
    | some true => allIs f is
    | some false => some false
    | none => none
mutual
def eqA : Nat → TypeId → AV → AV → Option Bool
  | 0, _, _, _ => none
  | n + 1, t, x, y =>
    match P.underlying t with
    | some .bool => match x, y with
      | .bool a, .bool b => some (a == b)
      | _, _ => none
    | some (.int _) => match x, y with
      | .int k a, .int k' b => if k = k' then some (a == b) else none
      | _, _ => none
    | some .string => match x, y with
      | .str a, .str b => some (a == b)
      | _, _ => none
    | some (.pointer e) => match x, y with
      | .nilptr, .nilptr => some true
      | .nilptr, .ptr _ _ | .ptr _ _, .nilptr => some false
      | .ptr b o, .ptr b' o' => if b = b' then match szT P e with
          | some (_ + 1) => some (o == o')
          | _ => none
        else none
      | _, _ => none
    | some (.slice _) => match x, y with
      | .nilsl, .nilsl => some true
      | .nilsl, .sl _ _ _ _ | .nilsl, .gsl _ _ _ | .sl _ _ _ _, .nilsl | .gsl _ _ _, .nilsl => some false
      | _, _ => none
    | some (.map _ _) => match x, y with
      | .nilmap, .nilmap => some true
      | .nilmap, .map _ | .map _, .nilmap => some false
      | _, _ => none
    | some (.func _ _ _) => match x, y with
      | .nilfunc, .nilfunc => some true
      | .nilfunc, .func _ _ _ | .func _ _ _, .nilfunc => some false
      | _, _ => none
    | some (.struct fs) => match x, y with
      | .agg xs, .agg ys => if P.stoodInHeld t then none else eqFs n xs ys fs.toList
      | _, _ => none
    | some (.array len e) => match x, y with
      | .agg xs, .agg ys => match P.info? e with
        | some _ => allIs (fun i => match partA P e xs (i * P.cellsOf e), partA P e ys (i * P.cellsOf e) with
          | some a, some b => eqA n e a b
          | _, _ => none) (List.range len)
        | none => none
      | _, _ => none
    | _ => none
def eqFs : Nat → List AV → List AV → List Field → Option Bool
  | _, _, _, [] => some true
  | 0, _, _, _ :: _ => none
  | n + 1, xs, ys, f :: fs =>
    if f.name ≠ "_" then
      match partA P f.type xs f.offset, partA P f.type ys f.offset with
      | some a, some b => match eqA n f.type a b with
        | some true => eqFs n xs ys fs
        | some false => some false
        | none => none
      | _, _ => none
    else eqFs n xs ys fs
end

variable {P}
theorem run_eq_ptr {d : Nat} {t e : TypeId} (hu : P.underlying t = some (.pointer e)) {k : Nat} (hsz : szT P e = some (k + 1)) (bi : BI) (o o' : Nat) (w : World) :
    (Op.equalIn (d + 1) t (.pointer (some ⟨bi.r, bi.sh + o, none⟩)) (.pointer (some ⟨bi.r, bi.sh + o', none⟩))).run P w = .ok (o == o') w := by
  unfold szT at hsz
  split at hsz
  · rename_i i hi
    simp only [Option.some.injEq] at hsz
    have hz : i.size ≠ 0 := by omega
    have hb : ((⟨bi.r, bi.sh + o, none⟩ : Addr) == ⟨bi.r, bi.sh + o', none⟩) = (o == o') := by
      by_cases e : o = o'
      · subst e; simp
      · have : (⟨bi.r, bi.sh + o, none⟩ : Addr) ≠ ⟨bi.r, bi.sh + o', none⟩ := fun q => e (by injection q; omega)
        rw [beq_eq_false_iff_ne.2 this, beq_eq_false_iff_ne.2 e]
    simp [Op.equalIn, run_underlying hu, sizeOf, typeInfo, hi, hz, sameAddr, hb]
  · cases hsz
set_option maxHeartbeats 1600000 in
mutual
theorem run_eqA {ρ : RM} : ∀ (n : Nat) (t : TypeId) (x y : AV) (u v : Value) (b : Bool), eqA P n t x y = some b → VR ρ x u → VR ρ y v →
    ∀ (d : Nat), n ≤ d → ∀ w, (Op.equalIn d t u v).run P w = .ok b w
  | 0, _, _, _, _, _, _, h, _, _, _, _, _ => by simp [eqA] at h
  | n + 1, t, x, y, u, v, b, h, hx, hy, d, hd, w => by
    obtain ⟨d, rfl⟩ : ∃ d', d = d' + 1 := ⟨d - 1, by omega⟩
    simp only [eqA] at h
    split at h
    · rename_i hu
      split at h
      · simp at h; subst h; cases hx; cases hy
        simp [Op.equalIn, run_underlying hu]
      · cases h
    · rename_i k hu
      split at h
      · split at h
        · rename_i hk
          subst hk
          simp at h; subst h; cases hx; cases hy
          simp [Op.equalIn, run_underlying hu]
        · cases h
      · cases h
    · rename_i hu
      split at h
      · simp at h; subst h; cases hx; cases hy
        rename_i a c
        have ea : (⟨⟨a⟩⟩ : ByteArray).toList = a := by rw [ByteArray.toList_eq]
        have eb : (⟨⟨c⟩⟩ : ByteArray).toList = c := by rw [ByteArray.toList_eq]
        rw [run_equalIn_string w d t _ _ hu, ea, eb]
      · cases h
    · rename_i e hu
      split at h
      all_goals first | (cases h; done) | skip
      all_goals try (simp only [Option.some.injEq] at h; subst h; cases hx; cases hy; simp [Op.equalIn, run_underlying hu]; done)
      split at h
      · rename_i hb
        subst hb
        split at h
        · rename_i k hsz
          simp only [Option.some.injEq] at h; subst h
          cases hx with
          | ptr h1 =>
          cases hy with
          | ptr h2 =>
          rw [h1] at h2; cases h2
          exact run_eq_ptr hu hsz _ _ _ w
        · cases h
      · cases h
    · rename_i e hu
      split at h
      all_goals first | (cases h; done) | skip
      all_goals
        simp at h; subst h; cases hx <;> cases hy <;> simp [Op.equalIn, run_underlying hu]
    · rename_i e1 e2 hu
      split at h
      all_goals first | (cases h; done) | skip
      all_goals
        simp at h; subst h; cases hx; cases hy
        simp [Op.equalIn, run_underlying hu]
    · rename_i e1 e2 e3 hu
      split at h
      all_goals first | (cases h; done) | skip
      all_goals
        simp at h; subst h; cases hx; cases hy
        simp [Op.equalIn, run_underlying hu]
    · rename_i fs hu
      split at h
      · split at h
        · cases h
        · rename_i hs
          cases hx with
          | agg hx =>
          cases hy with
          | agg hy =>
          have hf : P.fieldsOf t = fs := by simp [Program.fieldsOf, hu]
          rw [run_equalIn_struct w d t _ _ (by rw [hf]; exact hu) (by simpa using hs), hf]
          exact run_eqFs n _ _ _ _ _ b h hx hy d (by omega) w
      · cases h
    · rename_i len e hu
      split at h
      · rename_i xs ys
        split at h
        · rename_i i hi
          cases hx with
          | agg hx =>
          cases hy with
          | agg hy =>
          rw [run_equalIn_array w d _ _ hu hi]
          generalize List.range len = is at h
          induction is with
          | nil => simp [allIs] at h; subst h; simp [Op.eqItems]
          | cons j is ih =>
            simp only [allIs] at h
            split at h
            · rename_i hj
              split at hj
              · rename_i a c ha hc
                obtain ⟨va, h1, h2⟩ := run_partA hx ha w
                obtain ⟨vc, h3, h4⟩ := run_partA hy hc w
                simp only [Op.eqItems, Sem.run_bind, h1, h3, Result.andThen_ok, run_eqA n _ _ _ _ _ true hj h2 h4 d (by omega) w, Bool.not_true, Bool.false_eq_true, if_false]
                exact ih h
              · cases hj
            · rename_i hj
              simp at h; subst h
              split at hj
              · rename_i a c ha hc
                obtain ⟨va, h1, h2⟩ := run_partA hx ha w
                obtain ⟨vc, h3, h4⟩ := run_partA hy hc w
                simp only [Op.eqItems, Sem.run_bind, h1, h3, Result.andThen_ok, run_eqA n _ _ _ _ _ false hj h2 h4 d (by omega) w, Bool.not_false, if_true, Sem.run_pure]
              · cases hj
            · cases h
        · cases h
      · cases h
    · cases h
theorem run_eqFs {ρ : RM} : ∀ (n : Nat) (xs ys : List AV) (us vs : List Value) (fs : List Field) (b : Bool), eqFs P n xs ys fs = some b → VRL ρ xs us → VRL ρ ys vs →
    ∀ (d : Nat), n ≤ d → ∀ w, (Op.eqFields d ⟨us⟩ ⟨vs⟩ fs).run P w = .ok b w
  | _, _, _, _, _, [], b, h, _, _, d, _, w => by
    simp [eqFs] at h; subst h; simp [Op.eqFields]
  | 0, _, _, _, _, _ :: _, _, h, _, _, _, _, _ => by simp [eqFs] at h
  | n + 1, xs, ys, us, vs, f :: fs, b, h, hx, hy, d, hd, w => by
    simp only [eqFs] at h
    simp only [Op.eqFields]
    split at h
    · rename_i hn
      rw [if_pos hn]
      split at h
      · rename_i a c ha hc
        obtain ⟨va, h1, h2⟩ := run_partA hx ha w
        obtain ⟨vc, h3, h4⟩ := run_partA hy hc w
        simp only [Sem.run_bind, h1, h3, Result.andThen_ok]
        split at h
        · rename_i he
          rw [run_eqA n _ _ _ _ _ true he h2 h4 d (by omega) w]
          simp only [Result.andThen_ok, Bool.not_true, Bool.false_eq_true, if_false]
          exact run_eqFs n xs ys us vs fs b h hx hy d (by omega) w
        · rename_i he
          simp at h; subst h
          rw [run_eqA n _ _ _ _ _ false he h2 h4 d (by omega) w]
          simp
        · cases h
      · cases h
    · rename_i hn
      rw [if_neg hn]
      exact run_eqFs n xs ys us vs fs b h hx hy d (by omega) w
end

/-! ### Binary operations -/
variable (P)
def isEq : BinOp → Option Bool
  | .eql => some true
  | .neq => some false
  | _ => none
def binA (op : BinOp) (t : TypeId) (x y : AV) : Option AV :=
  match x, y with
  | .int k a, .int k' b =>
    if isShift op then shI op k a b
    else if k = k' then binI op k a b else none
  | .str a, .str b => strA op a b
  | .nilif, _ => none
  | _, _ => match isEq op with
    | some pos => if P.eqGuardType P.depth t then none else match eqA P 40 t x y with
      | some b => some (.bool (b == pos))
      | none => none
    | none => none
variable {P}
theorem eqGuard_ok {op : BinOp} {t : TypeId} {x y : Operand} {u v : Value} (h : P.eqGuardType P.depth t = false) (hu : u ≠ .nilIface) (w : World) :
    (eqGuard op t x y u v).run P w = .ok () w := by
  cases op <;> first | rfl | skip
  all_goals
    unfold eqGuard
    simp only [Bool.not_true, Bool.false_eq_true, if_false]
    split
    · exact absurd rfl hu
    · simp [run_program, h]
    · rfl
theorem VR.not_iface {ρ : RM} {x v} (h : VR ρ x v) (hne : x = .nilif → False) : v ≠ .nilIface := by
  cases h <;> first | (simp; done) | (exact absurd rfl hne) | skip
  rename_i h
  intro e; subst e; simp [opaq] at h
theorem eqGuard_int {op : BinOp} {t : TypeId} {x y : Operand} {k k' : IntKind} {a b : Int} (w : World) :
    (eqGuard op t x y (.int k a) (.int k' b)).run P w = .ok () w := by
  cases op <;> rfl
theorem eqGuard_str {op : BinOp} {t : TypeId} {x y : Operand} {a b : ByteArray} (w : World) :
    (eqGuard op t x y (.string a) (.string b)).run P w = .ok () w := by
  cases op <;> rfl
theorem binOp_eq {op : BinOp} {pos : Bool} (hp : isEq op = some pos) {t : TypeId} {u v : Value} {b : Bool} {w : World}
    (hn : ∀ k a, u ≠ .int k a) (hs : ∀ a, u ≠ .string a) (hf : ∀ k a, u ≠ .float k a) (hc : ∀ k a b, u ≠ .complex k a b) (h : (Op.equal t u v).run P w = .ok b w) :
    (binOp op t u v).run P w = .ok (.bool (b == pos)) w := by
  cases op <;> simp [isEq] at hp
  all_goals subst hp
  all_goals
    unfold binOp
    split
    all_goals first
      | (exact absurd rfl (hn _ _))
      | (exact absurd rfl (hs _))
      | (exact absurd rfl (hf _ _))
      | (exact absurd rfl (hc _ _ _))
      | (simp [h]; done)
      | (simp_all; done)
theorem run_binA {ρ : RM} {op : BinOp} {t : TypeId} {x y : AV} {u v : Value} {ox oy : Operand} {r : AV} (h : binA P op t x y = some r) (hx : VR ρ x u) (hy : VR ρ y v) (w : World) :
    ∃ z, (do eqGuard op t ox oy u v; binOp op t u v : Sem Value).run P w = .ok z w ∧ VR ρ r z := by
  unfold binA at h
  split at h
  · cases hx; cases hy
    simp only [Sem.run_bind, eqGuard_int, Result.andThen_ok]
    split at h
    · rename_i hs
      exact run_shI hs h w
    · split at h
      · rename_i hk
        subst hk
        exact run_binI h w
      · cases h
  · cases hx; cases hy
    simp only [Sem.run_bind, eqGuard_str, Result.andThen_ok]
    exact run_strA h w
  · cases h
  · rename_i hnn hni hns
    split at h
    · rename_i pos hp
      split at h
      · cases h
      · rename_i hg
        split at h
        · rename_i b hb
          simp at h; subst h
          have he := run_eqA 40 t x y u v b hb hx hy 10000 (by omega) w
          simp only [Sem.run_bind, eqGuard_ok (by simpa using hg) (hx.not_iface (fun e => by first | exact hnn e | exact hni e | exact hns e)), Result.andThen_ok]
          refine ⟨_, binOp_eq hp ?_ ?_ ?_ ?_ (b := b) (by simpa [Op.equal, Op.maxDepth] using he), .bool⟩
          · intro k a e
            subst e
            cases hx
            case op h => simp [opaq] at h
            have : ∃ k' c, y = .int k' c := by
              simp only [eqA] at hb
              (repeat' split at hb) <;> first | (cases hb; done) | (simp_all; done) | exact ⟨_, _, rfl⟩
            obtain ⟨k', c, rfl⟩ := this
            exact hni _ _ _ _ rfl rfl
          · intro a e
            subst e
            cases hx
            case op h => simp [opaq] at h
            have : ∃ c, y = .str c := by
              simp only [eqA] at hb
              (repeat' split at hb) <;> first | (cases hb; done) | (simp_all; done) | exact ⟨_, rfl⟩
            obtain ⟨c, rfl⟩ := this
            exact hns _ _ rfl rfl
          · intro k a e; subst e; cases hx; rename_i h; simp [opaq] at h
          · intro k a b e; subst e; cases hx; rename_i h; simp [opaq] at h
        · cases h
    · cases h

/-! ### Slices -/
variable (P)
def natOf (y : Nat) : AV → Option Nat
  | .int _ i => if 0 ≤ i ∧ i ≤ y then some i.toNat else none
  | _ => none
def natOr (y dflt : Nat) : Option AV → Option Nat
  | none => some dflt
  | some x => natOf y x
def growOf (H : Hp) (b : Nat) : Option Nat := match H.t.get b with
  | some (.cells _ (some g)) => if g % 2 = 0 then some (g / 2 % 4096) else none
  | _ => none
def growTy (H : Hp) (b : Nat) : Option Nat := match H.t.get b with
  | some (.cells _ (some g)) => if g % 2 = 0 then some (g / 2 / 4096) else none
  | _ => none
/-- The type of a block that is one variable, and its cells. -/
def varOf (H : Hp) (b : Nat) : Option (TypeId × Nat) := match H.t.get b with
  | some (.cells l (some g)) => if g % 2 = 1 then some (g / 2, l.length) else none
  | _ => none
def sliceA (H : Hp) (t : TypeId) (x : AV) (lo hi mx : Option AV) : Option AV :=
  match P.underlying t with
  | some .string => match x, mx with
    | .str s, none => match natOr s.length s.length hi with
      | some h => match natOr h 0 lo with
        | some l => some (.str ((s.drop l).take (h - l)))
        | none => none
      | none => none
    | _, _ => none
  | some (.slice e) => match szT P e with
    | none => none
    | some size => match x with
      | .sl b o len cap => match natOr cap cap mx with
        | some m => match (if hi.isNone && mx.isSome then none else natOr m len hi) with
          | some h => match natOr h 0 lo with
            | some l => some (.sl b (if m = l then o else o + l * size) (h - l) (m - l))
            | none => none
          | none => none
        | none => none
      | .nilsl => match natOr 0 0 mx with
        | some m => match (if hi.isNone && mx.isSome then none else natOr m 0 hi) with
          | some h => match natOr h 0 lo with
            | some _ => some .nilsl
            | none => none
          | none => none
        | none => none
      | .gsl b o len => if growOf H b = some size then
          (match mx with
          | none => match natOr len len hi with
            | some h => match natOr h 0 lo with
              | some l => some (.gsl b (o + l * size) (h - l))
              | none => none
            | none => none
          | some _ => none)
        else none
      | _ => none
  | some (.array n e) => match szT P e with
    | none => none
    | some size => match x with
      | .ptr b o => match natOr n n mx with
        | some m => match (if hi.isNone && mx.isSome then none else natOr m n hi) with
          | some h => match natOr h 0 lo with
            | some l => some (.sl b (if m = l then o else o + l * size) (h - l) (m - l))
            | none => none
          | none => none
        | none => none
      | _ => none
  | _ => none
variable {P}
def VRo (ρ : RM) : Option AV → Option Value → Prop
  | none, none => True
  | some x, some v => VR ρ x v
  | _, _ => False
theorem natOf_sound {ρ : RM} {y n : Nat} {x : AV} {v : Value} (h : natOf y x = some n) (hx : VR ρ x v) (code : BoundsCode) (w : World) :
    n ≤ y ∧ (Instr.sliceBound v y code).run P w = .ok n w := by
  unfold natOf at h
  split at h
  · split at h
    · rename_i hi
      simp at h; subst h
      cases hx
      exact ⟨by omega, run_sliceBound w _ _ _ _ hi.1 hi.2⟩
    · cases h
  · cases h
/-- The bounds of a slice expression. -/
theorem bounds_sound {ρ : RM} {isSl : Bool} {len cap m h l : Nat} {lo hi mx : Option AV} {vlo vhi vmx : Option Value} (hlc : len ≤ cap)
    (h1 : natOr cap cap mx = some m) (h2 : (if hi.isNone && mx.isSome then none else natOr m len hi) = some h) (h3 : natOr h 0 lo = some l)
    (e1 : VRo ρ lo vlo) (e2 : VRo ρ hi vhi) (e3 : VRo ρ mx vmx) (w : World) :
    l ≤ h ∧ h ≤ m ∧ m ≤ cap ∧ (Instr.sliceBounds isSl len cap vlo vhi vmx).run P w = .ok (l, h, m) w := by
  cases mx with
  | none =>
    cases vmx with
    | some v => exact e3.elim
    | none =>
      simp [natOr] at h1; subst h1
      simp only [Option.isSome_none, Bool.and_false, Bool.false_eq_true, if_false] at h2
      cases hi with
      | none =>
        cases vhi with
        | some v => exact e2.elim
        | none =>
          simp [natOr] at h2; subst h2
          cases lo with
          | none =>
            cases vlo with
            | some v => exact e1.elim
            | none =>
              simp [natOr] at h3; subst h3
              exact ⟨Nat.zero_le _, hlc, Nat.le_refl _, by simp [Instr.sliceBounds]⟩
          | some xl =>
            cases vlo with
            | none => exact e1.elim
            | some vl =>
              obtain ⟨a3, b3⟩ := natOf_sound (P := P) h3 e1 .sliceB w
              exact ⟨a3, hlc, Nat.le_refl _, by simp [Instr.sliceBounds, b3]⟩
      | some xh =>
        cases vhi with
        | none => exact e2.elim
        | some vh =>
          obtain ⟨a2, b2⟩ := natOf_sound (P := P) h2 e2 (if isSl then .sliceAcap else .sliceAlen) w
          cases lo with
          | none =>
            cases vlo with
            | some v => exact e1.elim
            | none =>
              simp [natOr] at h3; subst h3
              exact ⟨Nat.zero_le _, a2, Nat.le_refl _, by simp [Instr.sliceBounds, b2]⟩
          | some xl =>
            cases vlo with
            | none => exact e1.elim
            | some vl =>
              obtain ⟨a3, b3⟩ := natOf_sound (P := P) h3 e1 .sliceB w
              exact ⟨a3, a2, Nat.le_refl _, by simp [Instr.sliceBounds, b2, b3]⟩
  | some xm =>
    cases vmx with
    | none => exact e3.elim
    | some vm =>
      obtain ⟨a1, b1⟩ := natOf_sound (P := P) h1 e3 (if isSl then .slice3Acap else .slice3Alen) w
      cases hi with
      | none => simp at h2
      | some xh =>
        cases vhi with
        | none => exact e2.elim
        | some vh =>
          simp only [Option.isNone_some, Bool.false_and, Bool.false_eq_true, if_false] at h2
          obtain ⟨a2, b2⟩ := natOf_sound (P := P) h2 e2 .slice3B w
          cases lo with
          | none =>
            cases vlo with
            | some v => exact e1.elim
            | none =>
              simp [natOr] at h3; subst h3
              exact ⟨Nat.zero_le _, a2, a1, by simp [Instr.sliceBounds, b1, b2]⟩
          | some xl =>
            cases vlo with
            | none => exact e1.elim
            | some vl =>
              obtain ⟨a3, b3⟩ := natOf_sound (P := P) h3 e1 .slice3C w
              exact ⟨a3, a2, a1, by simp [Instr.sliceBounds, b1, b2, b3]⟩
theorem natOr_mono {y y' d n : Nat} {x : Option AV} (h : natOr y d x = some n) (hy : y ≤ y') : natOr y' d x = some n := by
  cases x with
  | none => exact h
  | some x =>
    simp only [natOr, natOf] at h ⊢
    split at h
    · split at h
      · rename_i hi
        rw [if_pos (by omega)]; exact h
      · cases h
    · cases h
theorem growOf_spec {H : Hp} {b s : Nat} (hg : growOf H b = some s) : s < 4096 ∧ ∃ l e, H.t.get b = some (.cells l (some (2 * (s + 4096 * e)))) ∧ growTy H b = some e := by
  unfold growOf at hg
  split at hg
  · rename_i l g hk
    split at hg
    · rename_i h2
      simp only [Option.some.injEq] at hg
      refine ⟨by omega, l, g / 2 / 4096, by rw [hk, show 2 * (s + 4096 * (g / 2 / 4096)) = g by omega], ?_⟩
      unfold growTy
      rw [hk]
      simp only [h2, if_true]
    · cases hg
  · cases hg
theorem HR.growth {ρ : RM} {H : Hp} {w : World} (h : HR ρ H w) {b s : Nat} (hg : growOf H b = some s) {bi : BI} (hb : ρ b = some bi) : bi.es = s ∧ 0 < s := by
  obtain ⟨hs, l, e, hk, _⟩ := growOf_spec hg
  obtain ⟨bj, h1, cc, ty, fr, _, _, _, h4⟩ := h.blk b _ hk
  rw [hb] at h1; cases h1
  exact ⟨(h4.1 s e hs rfl).1, (h4.1 s e hs rfl).2.1⟩
theorem HR.var {ρ : RM} {H : Hp} {w : World} (h : HR ρ H w) {b n : Nat} {t : TypeId} (hg : varOf H b = some (t, n)) {bi : BI} (hb : ρ b = some bi) : w.shape? bi.r = some (t, n) ∧ bi.sh = 0 := by
  unfold varOf at hg
  split at hg
  · rename_i l g hk
    split at hg
    · rename_i h2
      simp only [Option.some.injEq, Prod.mk.injEq] at hg
      obtain ⟨h3, rfl⟩ := hg
      subst h3
      obtain ⟨bj, h1, cc, ty, fr, h5, _, _, h4⟩ := h.blk b _ hk
      rw [hb] at h1; cases h1
      obtain ⟨e1, e2, e3⟩ := h4.2 (g / 2) (by congr 1; omega)
      refine ⟨?_, e3⟩
      unfold World.shape?
      rw [h5]
      simp only [e1, e2]
    · cases hg
  · cases hg
theorem extract_mk (l : List UInt8) (a b : Nat) : (⟨⟨l⟩⟩ : ByteArray).extract a b = ⟨⟨(l.drop a).take (b - a)⟩⟩ := by
  apply ByteArray.ext
  rw [ByteArray.data_extract]
  simp
theorem run_sliceA {ρ : RM} {H : Hp} {w : World} (hH : HR ρ H w) {t : TypeId} {x r : AV} {v : Value} {lo hi mx : Option AV} {vlo vhi vmx : Option Value}
    (h : sliceA P H t x lo hi mx = some r) (hx : VR ρ x v) (e1 : VRo ρ lo vlo) (e2 : VRo ρ hi vhi) (e3 : VRo ρ mx vmx) :
    ∃ z, (Instr.sliceAt t v vlo vhi vmx).run P w = .ok z w ∧ VR ρ r z := by
  unfold sliceA at h
  split at h
  · -- a string
    rename_i hu
    split at h
    · rename_i s
      cases vmx with
      | some _ => exact e3.elim
      | none =>
      cases hx
      split at h
      · rename_i hh hhi
        split at h
        · rename_i l hlo
          simp at h; subst h
          have hb := bounds_sound (P := P) (isSl := false) (len := s.length) (cap := s.length) (mx := none) (vmx := none) (Nat.le_refl _) rfl
            (by simpa using hhi) hlo e1 e2 trivial w
          obtain ⟨_, _, _, hrun⟩ := hb
          refine ⟨.string ⟨⟨(s.drop l).take (hh - l)⟩⟩, ?_, .str⟩
          have hsz : (⟨⟨s⟩⟩ : ByteArray).size = s.length := rfl
          simp only [Instr.sliceAt, Sem.run_bind, run_underlying hu, Result.andThen_ok, Instr.slice, Option.isSome_none, Bool.false_eq_true, if_false, hsz, hrun, Sem.run_pure]
          congr 2
          exact extract_mk s l hh
        · cases h
      · cases h
    · cases h
  · -- a slice
    rename_i e hu
    split at h
    · cases h
    · rename_i size hsize
      split at h
      · rename_i b o len cap
        split at h
        · rename_i m hm
          split at h
          · rename_i hh hhi
            split at h
            · rename_i l hlo
              simp at h; subst h
              cases hx with
              | sl hb hlc =>
              rename_i bi
              obtain ⟨g1, g2, g3, hrun⟩ := bounds_sound (P := P) (isSl := true) hlc hm hhi hlo e1 e2 e3 w
              refine ⟨_, by simp only [Instr.sliceAt, Sem.run_bind, run_underlying hu, Result.andThen_ok, Instr.slice, hrun, run_sizeOf hsize, Sem.run_pure]; rfl, ?_⟩
              by_cases hml : m = l
              · rw [if_pos hml, if_pos hml]; exact .sl hb (by omega)
              · rw [if_neg hml, if_neg hml]
                simp only [Option.map_some, addr_add]
                rw [Nat.add_assoc]
                exact .sl hb (by omega)
            · cases h
          · cases h
        · cases h
      · split at h
        · rename_i m hm
          split at h
          · rename_i hh hhi
            split at h
            · rename_i l hlo
              simp at h; subst h
              cases hx
              obtain ⟨g1, g2, g3, hrun⟩ := bounds_sound (P := P) (isSl := true) (Nat.le_refl 0) hm hhi hlo e1 e2 e3 w
              have : m = l := by omega
              refine ⟨_, by simp only [Instr.sliceAt, Sem.run_bind, run_underlying hu, Result.andThen_ok, Instr.slice, hrun, run_sizeOf hsize, Sem.run_pure]; rfl, ?_⟩
              rw [if_pos this]
              have e1 : hh - l = 0 := by omega
              have e2 : m - l = 0 := by omega
              rw [e1, e2]; exact .nilsl
            · cases h
          · cases h
        · cases h
      · rename_i b o len
        split at h
        · rename_i hg
          split at h
          · cases vmx with
            | some _ => exact e3.elim
            | none =>
            split at h
            · rename_i hh hhi
              split at h
              · rename_i l hlo
                simp at h; subst h
                cases hx with
                | gsl hb hc hlc =>
                  rename_i cap bi
                  obtain ⟨hes, hpos⟩ := hH.growth hg hb
                  have hhi' : (if hi.isNone && (none : Option AV).isSome then none else natOr cap len hi) = some hh := by
                    simpa using natOr_mono hhi hlc
                  obtain ⟨g1, g2, g3, hrun⟩ := bounds_sound (P := P) (isSl := true) (mx := none) (vmx := none) hlc rfl hhi' hlo e1 e2 trivial w
                  have hle : hh ≤ len := by
                    cases hi with
                    | none => simp [natOr] at hhi; omega
                    | some x => 
                      simp only [natOr, natOf] at hhi
                      split at hhi
                      · split at hhi
                        · simp at hhi; omega
                        · cases hhi
                      · cases hhi
                  refine ⟨_, by simp only [Instr.sliceAt, Sem.run_bind, run_underlying hu, Result.andThen_ok, Instr.slice, hrun, run_sizeOf hsize, Sem.run_pure]; rfl, ?_⟩
                  by_cases hml : cap = l
                  · have e1 : hh - l = 0 := by omega
                    have e2 : cap - l = 0 := by omega
                    rw [if_pos hml, e1, e2]; exact .gsl0 hb
                  · rw [if_neg hml]
                    simp only [Option.map_some, addr_add]
                    rw [Nat.add_assoc]
                    refine .gsl hb ?_ (by omega)
                    rw [← hc, hes, Nat.add_assoc, ← Nat.add_mul]
                    congr 2; omega
                | gsl0 hb =>
                  rename_i bi a
                  have hhi' : (if hi.isNone && (none : Option AV).isSome then none else natOr 0 0 hi) = some hh := by simpa using hhi
                  obtain ⟨g1, g2, g3, hrun⟩ := bounds_sound (P := P) (isSl := true) (mx := none) (vmx := none) (Nat.le_refl 0) rfl hhi' hlo e1 e2 trivial w
                  have hl0 : l = 0 := by omega
                  have hh0 : hh = 0 := by omega
                  subst hl0; subst hh0
                  exact ⟨_, by simp only [Instr.sliceAt, Sem.run_bind, run_underlying hu, Result.andThen_ok, Instr.slice, hrun, run_sizeOf hsize, Sem.run_pure]; rfl, by simpa using VR.gsl0 hb⟩
              · cases h
            · cases h
          · cases h
        · cases h
      · cases h
  · -- an array behind a pointer
    rename_i n e hu
    split at h
    · cases h
    · rename_i size hsize
      split at h
      · rename_i b o
        split at h
        · rename_i m hm
          split at h
          · rename_i hh hhi
            split at h
            · rename_i l hlo
              simp at h; subst h
              cases hx with
              | ptr hb =>
              rename_i bi
              obtain ⟨g1, g2, g3, hrun⟩ := bounds_sound (P := P) (isSl := false) (Nat.le_refl n) hm hhi hlo e1 e2 e3 w
              refine ⟨_, by simp only [Instr.sliceAt, Sem.run_bind, run_underlying hu, Result.andThen_ok, Instr.sureAddr, hrun, run_sizeOf hsize, Sem.run_pure]; rfl, ?_⟩
              by_cases hml : m = l
              · rw [if_pos hml, if_pos hml]; exact .sl hb (by omega)
              · rw [if_neg hml, if_neg hml]
                simp only [addr_add]
                rw [Nat.add_assoc]
                exact .sl hb (by omega)
            · cases h
          · cases h
        · cases h
      · cases h
  · cases h

/-! ### Maps -/
variable (P)
def plainKey (t : TypeId) : Bool := match P.underlying t with
  | some (.int _) | some .string | some .bool => true
  | _ => false
def sameA : AV → AV → Option Bool
  | .int k a, .int k' b => if k = k' then some (a == b) else none
  | .str a, .str b => some (a == b)
  | .bool a, .bool b => some (a == b)
  | _, _ => none
def findA (k : AV) : List (AV × AV × Nat) → Nat → Option (Option (Nat × AV))
  | [], _ => some none
  | (q, v, _) :: es, i => match sameA k q with
    | some true => some (some (i, v))
    | some false => findA k es (i + 1)
    | none => none
def mapOf (H : Hp) (b : Nat) : Option (List (AV × AV × Nat) × Nat) := match H.t.get b with
  | some (.mapb es c) => some (es, c)
  | _ => none
/-- The kind of a plain key, and whether a value is one. -/
def keyFits (t : TypeId) (k : AV) : Bool := match P.underlying t, k with
  | some (.int _), .int _ _ => true
  | some .string, .str _ => true
  | some .bool, .bool _ => true
  | _, _ => false
def lookupA (H : Hp) (t : TypeId) (x k : AV) (ok : Bool) : Option AV :=
  match P.underlying t with
  | some (.map kt et) => if keyFits P kt k then
      (match (match x with
        | .nilmap => some none
        | .map b => match mapOf H b with
          | some (es, _) => findA k es 0
          | none => none
        | _ => none) with
      | some (some (_, v)) => some (if ok then .tuple [v, .bool true] else v)
      | some none => match zeroT P et with
        | some z => some (if ok then .tuple [z, .bool false] else z)
        | none => none
      | none => none)
    else none
  | _ => none
variable {P}
theorem checkKey_plain' {t : TypeId} {k : AV} {v : Value} {ρ : RM} (h : keyFits P t k = true) (hk : VR ρ k v) (e : Bool) (n : Nat) (w : World) :
    (Instr.checkKey e (n + 1) t v).run P w = .ok () w := by
  unfold keyFits at h
  split at h
  · rename_i hu; cases hk; simp only [Instr.checkKey, Sem.run_bind, run_underlying hu, Result.andThen_ok]; rfl
  · rename_i hu; cases hk; simp only [Instr.checkKey, Sem.run_bind, run_underlying hu, Result.andThen_ok]; rfl
  · rename_i hu; cases hk; simp only [Instr.checkKey, Sem.run_bind, run_underlying hu, Result.andThen_ok]; rfl
  · cases h
theorem checkKey_plain {t : TypeId} {k : AV} {v : Value} {ρ : RM} (h : keyFits P t k = true) (hk : VR ρ k v) (e : Bool) (w : World) :
    (Instr.checkKey e 10000 t v).run P w = .ok () w := checkKey_plain' h hk e 9999 w
theorem sameA_sound {ρ : RM} {t : TypeId} {k q : AV} {u v : Value} {r : Bool} (hf : keyFits P t k = true) (h : sameA k q = some r) (hk : VR ρ k u) (hq : VR ρ q v) :
    ∃ d, P.underlying t = some d ∧ Instr.sameNow d u v = some r := by
  unfold keyFits at hf
  split at hf
  · rename_i hu
    refine ⟨_, hu, ?_⟩
    cases q <;> simp only [sameA] at h <;> first | (cases h; done) | skip
    split at h
    · rename_i hkk; subst hkk
      simp only [Option.some.injEq] at h; subst h
      cases hk; cases hq
      simp [Instr.sameNow]
    · cases h
  · rename_i hu
    refine ⟨_, hu, ?_⟩
    cases q <;> simp only [sameA] at h <;> first | (cases h; done) | skip
    simp only [Option.some.injEq] at h; subst h
    cases hk; cases hq
    simp only [Instr.sameNow, Option.some.injEq]
    rw [beq_toListBytes, ByteArray.toList_eq, ByteArray.toList_eq]
  · rename_i hu
    refine ⟨_, hu, ?_⟩
    cases q <;> simp only [sameA] at h <;> first | (cases h; done) | skip
    simp only [Option.some.injEq] at h; subst h
    cases hk; cases hq
    simp [Instr.sameNow]
  · cases hf
def FindR (ρ : RM) : Option (Nat × AV) → Option (Nat × Value) → Prop
  | none, none => True
  | some (i, x), some (j, v) => i = j ∧ VR ρ x v
  | _, _ => False
theorem findA_sound {ρ : RM} {t : TypeId} {k : AV} {u : Value} {d : TypeDesc} (hd : P.underlying t = some d) (hf : keyFits P t k = true) (hk : VR ρ k u) :
    ∀ {es : List (AV × AV × Nat)} {fs : List MapEntry} {i : Nat} {r : Option (Nat × AV)}, findA k es i = some r → MapR ρ es fs →
      ∃ r', Instr.findNow d u fs i = some r' ∧ FindR ρ r r'
  | [], [], i, r, h, _ => by simp [findA] at h; subst h; exact ⟨none, rfl, trivial⟩
  | [], _ :: _, _, _, _, h => h.elim
  | _ :: _, [], _, _, _, h => by simp [MapR] at h
  | (q, v, n) :: es, e :: fs, i, r, h, ⟨h1, h2, h3, h4⟩ => by
    simp only [findA] at h
    split at h
    · rename_i hs
      simp at h; subst h
      obtain ⟨d', e1, e2⟩ := sameA_sound hf hs hk h1
      rw [hd] at e1; cases e1
      exact ⟨some (i, e.val), by simp [Instr.findNow, e2], rfl, h2⟩
    · rename_i hs
      obtain ⟨d', e1, e2⟩ := sameA_sound hf hs hk h1
      rw [hd] at e1; cases e1
      obtain ⟨r', g1, g2⟩ := findA_sound hd hf hk h h4
      exact ⟨r', by simp [Instr.findNow, e2, g1], g2⟩
    · cases h
theorem run_findKey {ρ : RM} {t : TypeId} {k : AV} {u : Value} (hf : keyFits P t k = true) (hk : VR ρ k u)
    {es : List (AV × AV × Nat)} {fs : List MapEntry} {r : Option (Nat × AV)} (h : findA k es 0 = some r) (hm : MapR ρ es fs) (w : World) :
    ∃ r', (Instr.findKey t u fs).run P w = .ok r' w ∧ FindR ρ r r' := by
  have hd : ∃ d, P.underlying t = some d := by
    unfold keyFits at hf
    split at hf <;> first | exact ⟨_, ‹_›⟩ | cases hf
  obtain ⟨d, hd⟩ := hd
  obtain ⟨r', h1, h2⟩ := findA_sound hd hf hk h hm
  exact ⟨r', by simp [Instr.findKey, run_underlying hd, h1], h2⟩
theorem HR.mapAt {ρ : RM} {H : Hp} {w : World} (h : HR ρ H w) {b : Nat} {es : List (AV × AV × Nat)} {c : Nat} (hm : mapOf H b = some (es, c)) {bi : BI} (hb : ρ b = some bi) :
    ∃ fs, w.heap[bi.r]? = some (.map fs c) ∧ MapR ρ es fs.toList := by
  unfold mapOf at hm
  split at hm
  · rename_i es' c' hk
    simp at hm
    obtain ⟨rfl, rfl⟩ := hm
    obtain ⟨bj, h1, h2⟩ := h.blk b _ hk
    rw [hb] at h1; cases h1
    exact h2
  · cases hm
theorem run_getMap {w : World} {r : Nat} {fs : Array MapEntry} {c : Nat} (h : w.heap[r]? = some (.map fs c)) : (getObj r).run P w = .ok (.map fs c) w := by
  simp only [getObj, Sem.run, h]
theorem run_lookupA {ρ : RM} {H : Hp} {w : World} (hH : HR ρ H w) {t : TypeId} {x k r : AV} {v u : Value} {ok : Bool} (h : lookupA P H t x k ok = some r) (hx : VR ρ x v) (hk : VR ρ k u) :
    ∃ z, (Instr.lookup t v u ok).run P w = .ok z w ∧ VR ρ r z := by
  unfold lookupA at h
  split at h
  · rename_i kt et hu
    split at h
    · rename_i hf
      have main : ∀ (fs : Array MapEntry) (es : List (AV × AV × Nat)) (q : Option (Nat × AV)), MapR ρ es fs.toList → findA k es 0 = some q →
          (match (some q : Option (Option (Nat × AV))) with
            | some (some (_, v)) => some (if ok then .tuple [v, .bool true] else v)
            | some none => match zeroT P et with
              | some z => some (if ok then .tuple [z, .bool false] else z)
              | none => none
            | none => none) = some r →
          ∃ z, (do
            Instr.checkKey fs.isEmpty 10000 kt u
            let (v, ok') ← match ← Instr.findKey kt u fs.toList with
              | some (_, v) => pure (v, true)
              | none => pure (← zeroValue et, false)
            pure (if ok then .tuple #[v, .bool ok'] else v) : Sem Value).run P w = .ok z w ∧ VR ρ r z := by
        intro fs es q hm hq hr
        obtain ⟨q', h1, h2⟩ := run_findKey (P := P) hf hk hq hm w
        simp only [Sem.run_bind, checkKey_plain hf hk, Result.andThen_ok, h1]
        cases q with
        | none =>
          cases q' with
          | some y => exact h2.elim
          | none =>
            simp only [] at hr
            split at hr
            · rename_i z hz
              obtain ⟨i, zv, g1, g2, g3⟩ := zeroT_spec hz
              simp at hr; subst hr
              refine ⟨_, by simp [run_zeroValue g1 g2]; rfl, ?_⟩
              cases ok
              · exact g3 ρ
              · exact .tuple (.cons (g3 ρ) (.cons .bool .nil))
            · cases hr
        | some y =>
          obtain ⟨i, y⟩ := y
          cases q' with
          | none => exact h2.elim
          | some y' =>
            obtain ⟨j, y'⟩ := y'
            simp at hr; subst hr
            refine ⟨_, by simp; rfl, ?_⟩
            cases ok
            · exact h2.2
            · exact .tuple (.cons h2.2 (.cons .bool .nil))
      split at h
      all_goals first | (cases h; done) | skip
      · -- found
        rename_i q i y hq
        cases x with
        | nilmap => simp at hq
        | map b =>
          cases hx with
          | map hb =>
          rename_i bi
          simp only [] at hq
          split at hq
          · rename_i es c hes
            obtain ⟨fs, g1, g2⟩ := hH.mapAt hes hb
            obtain ⟨z, z1, z2⟩ := main fs es _ g2 hq (by simpa using h)
            refine ⟨z, ?_, z2⟩
            simp only [Instr.lookup, Sem.run_bind, run_underlying hu, Result.andThen_ok, run_getMap g1, Sem.run_pure]
            simp only [Sem.run_bind] at z1
            exact z1
          · cases hq
        | _ => simp at hq
      · rename_i q hq
        cases x with
        | nilmap =>
          cases hx
          obtain ⟨z, z1, z2⟩ := main #[] [] none (by simp [MapR]) rfl (by simpa using h)
          refine ⟨z, ?_, z2⟩
          simp only [Instr.lookup, Sem.run_bind, run_underlying hu, Result.andThen_ok, Sem.run_pure]
          simp only [Sem.run_bind] at z1
          exact z1
        | map b =>
          cases hx with
          | map hb =>
          rename_i bi
          simp only [] at hq
          split at hq
          · rename_i es c hes
            obtain ⟨fs, g1, g2⟩ := hH.mapAt hes hb
            obtain ⟨z, z1, z2⟩ := main fs es _ g2 hq (by simpa using h)
            refine ⟨z, ?_, z2⟩
            simp only [Instr.lookup, Sem.run_bind, run_underlying hu, Result.andThen_ok, run_getMap g1, Sem.run_pure]
            simp only [Sem.run_bind] at z1
            exact z1
          · cases hq
        | _ => simp at hq
    · cases h
  · cases h
end
end Go.Ev
