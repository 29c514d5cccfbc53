/- The data of an abstract evaluator for Go calls: finite maps, values, blocks of memory, and the relation between abstract and real memory. -/
import Derived.Orders
import Derived.Scope
import Derived.LoopN
import Derived.Below
namespace Go.Ev

/-! ### Finite maps over Nat -/
inductive Tr (α : Type) where
  | nil
  | node (l : Tr α) (v : Option α) (r : Tr α)

namespace Tr
variable {α : Type}
def get : Tr α → Nat → Option α
  | .nil, _ => none
  | .node l v r, n => cond (Nat.beq n 0) v (cond (Nat.beq (n % 2) 1) (l.get (n / 2)) (r.get (n / 2 - 1)))
def lt : Tr α → Tr α
  | .nil => .nil
  | .node l _ _ => l
def rt : Tr α → Tr α
  | .nil => .nil
  | .node _ _ r => r
def val : Tr α → Option α
  | .nil => none
  | .node _ v _ => v
def set : Nat → Tr α → Nat → Option α → Tr α
  | 0, t, _, _ => t
  | f + 1, t, n, x =>
    cond (Nat.beq n 0) (.node t.lt x t.rt)
      (cond (Nat.beq (n % 2) 1) (.node (set f t.lt (n / 2) x) t.val t.rt) (.node t.lt t.val (set f t.rt (n / 2 - 1) x)))
def put (t : Tr α) (n : Nat) (x : Option α) : Tr α := set (n + 1) t n x

theorem get_eq (t : Tr α) (n : Nat) :
    t.get n = if n = 0 then t.val else if n % 2 = 1 then t.lt.get (n / 2) else t.rt.get (n / 2 - 1) := by
  cases t with
  | nil => simp [get, lt, rt, val]
  | node l v r =>
    simp only [get, lt, rt, val]
    by_cases h : n = 0
    · simp [h]
    · have h0 : Nat.beq n 0 = false := by
        cases hb : Nat.beq n 0
        · rfl
        · exact absurd (Nat.eq_of_beq_eq_true hb) h
      rw [h0, if_neg h]
      by_cases h1 : n % 2 = 1
      · have h2 : Nat.beq (n % 2) 1 = true := by rw [Nat.beq_eq]; exact h1
        rw [h2, if_pos h1]; rfl
      · have h2 : Nat.beq (n % 2) 1 = false := by
          cases hb : Nat.beq (n % 2) 1
          · rfl
          · exact absurd (Nat.eq_of_beq_eq_true hb) h1
        rw [h2, if_neg h1]; rfl

theorem set_eq (f : Nat) (t : Tr α) (n : Nat) (x : Option α) :
    set (f + 1) t n x = if n = 0 then .node t.lt x t.rt else
      if n % 2 = 1 then .node (set f t.lt (n / 2) x) t.val t.rt else .node t.lt t.val (set f t.rt (n / 2 - 1) x) := by
  simp only [set]
  by_cases h : n = 0
  · subst h; rfl
  · have h0 : Nat.beq n 0 = false := by
      cases hb : Nat.beq n 0
      · rfl
      · exact absurd (Nat.eq_of_beq_eq_true hb) h
    rw [h0, if_neg h]
    by_cases h1 : n % 2 = 1
    · have h2 : Nat.beq (n % 2) 1 = true := by rw [h1]; rfl
      rw [h2, if_pos h1]; rfl
    · have h2 : Nat.beq (n % 2) 1 = false := by
        cases hb : Nat.beq (n % 2) 1
        · rfl
        · exact absurd (Nat.eq_of_beq_eq_true hb) h1
      rw [h2, if_neg h1]; rfl

theorem get_set : ∀ (f : Nat) (t : Tr α) (n m : Nat) (x : Option α), n < f → (set f t n x).get m = if m = n then x else t.get m
  | 0, _, _, _, _, h => absurd h (Nat.not_lt_zero _)
  | f + 1, t, n, m, x, h => by
    rw [set_eq, get_eq t m]
    by_cases h0 : n = 0
    · subst h0
      rw [if_pos rfl, get_eq]
      by_cases hm : m = 0
      · simp [hm, val]
      · simp [hm, lt, rt]
    · rw [if_neg h0]
      by_cases h1 : n % 2 = 1
      · rw [if_pos h1, get_eq]
        by_cases hm : m = 0
        · simp [hm, val, Ne.symm h0]
        · rw [if_neg hm, if_neg hm]
          by_cases hm1 : m % 2 = 1
          · rw [if_pos hm1, if_pos hm1]
            show (set f t.lt (n / 2) x).get (m / 2) = if m = n then x else t.lt.get (m / 2)
            rw [get_set f t.lt (n / 2) (m / 2) x (by omega)]
            by_cases e : m = n
            · rw [if_pos e, if_pos (by rw [e])]
            · rw [if_neg e, if_neg (by omega)]
          · rw [if_neg hm1, if_neg hm1, if_neg (by omega)]; rfl
      · rw [if_neg h1, get_eq]
        by_cases hm : m = 0
        · simp [hm, val, Ne.symm h0]
        · rw [if_neg hm, if_neg hm]
          by_cases hm1 : m % 2 = 1
          · rw [if_pos hm1, if_pos hm1, if_neg (by omega)]; rfl
          · rw [if_neg hm1, if_neg hm1]
            show (set f t.rt (n / 2 - 1) x).get (m / 2 - 1) = if m = n then x else t.rt.get (m / 2 - 1)
            rw [get_set f t.rt (n / 2 - 1) (m / 2 - 1) x (by omega)]
            by_cases e : m = n
            · rw [if_pos e, if_pos (by rw [e])]
            · rw [if_neg e, if_neg (by omega)]

theorem get_put (t : Tr α) (n m : Nat) (x : Option α) : (t.put n x).get m = if m = n then x else t.get m :=
  get_set _ _ _ _ _ (Nat.lt_succ_self n)
theorem get_put_same (t : Tr α) (n : Nat) (x : Option α) : (t.put n x).get n = x := by rw [get_put, if_pos rfl]
theorem get_put_ne (t : Tr α) {n m : Nat} (x : Option α) (h : m ≠ n) : (t.put n x).get m = t.get m := by rw [get_put, if_neg h]
end Tr

/-! ### Abstract values -/
inductive AV where
  | bool (b : Bool)
  | int (k : IntKind) (n : Int)
  | str (s : List UInt8)
  | ptr (b o : Nat)
  | nilptr
  | sl (b o len cap : Nat)
  | gsl (b o len : Nat)
  | nilsl
  | map (b : Nat)
  | nilmap
  | func (f : FuncId) (first caps : List AV)
  | nilfunc
  | nilif
  | agg (l : List AV)
  | tuple (l : List AV)
  | op (v : Value)
  deriving Inhabited

/-- A value that is handed on and never looked into. -/
def opaq : Value → Bool
  | .pointer _ | .slice _ _ _ | .map _ | .chan _ | .func _ _ _ | .nilFunc | .iface _ _ => true
  | _ => false

/-- Where an abstract block lies: the real block, the shift of its cells, and, where the capacity is not known, the number of its cells and the size of an element. -/
structure BI where
  r : Nat
  sh : Nat
  N : Nat
  es : Nat

abbrev RM := Nat → Option BI

mutual
inductive VR (ρ : RM) : AV → Value → Prop
  | bool {b} : VR ρ (.bool b) (.bool b)
  | int {k n} : VR ρ (.int k n) (.int k n)
  | str {s} : VR ρ (.str s) (.string ⟨⟨s⟩⟩)
  | ptr {b o bi} (h : ρ b = some bi) : VR ρ (.ptr b o) (.pointer (some ⟨bi.r, bi.sh + o, none⟩))
  | nilptr : VR ρ .nilptr (.pointer none)
  | sl {b o len cap bi} (h : ρ b = some bi) (hl : len ≤ cap) : VR ρ (.sl b o len cap) (.slice (some ⟨bi.r, bi.sh + o, none⟩) len cap)
  | gsl {b o len cap bi} (h : ρ b = some bi) (hc : o + cap * bi.es = bi.N) (hl : len ≤ cap) : VR ρ (.gsl b o len) (.slice (some ⟨bi.r, bi.sh + o, none⟩) len cap)
  | gsl0 {b o bi a} (h : ρ b = some bi) : VR ρ (.gsl b o 0) (.slice (some a) 0 0)
  | nilsl : VR ρ .nilsl (.slice none 0 0)
  | map {b bi} (h : ρ b = some bi) : VR ρ (.map b) (.map (some bi.r))
  | nilmap : VR ρ .nilmap (.map none)
  | func {f first caps fs cs} (h1 : VRL ρ first fs) (h2 : VRL ρ caps cs) : VR ρ (.func f first caps) (.func (.func f) ⟨fs⟩ ⟨cs⟩)
  | nilfunc : VR ρ .nilfunc .nilFunc
  | nilif : VR ρ .nilif .nilIface
  | agg {l cs} (h : VRL ρ l cs) : VR ρ (.agg l) (.agg ⟨cs⟩)
  | tuple {l cs} (h : VRL ρ l cs) : VR ρ (.tuple l) (.tuple ⟨cs⟩)
  | op {v} (h : opaq v = true) : VR ρ (.op v) v
inductive VRL (ρ : RM) : List AV → List Value → Prop
  | nil : VRL ρ [] []
  | cons {x v xs vs} (h : VR ρ x v) (t : VRL ρ xs vs) : VRL ρ (x :: xs) (v :: vs)
end

def RM.le (ρ ρ' : RM) : Prop := ∀ b bi, ρ b = some bi → ρ' b = some bi
theorem RM.le.refl (ρ : RM) : RM.le ρ ρ := fun _ _ h => h
theorem RM.le.trans {a b c : RM} (h : RM.le a b) (k : RM.le b c) : RM.le a c := fun _ _ e => k _ _ (h _ _ e)

mutual
theorem VR.mono {ρ ρ' : RM} (hle : RM.le ρ ρ') : ∀ {x v}, VR ρ x v → VR ρ' x v
  | _, _, .bool => .bool
  | _, _, .int => .int
  | _, _, .str => .str
  | _, _, .ptr h => .ptr (hle _ _ h)
  | _, _, .nilptr => .nilptr
  | _, _, .sl h hl => .sl (hle _ _ h) hl
  | _, _, .gsl h hc hl => .gsl (hle _ _ h) hc hl
  | _, _, .gsl0 h => .gsl0 (hle _ _ h)
  | _, _, .nilsl => .nilsl
  | _, _, .map h => .map (hle _ _ h)
  | _, _, .nilmap => .nilmap
  | _, _, .func h1 h2 => .func (VRL.mono hle h1) (VRL.mono hle h2)
  | _, _, .nilfunc => .nilfunc
  | _, _, .nilif => .nilif
  | _, _, .agg h => .agg (VRL.mono hle h)
  | _, _, .tuple h => .tuple (VRL.mono hle h)
  | _, _, .op h => .op h
theorem VRL.mono {ρ ρ' : RM} (hle : RM.le ρ ρ') : ∀ {l vs}, VRL ρ l vs → VRL ρ' l vs
  | _, _, .nil => .nil
  | _, _, .cons h t => .cons (VR.mono hle h) (VRL.mono hle t)
end

theorem VRL.length {ρ : RM} : ∀ {l vs}, VRL ρ l vs → l.length = vs.length
  | _, _, .nil => rfl
  | _, _, .cons _ t => by simp [VRL.length t]
theorem VRL.get {ρ : RM} : ∀ {l : List AV} {vs : List Value}, VRL ρ l vs → ∀ {i : Nat} {x : AV}, l[i]? = some x → ∃ v, vs[i]? = some v ∧ VR ρ x v
  | _, _, .nil, _, _, h => by simp at h
  | _, _, .cons h t, 0, _, e => by simp at e; subst e; exact ⟨_, rfl, h⟩
  | _, _, .cons _ t, i + 1, _, e => by simp at e; simpa using VRL.get t e
theorem VRL.append {ρ : RM} : ∀ {l vs m us}, VRL ρ l vs → VRL ρ m us → VRL ρ (l ++ m) (vs ++ us)
  | _, _, _, _, .nil, k => k
  | _, _, _, _, .cons h t, k => .cons h (VRL.append t k)
theorem VRL.take {ρ : RM} : ∀ {l vs}, VRL ρ l vs → ∀ n, VRL ρ (l.take n) (vs.take n)
  | _, _, _, 0 => by simpa using VRL.nil
  | _, _, .nil, n + 1 => by simpa using VRL.nil
  | _, _, .cons h t, n + 1 => by simpa using VRL.cons h (VRL.take t n)
theorem VRL.drop {ρ : RM} : ∀ {l vs}, VRL ρ l vs → ∀ n, VRL ρ (l.drop n) (vs.drop n)
  | _, _, h, 0 => by simpa using h
  | _, _, .nil, n + 1 => by simpa using VRL.nil
  | _, _, .cons h t, n + 1 => by simpa using VRL.drop t n
theorem VRL.of_get {ρ : RM} : ∀ {l : List AV} {vs : List Value}, l.length = vs.length → (∀ (i : Nat) (x : AV), l[i]? = some x → ∃ v, vs[i]? = some v ∧ VR ρ x v) → VRL ρ l vs
  | [], [], _, _ => .nil
  | [], _ :: _, h, _ => by simp at h
  | _ :: _, [], h, _ => by simp at h
  | x :: xs, v :: vs, h, g => by
    obtain ⟨u, hu, hr⟩ := g 0 x rfl
    simp at hu; subst hu
    exact .cons hr (VRL.of_get (by simpa using h) fun i y hy => by
      obtain ⟨u, hu, hr⟩ := g (i + 1) y (by simpa using hy)
      exact ⟨u, by simpa using hu, hr⟩)

/-- A value of one cell. -/
def AV.one : AV → Bool
  | .agg _ | .tuple _ => false
  | _ => true
def AV.cells : AV → List AV
  | .agg l => l
  | x => [x]
theorem VR.one {ρ : RM} {x v} (h : VR ρ x v) (hx : x.one = true) : v.oneCell' = true := by
  cases h <;> first | rfl | (simp [AV.one] at hx; done) | skip
  rename_i h
  cases v <;> first | rfl | (simp [opaq] at h; done)
theorem VR.cells {ρ : RM} {x v} (h : VR ρ x v) : VRL ρ x.cells v.cells.toList := by
  cases h
  case agg h => exact h
  case op h => cases v <;> first | exact .cons (.op h) .nil | (simp [opaq] at h; done)
  all_goals exact .cons (by constructor <;> assumption) .nil
end Go.Ev
