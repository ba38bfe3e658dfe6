/- Shapes: a state with its numbers, lists taken out, and put back. -/
import Derived.Test.YtblejagpndbicaaK12
set_option linter.unusedSimpArgs false
set_option linter.unusedVariables false
namespace Go.K
open Go.RowKit

/-! ### leaves -/
inductive LT | int | bool | flt | li | lb | lf | lc
inductive LV where
  | int (n : Int) | bool (b : Bool) | flt (x : Nat) | li (l : List Int) | lb (l : List Bool) | lf (l : List Nat) | lc (l : List (Nat × Nat))
@[reducible] def LT.ty : LT → Type
  | .int => Int | .bool => Bool | .flt => Nat | .li => List Int | .lb => List Bool | .lf => List Nat | .lc => List (Nat × Nat)
def LV.of : (t : LT) → t.ty → LV
  | .int, n => .int n
  | .bool, b => .bool b
  | .flt, x => .flt x
  | .li, l => .li l
  | .lb, l => .lb l
  | .lf, l => .lf l
  | .lc, l => .lc l
def LV.get : (t : LT) → LV → Option t.ty
  | .int, v => match v with | .int n => some n | _ => none
  | .bool, v => match v with | .bool n => some n | _ => none
  | .flt, v => match v with | .flt n => some n | _ => none
  | .li, v => match v with | .li n => some n | _ => none
  | .lb, v => match v with | .lb n => some n | _ => none
  | .lf, v => match v with | .lf n => some n | _ => none
  | .lc, v => match v with | .lc n => some n | _ => none
theorem LV.get_spec {t : LT} {v : LV} {x : t.ty} (h : LV.get t v = some x) : v = LV.of t x := by
  cases t <;> cases v <;> simp only [LV.get] at h <;> cases h <;> rfl

/-- a law over leaves -/
def Cur : List LT → Type
  | [] => Prop
  | t :: r => t.ty → Cur r
def app : (ts : List LT) → Cur ts → List LV → Prop
  | [], p, l => match l with
    | [] => p
    | _ :: _ => False
  | t :: r, f, l => match l with
    | [] => False
    | v :: vs => match LV.get t v with
      | some x => app r (f x) vs
      | none => False
def lam : (ts : List LT) → (List LV → Prop) → Cur ts
  | [], p => p []
  | t :: r, p => fun x => lam r fun l => p (LV.of t x :: l)
def AllC : (ts : List LT) → (List LV → Prop) → Prop
  | [], p => p []
  | t :: r, p => ∀ x : t.ty, AllC r fun l => p (LV.of t x :: l)
/-- a law over leaves and what follows -/
def CurK : List LT → List LT → Type
  | [], outs => Cur outs → Prop
  | t :: r, outs => t.ty → CurK r outs
def appK (outs : List LT) : (ts : List LT) → CurK ts outs → List LV → Cur outs → Prop
  | [], p, l, k => match l with
    | [] => p k
    | _ :: _ => False
  | t :: r, f, l, k => match l with
    | [] => False
    | v :: vs => match LV.get t v with
      | some x => appK outs r (f x) vs k
      | none => False

theorem app_lam : ∀ {ts : List LT} {p : List LV → Prop} {l : List LV}, app ts (lam ts p) l → p l
  | [], p, [], h => h
  | [], p, _ :: _, h => h.elim
  | t :: r, p, [], h => h.elim
  | t :: r, p, v :: vs, h => by
    simp only [app] at h
    split at h
    · rename_i x hx
      rw [LV.get_spec hx]
      exact app_lam (p := fun l => p (LV.of t x :: l)) h
    · exact h.elim
theorem AllC_lam {ts : List LT} {p : List LV → Prop} (h : ∀ l, p l) : AllC ts p := by
  induction ts generalizing p with
  | nil => exact h []
  | cons t r ih => exact fun x => ih fun l => h _
theorem AllC_mono {ts : List LT} {p q : List LV → Prop} (h : ∀ l, p l → q l) (hp : AllC ts p) : AllC ts q := by
  induction ts generalizing p q with
  | nil => exact h _ hp
  | cons t r ih => exact fun x => ih (fun l => h _) (hp x)
theorem app_of : ∀ {ts : List LT} {l : List LV} {p : List LV → Prop} (_ : app ts (lam ts fun _ => True) l), p l → app ts (lam ts p) l
  | [], [], _, _, h => h
  | [], _ :: _, _, ht, _ => ht.elim
  | t :: r, [], _, ht, _ => ht.elim
  | t :: r, v :: vs, p, ht, h => by
    simp only [app] at ht ⊢
    split
    · rename_i x hx
      rw [hx] at ht
      rw [LV.get_spec hx] at h
      exact app_of (p := fun l => p (LV.of t x :: l)) ht h
    · rename_i hx; rw [hx] at ht; exact ht
theorem AllC_app {ts : List LT} {p : List LV → Prop} (h : AllC ts p) : ∀ {l : List LV}, app ts (lam ts fun _ => True) l → p l := by
  induction ts generalizing p with
  | nil => intro l ht; cases l with
    | nil => exact h
    | cons _ _ => exact ht.elim
  | cons t r ih =>
    intro l ht
    cases l with
    | nil => exact ht.elim
    | cons v vs =>
      simp only [app] at ht
      split at ht
      · rename_i x hx
        rw [LV.get_spec hx]
        exact ih (h x) ht
      · exact ht.elim

/-! ### lists as leaves -/
inductive Lk where
  | I (k : IntKind) | B | F (k : FloatKind) | C (k : FloatKind)
def Lk.leaf (s : Lk) (l : Lst) : Option LV :=
  match s with
  | .I k => match l with
    | .I k' l => if k' = k then some (.li l) else none
    | _ => none
  | .B => match l with
    | .B l => some (.lb l)
    | _ => none
  | .F k => match l with
    | .F k' l => if k' = k then some (.lf l) else none
    | _ => none
  | .C k => match l with
    | .C k' l => if k' = k then some (.lc l) else none
    | _ => none
def Lk.mk (s : Lk) (v : LV) : Option Lst :=
  match s with
  | .I k => match v with
    | .li l => some (.I k l)
    | _ => none
  | .B => match v with
    | .lb l => some (.B l)
    | _ => none
  | .F k => match v with
    | .lf l => some (.F k l)
    | _ => none
  | .C k => match v with
    | .lc l => some (.C k l)
    | _ => none
def Lk.none : Lk → LV
  | .I _ => .li []
  | .B => .lb []
  | .F _ => .lf []
  | .C _ => .lc []
def LV.len : LV → Nat
  | .li l => l.length
  | .lb l => l.length
  | .lf l => l.length
  | .lc l => l.length
  | _ => 0
theorem Lk.leaf_ok {s : Lk} {l : Lst} {v : LV} (h : s.leaf l = some v) : s.mk v = some l ∧ v.len = l.length := by
  cases s <;> cases l <;> simp only [Lk.leaf] at h <;> first | (cases h; done) | skip
  all_goals first
    | (split at h
       · rename_i e; subst e; cases h; exact ⟨rfl, rfl⟩
       · cases h)
    | (cases h; exact ⟨rfl, rfl⟩)
theorem Lk.none_ok (s : Lk) : ∃ l, s.mk s.none = some l ∧ l.length = 0 ∧ s.none.len = 0 := by
  cases s <;> exact ⟨_, rfl, rfl, rfl⟩
theorem Lk.mk_len {s : Lk} {v : LV} {l : Lst} (h : s.mk v = some l) : v.len = l.length := by
  cases s <;> cases v <;> simp only [Lk.mk] at h <;> cases h <;> rfl

/-! ### shapes -/
inductive S0 where
  | int (k : IntKind) | bool | flt (k : FloatKind) | cpx (k : FloatKind) | sl (j : Nat) | pt (j off : Nat) | mp (j : Nat) | nilp | nilf | any
inductive SA where
  | one (s : S0) | agg (l : List S0)
inductive S1 where
  | a (s : SA) | fn (f : FuncId) (first caps : List SA)
inductive S2 where
  | v (s : S1) | tup (l : List S1)
inductive SR where
  | row (E : TypeId) (k : Lk) | rd (k : Lk) | arr (T : TypeId) (k : Lk) | box (T : TypeId) (l : List S0) | rdb (l : List S0) | snap (k : Lk) | keep | dead

/-- what a slot of the new state was -/
inductive Bnd where
  | nil | sl (k off n q : Nat) | pt (k off : Nat) | mp (k : Nat)

abbrev DR := Option (List LV × List (Nat × Bnd))
def cat (a : DR) (b : DR) : DR := match a with
  | some (l, bs) => match b with
    | some (l', bs') => some (l ++ l', bs ++ bs')
    | none => none
  | none => none

def d0 (s : S0) (v : Value) : DR :=
  match s with
  | .int k => match v with
    | .int k' n => if k' = k then some ([.int n], []) else none
    | _ => none
  | .bool => match v with
    | .bool b => some ([.bool b], [])
    | _ => none
  | .flt k => match v with
    | .float k' x => if k' = k then some ([.flt x], []) else none
    | _ => none
  | .cpx k => match v with
    | .complex k' x y => if k' = k then some ([.flt x, .flt y], []) else none
    | _ => none
  | .sl j => match v with
    | .slice p n q => match p with
      | none => some ([], [(j, .nil)])
      | some p => some ([], [(j, .sl p.block (sOff p q) n q)])
    | _ => none
  | .pt j off => match v with
    | .pointer p => match p with
      | some p => match Nat.ble off p.off with
        | true => some ([], [(j, .pt p.block (p.off - off))])
        | false => none
      | none => none
    | _ => none
  | .mp j => match v with
    | .map r => match r with
      | some k => some ([], [(j, .mp k)])
      | none => none
    | _ => none
  | .nilp => match v with
    | .pointer p => match p with
      | none => some ([], [])
      | some _ => none
    | _ => none
  | .nilf => match v with
    | .nilFunc => some ([], [])
    | _ => none
  | .any => some ([], [])
def dL : List S0 → List Value → DR
  | [], l => match l with
    | [] => some ([], [])
    | _ :: _ => none
  | s :: r, l => match l with
    | [] => none
    | v :: vs => cat (d0 s v) (dL r vs)
def dA (s : SA) (v : Value) : DR :=
  match s with
  | .one s => d0 s v
  | .agg l => match v with
    | .agg cs => dL l cs.toList
    | _ => none
def dAL : List SA → List Value → DR
  | [], l => match l with
    | [] => some ([], [])
    | _ :: _ => none
  | s :: r, l => match l with
    | [] => none
    | v :: vs => cat (dA s v) (dAL r vs)
def d1 (s : S1) (v : Value) : DR :=
  match s with
  | .a s => dA s v
  | .fn f first caps => match v with
    | .func g a b => match g with
      | .func g => match Nat.beq g f with
        | true => cat (dAL first a.toList) (dAL caps b.toList)
        | false => none
      | _ => none
    | _ => none
def d1L : List S1 → List Value → DR
  | [], l => match l with
    | [] => some ([], [])
    | _ :: _ => none
  | s :: r, l => match l with
    | [] => none
    | v :: vs => cat (d1 s v) (d1L r vs)
def d2 (s : S2) (v : Value) : DR :=
  match s with
  | .v s => d1 s v
  | .tup l => match v with
    | .tuple cs => d1L l cs.toList
    | _ => none
def d2L : List S2 → List Value → DR
  | [], l => match l with
    | [] => some ([], [])
    | _ :: _ => none
  | s :: r, l => match l with
    | [] => none
    | v :: vs => cat (d2 s v) (d2L r vs)

def leafR (k : Lk) (l : Lst) : DR := match k.leaf l with
  | some v => some ([v], [])
  | none => none
def dR (rs : List Res) (s : SR) (b : Bnd) : DR :=
  match s with
  | .row E k => match b with
    | .nil => some ([k.none], [])
    | .sl kk _ _ q => match q with
      | 0 => match rs[kk]? with
        | some r => match r with
          | .row E' l => match Nat.beq E' E with
            | true => leafR k l
            | false => none
          | _ => none
        | none => none
      | _ + 1 => none
    | _ => none
  | .rd k => match b with
    | .nil => some ([k.none], [])
    | .sl kk off n q => match rs[kk]? with
      | some r => match sliceLst r with
        | some l => leafR k (subL l ⟨kk, off, none⟩ n q)
        | none => none
      | none => none
    | _ => none
  | .arr T k => match b with
    | .pt kk off => match off with
      | 0 => match rs[kk]? with
        | some r => match r with
          | .arr T' l => match Nat.beq T' T with
            | true => leafR k l
            | false => none
          | _ => none
        | none => none
      | _ + 1 => none
    | _ => none
  | .box T ss => match b with
    | .pt kk off => match off with
      | 0 => match rs[kk]? with
        | some r => match r with
          | .box T' cs => match Nat.beq T' T with
            | true => dL ss cs
            | false => none
          | _ => none
        | none => none
      | _ + 1 => none
    | _ => none
  | .rdb ss => match b with
    | .pt kk off => match rs[kk]? with
      | some r => match r with
        | .box _ cs => dL ss ((cs.drop off).take ss.length)
        | .rob cs => dL ss ((cs.drop off).take ss.length)
        | _ => none
      | none => none
    | _ => none
  | .snap k => match b with
    | .mp kk => match rs[kk]? with
      | some r => match r with
        | .snap l => leafR k l
        | _ => none
      | none => none
    | _ => none
  | .keep => some ([], [])
  | .dead => some ([], [])

def pickB (j : Nat) : List (Nat × Bnd) → Option Bnd
  | [] => none
  | p :: r => match Nat.beq p.1 j with
    | true => some p.2
    | false => pickB j r
def countB (j : Nat) : List (Nat × Bnd) → Nat
  | [] => 0
  | p :: r => match Nat.beq p.1 j with
    | true => countB j r + 1
    | false => countB j r

def dRs (rs : List Res) : List SR → Nat → List (Nat × Bnd) → Option (List LV × List (Nat × Bnd) × List Bnd)
  | [], _, bs => some ([], bs, [])
  | s :: r, j, bs => match pickB j bs with
    | none => none
    | some b => match dR rs s b with
      | none => none
      | some (lv, more) => match dRs rs r (j + 1) (bs ++ more) with
        | none => none
        | some (lv', bs', B) => some (lv ++ lv', bs', b :: B)

/-- of two bindings of one slot: they say the same -/
def sameB (a b : Bnd) : Bool :=
  match a with
  | .nil => match b with
    | .nil => true
    | _ => false
  | .sl k off n q => match b with
    | .sl k' off' n' q' => Nat.beq k k' && Nat.beq q q' && (Nat.beq q 0 || (Nat.beq off off' && Nat.beq n n'))
    | _ => false
  | .pt k off => match b with
    | .pt k' off' => Nat.beq k k' && Nat.beq off off'
    | _ => false
  | .mp k => match b with
    | .mp k' => Nat.beq k k'
    | _ => false
theorem sameB_self (b : Bnd) : sameB b b = true := by
  cases b <;> simp [sameB, Nat.beq_refl]
def simpleB : Bnd → Bool
  | .sl _ _ _ q => Nat.beq q 0
  | _ => true
/-- a slice may be named only where there is one -/
def slotB (FR : List Res) (s : SR) (j : Nat) (b : Bnd) : Bool :=
  match b with
  | .nil => match s with
    | .row _ _ => true
    | .rd _ => true
    | _ => false
  | .sl k _ _ q => match s with
    | .row _ _ => true
    | .rd _ => true
    | .keep => match q with
      | 0 => match Nat.beq k j with
        | true => match FR[j]? with
          | some r => match r with
            | .ro _ => true
            | _ => false
          | none => false
        | false => false
      | _ + 1 => false
    | _ => false
  | .pt k off => match s with
    | .keep => match Nat.beq k j && Nat.beq off 0 with
      | true => match FR[j]? with
        | some r => match r with
          | .rob _ => true
          | _ => false
        | none => false
      | false => false
    | .arr _ _ => true
    | .box _ _ => true
    | .rdb _ => true
    | _ => false
  | .mp k => match s with
    | .snap _ => true
    | .dead => Nat.beq k j
    | _ => false
def checkB (FR : List Res) (sr : List SR) (bs : List (Nat × Bnd)) (B : List Bnd) : Bool :=
  bs.all fun p => match B[p.1]? with
    | some b0 => match sr[p.1]? with
      | some s => (Nat.beq (countB p.1 bs) 1 || (sameB b0 p.2 && simpleB b0)) && slotB FR s p.1 p.2
      | none => false
    | none => false

/-- the slot whose block passes over -/
def ownB (s : SR) (b : Bnd) : List Nat :=
  match s with
  | .row _ _ => match b with
    | .sl k _ _ _ => [k]
    | _ => []
  | .arr _ _ => match b with
    | .pt k _ => [k]
    | _ => []
  | .box _ _ => match b with
    | .pt k _ => [k]
    | _ => []
  | _ => []
/-- the slot that is read -/
def readB (s : SR) (b : Bnd) : List Nat :=
  match s with
  | .rd _ => match b with
    | .sl k _ _ _ => [k]
    | _ => []
  | .rdb _ => match b with
    | .pt k _ => [k]
    | _ => []
  | _ => []
def ownBs : List SR → List Bnd → List Nat
  | [], _ => []
  | s :: r, l => match l with
    | [] => []
    | b :: bs => ownB s b ++ ownBs r bs
def readBs : List SR → List Bnd → List Nat
  | [], _ => []
  | s :: r, l => match l with
    | [] => []
    | b :: bs => readB s b ++ readBs r bs

/-- base: the slots that stay; sv, sr: the shapes -/
def dec (FR : List Res) (rs : List Res) (base : List (Nat × Bnd)) (sv : List S2) (sr : List SR) (vals : List Value) : Option (List LV × List Bnd) :=
  match d2L sv vals with
  | none => none
  | some (lvV, bs) => match dRs rs sr 0 (base ++ bs) with
    | none => none
    | some (lvR, bs', B) => match checkB FR sr bs' B && nodupB (ownBs sr B) && disj (readBs sr B) (ownBs sr B) with
      | true => some (lvR ++ lvV, B)
      | false => none

/-! ### and put back -/
def e0 (ln : Nat → Nat) (s : S0) (l : List LV) : Option (Value × List LV) :=
  match s with
  | .int k => match l with
    | .int n :: r => some (.int k n, r)
    | _ => none
  | .bool => match l with
    | .bool b :: r => some (.bool b, r)
    | _ => none
  | .flt k => match l with
    | .flt x :: r => some (.float k x, r)
    | _ => none
  | .cpx k => match l with
    | .flt x :: .flt y :: r => some (.complex k x y, r)
    | _ => none
  | .sl j => some (.slice (some ⟨j, 0, none⟩) (ln j) 0, l)
  | .pt j off => some (.pointer (some ⟨j, off, none⟩), l)
  | .mp j => some (.map (some j), l)
  | .nilp => some (.pointer none, l)
  | .nilf => some (.nilFunc, l)
  | .any => some (.chan none, l)
def eL (ln : Nat → Nat) : List S0 → List LV → Option (List Value × List LV)
  | [], l => some ([], l)
  | s :: r, l => match e0 ln s l with
    | none => none
    | some (v, l') => match eL ln r l' with
      | none => none
      | some (vs, l'') => some (v :: vs, l'')
def eA (ln : Nat → Nat) (s : SA) (l : List LV) : Option (Value × List LV) :=
  match s with
  | .one s => e0 ln s l
  | .agg ss => match eL ln ss l with
    | some (vs, l') => some (.agg vs.toArray, l')
    | none => none
def eAL (ln : Nat → Nat) : List SA → List LV → Option (List Value × List LV)
  | [], l => some ([], l)
  | s :: r, l => match eA ln s l with
    | none => none
    | some (v, l') => match eAL ln r l' with
      | none => none
      | some (vs, l'') => some (v :: vs, l'')
def e1 (ln : Nat → Nat) (s : S1) (l : List LV) : Option (Value × List LV) :=
  match s with
  | .a s => eA ln s l
  | .fn f a b => match eAL ln a l with
    | none => none
    | some (vs, l') => match eAL ln b l' with
      | none => none
      | some (us, l'') => some (.func (.func f) vs.toArray us.toArray, l'')
def e1L (ln : Nat → Nat) : List S1 → List LV → Option (List Value × List LV)
  | [], l => some ([], l)
  | s :: r, l => match e1 ln s l with
    | none => none
    | some (v, l') => match e1L ln r l' with
      | none => none
      | some (vs, l'') => some (v :: vs, l'')
def e2 (ln : Nat → Nat) (s : S2) (l : List LV) : Option (Value × List LV) :=
  match s with
  | .v s => e1 ln s l
  | .tup ss => match e1L ln ss l with
    | some (vs, l') => some (.tuple vs.toArray, l')
    | none => none
def e2L (ln : Nat → Nat) : List S2 → List LV → Option (List Value × List LV)
  | [], l => some ([], l)
  | s :: r, l => match e2 ln s l with
    | none => none
    | some (v, l') => match e2L ln r l' with
      | none => none
      | some (vs, l'') => some (v :: vs, l'')

def lstR (k : Lk) (f : Lst → Res) (l : List LV) : Option (Res × List LV) :=
  match l with
  | [] => none
  | v :: r => match k.mk v with
    | some m => some (f m, r)
    | none => none
def eR (FR : List Res) (ln : Nat → Nat) (j : Nat) (s : SR) (l : List LV) : Option (Res × List LV) :=
  match s with
  | .row E k => lstR k (.row E) l
  | .rd k => lstR k .ro l
  | .arr T k => lstR k (.arr T) l
  | .box T ss => match eL ln ss l with
    | some (vs, l') => some (.box T vs, l')
    | none => none
  | .rdb ss => match eL ln ss l with
    | some (vs, l') => some (.rob vs, l')
    | none => none
  | .snap k => lstR k .snap l
  | .keep => match FR[j]? with
    | some r => some (r, l)
    | none => none
  | .dead => some (.dead, l)
def eRs (FR : List Res) (ln : Nat → Nat) : Nat → List SR → List LV → Option (List Res × List LV)
  | _, [], l => some ([], l)
  | j, s :: r, l => match eR FR ln j s l with
    | none => none
    | some (v, l') => match eRs FR ln (j + 1) r l' with
      | none => none
      | some (vs, l'') => some (v :: vs, l'')

/-- how many leaves -/
def n0 : S0 → Nat
  | .int _ => 1 | .bool => 1 | .flt _ => 1 | .cpx _ => 2 | _ => 0
def nL : List S0 → Nat
  | [] => 0
  | s :: r => n0 s + nL r
def lenR (FR : List Res) (j : Nat) (s : SR) (l : List LV) : Nat × Nat :=
  match s with
  | .row _ _ => (match l with | v :: _ => v.len | [] => 0, 1)
  | .rd _ => (match l with | v :: _ => v.len | [] => 0, 1)
  | .arr _ _ => (match l with | v :: _ => v.len | [] => 0, 1)
  | .box _ ss => (0, nL ss)
  | .rdb ss => (0, nL ss)
  | .snap _ => (0, 1)
  | .keep => (match FR[j]? with
    | some r => match r with
      | .ro l => l.length
      | _ => 0
    | none => 0, 0)
  | .dead => (0, 0)
/-- the length in slot i, counted from slot j on -/
def lens (FR : List Res) : Nat → List SR → List LV → Nat → Nat
  | _, [], _, _ => 0
  | j, s :: r, l, i => match i with
    | 0 => (lenR FR j s l).1
    | i + 1 => lens FR (j + 1) r (l.drop (lenR FR j s l).2) i

def emb (FR : List Res) (sv : List S2) (sr : List SR) (l : List LV) : Option (List Value × List Res) :=
  match eRs FR (lens FR 0 sr l) 0 sr l with
  | none => none
  | some (rs, l') => match e2L (lens FR 0 sr l) sv l' with
    | none => none
    | some (vs, l'') => match l'' with
      | [] => some (vs, rs)
      | _ :: _ => none

end Go.K
