/- Symbolic values, resources, heaps: what a walk knows of the memory, said without the world. -/
import Derived.Test.YtblejagpndbicaaK1
import Derived.WalkKit
namespace Go.K

/-- a list of one-cell elements -/
inductive Lst where
  | I (k : IntKind) (l : List Int)
  | B (l : List Bool)
  | F (k : FloatKind) (l : List Nat)
  | C (k : FloatKind) (l : List (Nat × Nat))

namespace Lst
def cells : Lst → List Value
  | I k l => l.map (.int k)
  | B l => l.map .bool
  | F k l => l.map (.float k)
  | C k l => l.map fun p => .complex k p.1 p.2
def length : Lst → Nat
  | I _ l => l.length
  | B l => l.length
  | F _ l => l.length
  | C _ l => l.length
def get (i : Nat) : Lst → Value
  | I k l => .int k (l.getD i 0)
  | B l => .bool (l.getD i false)
  | F k l => .float k (l.getD i 0)
  | C k l => .complex k (l.getD i (0, 0)).1 (l.getD i (0, 0)).2
def set (i : Nat) (v : Value) : Lst → Option Lst
  | I k l => match v with
    | .int k' n => if k' = k then some (I k (l.set i n)) else none
    | _ => none
  | B l => match v with
    | .bool b => some (B (l.set i b))
    | _ => none
  | F k l => match v with
    | .float k' n => if k' = k then some (F k (l.set i n)) else none
    | _ => none
  | C k l => match v with
    | .complex k' a b => if k' = k then some (C k (l.set i (a, b))) else none
    | _ => none
def app : Lst → Lst → Option Lst
  | I k l => fun
    | I k' m => if k' = k then some (I k (l ++ m)) else none
    | _ => none
  | B l => fun
    | B m => some (B (l ++ m))
    | _ => none
  | F k l => fun
    | F k' m => if k' = k then some (F k (l ++ m)) else none
    | _ => none
  | C k l => fun
    | C k' m => if k' = k then some (C k (l ++ m)) else none
    | _ => none
def take (n : Nat) : Lst → Lst
  | I k l => I k (l.take n)
  | B l => B (l.take n)
  | F k l => F k (l.take n)
  | C k l => C k (l.take n)
def drop (n : Nat) : Lst → Lst
  | I k l => I k (l.drop n)
  | B l => B (l.drop n)
  | F k l => F k (l.drop n)
  | C k l => C k (l.drop n)
/-- n zeros of a kind -/
def zeros (n : Nat) : TypeDesc → Option Lst
  | .int k => some (I k (List.replicate n 0))
  | .bool => some (B (List.replicate n false))
  | .float k => some (F k (List.replicate n 0))
  | .complex k => some (C k (List.replicate n (0, 0)))
  | _ => none
/-- one element more, in front -/
def cons (v : Value) : Lst → Option Lst
  | I k l => match v with
    | .int k' n => if k' = k then some (I k (n :: l)) else none
    | _ => none
  | B l => match v with
    | .bool b => some (B (b :: l))
    | _ => none
  | F k l => match v with
    | .float k' n => if k' = k then some (F k (n :: l)) else none
    | _ => none
  | C k l => match v with
    | .complex k' a b => if k' = k then some (C k ((a, b) :: l)) else none
    | _ => none

theorem length_cells (l : Lst) : l.cells.length = l.length := by cases l <;> simp [cells, length]
theorem get_cells (l : Lst) (i : Nat) (h : i < l.length) : l.cells[i]? = some (l.get i) := by
  cases l <;> simp_all [cells, length, get, List.getD_eq_getElem?_getD]
theorem set_cells {l l' : Lst} {i : Nat} {v : Value} (h : l.set i v = some l') : l'.cells = l.cells.set i v ∧ l'.length = l.length := by
  cases l <;> cases v <;> simp only [set] at h <;> first | (cases h; done) | skip
  all_goals first
    | (split at h
       · rename_i e; subst e; cases h; simp [cells, length, List.map_set]
       · cases h)
    | (cases h; simp [cells, length, List.map_set])
theorem app_cells {l m r : Lst} (h : l.app m = some r) : r.cells = l.cells ++ m.cells ∧ r.length = l.length + m.length := by
  cases l <;> cases m <;> simp only [app] at h <;> first | (cases h; done) | skip
  all_goals first
    | (split at h
       · rename_i e; subst e; cases h; simp [cells, length]
       · cases h)
    | (cases h; simp [cells, length])
theorem take_cells (l : Lst) (n : Nat) : (l.take n).cells = l.cells.take n := by cases l <;> simp [cells, take, List.map_take]
theorem drop_cells (l : Lst) (n : Nat) : (l.drop n).cells = l.cells.drop n := by cases l <;> simp [cells, drop, List.map_drop]
theorem take_length (l : Lst) (n : Nat) : (l.take n).length = min n l.length := by cases l <;> simp [length, take]
theorem drop_length (l : Lst) (n : Nat) : (l.drop n).length = l.length - n := by cases l <;> simp [length, drop]
theorem cons_cells {l r : Lst} {v : Value} (h : l.cons v = some r) : r.cells = v :: l.cells ∧ r.length = l.length + 1 := by
  cases l <;> cases v <;> simp only [cons] at h <;> first | (cases h; done) | skip
  all_goals first
    | (split at h
       · rename_i e; subst e; cases h; simp [cells, length]
       · cases h)
    | (cases h; simp [cells, length])
end Lst

inductive Res where
  /-- a block of the call's own, cell by cell -/
  | box (T : TypeId) (cs : List Value)
  /-- a block of the call's own that is an array -/
  | arr (T : TypeId) (l : Lst)
  /-- a slice of the call's own, of the whole array behind it -/
  | row (E : TypeId) (l : Lst)
  /-- a slice that may be read -/
  | ro (l : Lst)
  /-- cells that may be read -/
  | rob (cs : List Value)
  /-- an array as a value -/
  | snap (l : Lst)
  | dead

/-- the length of a list-like resource -/
def Res.len : Res → Option Nat
  | .arr _ l | .row _ l | .ro l => some l.length
  | _ => none

/-- what the slots hold: an address, a slice's head; none: nothing yet -/
abbrev Hs := Nat → Option Value

/-- pointwise -/
def LR (R : Value → Value → Prop) (as bs : List Value) : Prop :=
  as.length = bs.length ∧ ∀ (i : Nat) (v u : Value), as[i]? = some v → bs[i]? = some u → R v u

/-- where the cells behind a handle begin -/
def baseOf : Value → Option Addr
  | .pointer (some a) => some a
  | .slice (some a) _ _ => some a
  | _ => none

/-- an actual value and the symbolic one, each of one cell: numbers up to the choice of a NaN; addresses by the slot's number -/
def VR0 (rs : List Res) (hs : Hs) (v : Value) : Value → Prop
  | .bool b => v = .bool b
  | .int k n => v = .int k n
  | .float k x => ∃ b, v = .float k b ∧ cF k b = x
  | .complex k x y => ∃ a b, v = .complex k a b ∧ cF k a = x ∧ cF k b = y
  | .string s => v = .string s
  | .pointer a => match a with
    | none => v = .pointer none
    | some p => (∃ h a, hs p.block = some h ∧ baseOf h = some a ∧ v = .pointer (some (a.add p.off))) ∧
      (∀ r n, rs[p.block]? = some r → r.len = some n → p.off < n)
  | .slice a n q => match a with
    | none => n = 0 ∧ v = .slice none 0 0
    | some p => match q with
      | 0 => hs p.block = some v ∧ (∃ oa cap, v = .slice oa n cap ∧ n ≤ cap) ∧ (∀ r m, rs[p.block]? = some r → r.len = some m → n = m)
      | _ + 1 => ∃ oa cap, v = .slice oa n cap ∧ n ≤ cap ∧ (n = 0 ∨ ∃ h a, hs p.block = some h ∧ baseOf h = some a ∧ oa = some (a.add p.off) ∧
          (∀ r m, rs[p.block]? = some r → r.len = some m → p.off + n ≤ m))
  | .map r => match r with
    | none => v = .map none
    | some k => hs k = some v
  | .chan _ => True
  | .func _ _ _ => False
  | .nilFunc => v = .nilFunc
  | .iface _ _ => False
  | .nilIface => v = .nilIface
  | .agg _ => False
  | .tuple _ => False

/-- of one cell, or of cells -/
def VRa (rs : List Res) (hs : Hs) (v c : Value) : Prop :=
  match c with
  | .agg cs => ∃ ds, v = .agg ds ∧ LR (VR0 rs hs) ds.toList cs.toList
  | c => VR0 rs hs v c

def VR1 (rs : List Res) (hs : Hs) (v c : Value) : Prop :=
  match c with
  | .func f first caps => ∃ fs ds, v = .func f fs ds ∧ LR (VRa rs hs) fs.toList first.toList ∧ LR (VRa rs hs) ds.toList caps.toList
  | c => VRa rs hs v c

def VR2 (rs : List Res) (hs : Hs) (v c : Value) : Prop :=
  match c with
  | .tuple cs => ∃ ds, v = .tuple ds ∧ LR (VR1 rs hs) ds.toList cs.toList
  | c => VR1 rs hs v c

/-- a frame: below the heap of the beginning nothing has turned but for the blocks of M -/
structure Fr (M : List Nat) (w w' : World) : Prop where
  os : w'.os = w.os
  tape : w'.tape = w.tape
  output : w'.output = w.output
  size : w.heap.size ≤ w'.heap.size
  block : ∀ k, k < w.heap.size → k ∉ M → w'.heap[k]? = w.heap[k]?

theorem Fr.refl (M : List Nat) (w : World) : Fr M w w := ⟨rfl, rfl, rfl, Nat.le_refl _, fun _ _ _ => rfl⟩
theorem Fr.trans {M : List Nat} {a b c : World} (h : Fr M a b) (k : Fr M b c) : Fr M a c :=
  ⟨k.os.trans h.os, k.tape.trans h.tape, k.output.trans h.output, Nat.le_trans h.size k.size, fun i hi hm => (k.block i (Nat.lt_of_lt_of_le hi h.size) hm).trans (h.block i hi hm)⟩
theorem Fr.drewN {M : List Nat} {a b : World} (h : Fr M a b) (n : Nat) : Fr M a (b.drewN n) := ⟨h.os, h.tape, h.output, h.size, h.block⟩

/-- what holds of a resource: rs, hs: all slots; h: this one's handle -/
def Res.holds (rs : List Res) (hs : Hs) (w : World) (h : Value) : Res → Prop
  | .box T cs => ∃ b ds, h = .pointer (some ⟨b, 0, none⟩) ∧ w.heap[b]? = some (.cells ds T (0, 0)) ∧ LR (VR0 rs hs) ds.toList cs
  | .arr T l => ∃ b ds, h = .pointer (some ⟨b, 0, none⟩) ∧ w.heap[b]? = some (.cells ds T (0, 0)) ∧ LR (VR0 [] fun _ => none) ds.toList l.cells
  | .row E l => ∃ g cap, h = .slice g l.length cap ∧ ((cap = 0 ∧ l.length = 0) ∨
      ∃ b ds, g = some ⟨b, 0, none⟩ ∧ 0 < cap ∧ w.heap[b]? = some (.cells ds E (0, 0)) ∧ l.length ≤ cap ∧ cap ≤ maxLen ∧ ds.size = cap ∧ LR (VR0 [] fun _ => none) (ds.toList.take l.length) l.cells)
  | .ro l => ∃ g cap, h = .slice g l.length cap ∧ l.length ≤ cap ∧ (l.length = 0 ∨ ∃ a : Addr, g = some a ∧ ∀ j u, l.cells[j]? = some u → ∃ v, w.cell? (a.add j) = some v ∧ VR0 [] (fun _ => none) v u)
  | .rob cs => ∃ a : Addr, h = .pointer (some a) ∧ ∀ j u, cs[j]? = some u → ∃ v, w.cell? (a.add j) = some v ∧ VR0 rs hs v u
  | .snap l => ∃ ds, h = .agg ds ∧ LR (VR0 [] fun _ => none) ds.toList l.cells
  | .dead => True

/-- the block that a resource owns -/
def Res.own (h : Value) : Res → Option Nat
  | .box _ _ | .arr _ _ => (baseOf h).map (·.block)
  | .row _ _ => match h with
    | .slice (some a) _ cap => if cap = 0 then none else some a.block
    | _ => none
  | _ => none

/-- the block that a resource reads and does not own -/
def Res.reads (h : Value) : Res → Option Nat
  | .ro l => if l.length = 0 then none else (baseOf h).map (·.block)
  | .rob cs => if cs.length = 0 then none else (baseOf h).map (·.block)
  | _ => none

/-- w0, M: the world of the beginning and those of its blocks that may be written -/
structure Heap (w0 : World) (M : List Nat) (rs : List Res) (hs : Hs) (w : World) : Prop where
  holds : ∀ (i : Nat) (r : Res) (h : Value), rs[i]? = some r → hs i = some h → r.holds rs hs w h
  sep : ∀ (i j : Nat) (r q : Res) (h g : Value) (b : Nat), rs[i]? = some r → hs i = some h → rs[j]? = some q → hs j = some g → r.own h = some b → q.own g = some b → i = j
  new : ∀ (i : Nat) (r : Res) (h : Value) (b : Nat), rs[i]? = some r → hs i = some h → r.own h = some b → w0.heap.size ≤ b ∨ b ∈ M
  old : ∀ (i : Nat) (r : Res) (h : Value) (b : Nat), rs[i]? = some r → hs i = some h → r.reads h = some b → b < w0.heap.size ∧ b ∉ M
  fresh : ∀ i, rs.length ≤ i → hs i = none
  free : ∀ b, b ∈ M → b < w0.heap.size
  frame : Fr M w0 w

/-- what is known of the slots -/
abbrev Env := List (Nat × Value)

def look : Env → Nat → Option Value
  | [], _ => none
  | (t, v) :: r, n => match Nat.beq t n with
    | true => some v
    | false => look r n

end Go.K
