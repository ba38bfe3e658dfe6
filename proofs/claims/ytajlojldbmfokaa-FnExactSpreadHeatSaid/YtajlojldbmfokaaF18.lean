/- Rows of equations: what is not finite stays so. -/
import Derived.Test.YtajlojldbmfokaaF8
set_option linter.unusedSimpArgs false
set_option linter.unusedVariables false
set_option maxRecDepth 10000
namespace Go.K
open Ieee

/-! ### tables -/
def tab (n : Nat) (f : Nat → Nat) : List Nat := (List.range n).map f
theorem tab_length (n : Nat) (f : Nat → Nat) : (tab n f).length = n := by simp [tab]
theorem tab_get {n : Nat} {f : Nat → Nat} {j : Nat} (h : j < n) : (tab n f).getD j 0 = f j := by simp [tab, List.getD, h]
theorem tab_congr {n : Nat} {f g : Nat → Nat} (h : ∀ j, j < n → f j = g j) : tab n f = tab n g := by
  unfold tab
  refine List.map_congr_left fun j hj => h j (by simpa using hj)
theorem tab_at (n : Nat) (f : Nat → Nat) (j : Nat) : (tab n f)[j]? = if j < n then some (f j) else none := by
  by_cases h : j < n
  · rw [if_pos h]; simp [tab, h]
  · rw [if_neg h]; simp [tab, h]
theorem tab_set {n i v : Nat} {f : Nat → Nat} (h : i < n) : (tab n f).set i v = tab n (fun j => if j = i then v else f j) := by
  apply List.ext_getElem?
  intro k
  rw [List.getElem?_set, tab_length, tab_at, tab_at]
  by_cases e : i = k
  · subst e; rw [if_pos rfl, if_pos h, if_pos h, if_pos rfl]
  · rw [if_neg e]
    by_cases hk : k < n
    · rw [if_pos hk, if_pos hk, if_neg (by omega)]
    · rw [if_neg hk, if_neg hk]
theorem tab_succ (n : Nat) (f : Nat → Nat) : tab (n + 1) f = tab n f ++ [f n] := by simp [tab, List.range_succ]
theorem tab_self (l : List Nat) : l = tab l.length (fun j => l.getD j 0) := by
  apply List.ext_getElem?
  intro k
  rw [tab_at]
  by_cases hk : k < l.length
  · rw [if_pos hk]; simp [hk]
  · rw [if_neg hk]; simp; omega
theorem tab_const (n v : Nat) : List.replicate n v = tab n (fun _ => v) := by
  apply List.ext_getElem?
  intro k
  rw [tab_at]
  by_cases hk : k < n
  · rw [if_pos hk]; simp [hk]
  · rw [if_neg hk]; simp; omega
theorem tab_all {n : Nat} {f : Nat → Nat} {p : Nat → Bool} : (tab n f).all p = true ↔ ∀ j, j < n → p (f j) = true := by
  simp [tab]
theorem tab_take {n k : Nat} {f : Nat → Nat} (h : k ≤ n) : (tab n f).take k = tab k f := by
  apply List.ext_getElem?
  intro j
  rw [List.getElem?_take, tab_at, tab_at]
  by_cases hj : j < k
  · rw [if_pos hj, if_pos (by omega), if_pos hj]
  · rw [if_neg hj, if_neg hj]
theorem tab_drop {n k : Nat} {f : Nat → Nat} (h : k ≤ n) : (tab n f).drop k = tab (n - k) (fun j => f (k + j)) := by
  apply List.ext_getElem?
  intro j
  rw [List.getElem?_drop, tab_at, tab_at]
  by_cases hj : j < n - k
  · rw [if_pos (by omega), if_pos hj]
  · rw [if_neg (by omega), if_neg hj]
theorem tab_append {n m : Nat} {f g : Nat → Nat} : tab n f ++ tab m g = tab (n + m) (fun j => if j < n then f j else g (j - n)) := by
  apply List.ext_getElem?
  intro j
  rw [List.getElem?_append, tab_length, tab_at, tab_at, tab_at]
  by_cases hj : j < n
  · rw [if_pos hj, if_pos hj, if_pos (by omega), if_pos hj]
  · rw [if_neg hj, if_neg hj]
    by_cases hj2 : j < n + m
    · rw [if_pos (by omega), if_pos hj2]
    · rw [if_neg (by omega), if_neg hj2]
/-! ### rows of equations -/
def cS (mid : Nat → Nat) (s : Nat) : Nat → Nat
  | 0 => farith .quo .f32 s (mid 0)
  | i + 1 => farith .quo .f32 s (farith .sub .f32 (mid (i + 1)) (farith .mul .f32 s (cS mid s i)))
def dS (l mid : Nat → Nat) (s : Nat) : Nat → Nat
  | 0 => farith .quo .f32 (l 0) (mid 0)
  | i + 1 => farith .quo .f32 (farith .add .f32 (l (i + 1)) (farith .mul .f32 s (dS l mid s i))) (farith .sub .f32 (mid (i + 1)) (farith .mul .f32 s (cS mid s i)))
/-- from behind: k steps before the last -/
def bS (l mid : Nat → Nat) (s n : Nat) : Nat → Nat
  | 0 => dS l mid s (n - 1)
  | k + 1 => farith .add .f32 (dS l mid s (n - 2 - k)) (farith .mul .f32 (cS mid s (n - 2 - k)) (bS l mid s n k))
def xS (l mid : Nat → Nat) (s n i : Nat) : Nat := bS l mid s n (n - 1 - i)
def oneS : Nat := 1065353216
def baseS (s : Nat) : Nat := farith .add .f32 (farith .add .f32 1065353216 s) s
def midS (s n : Nat) (r : Bool) (j : Nat) : Nat :=
  if r = true then (if j = n - 1 then farith .add .f32 (baseS s) (farith .mul .f32 s s) else if j = 0 then farith .add .f32 (baseS s) 1065353216 else baseS s)
  else (if j = n - 1 then farith .add .f32 1065353216 s else if j = 0 then farith .add .f32 1065353216 s else baseS s)
def endS (s n : Nat) (j : Nat) : Nat := if j = n - 1 then fneg .f32 s else if j = 0 then 3212836864 else 0
def byS (l : Nat → Nat) (s n : Nat) : Nat :=
  farith .quo .f32 (farith .add .f32 (xS l (midS s n true) s n 0) (farith .mul .f32 s (xS l (midS s n true) s n (n - 1))))
    (farith .add .f32 (farith .add .f32 1065353216 (xS (endS s n) (midS s n true) s n 0)) (farith .mul .f32 s (xS (endS s n) (midS s n true) s n (n - 1))))
def solS (l : Nat → Nat) (s n : Nat) (r : Bool) (i : Nat) : Nat :=
  if r = true then farith .sub .f32 (xS l (midS s n true) s n i) (farith .mul .f32 (byS l s n) (xS (endS s n) (midS s n true) s n i)) else xS l (midS s n false) s n i
/-! ### what is not finite -/
theorem add_notfinL {x y : Nat} (hx : fin .f32 x = false) : fin .f32 (farith .add .f32 x y) = false := by
  refine notfin_of (o := (single.read x).sum (single.read y)) fun d hd => ?_
  unfold fin at hx
  rw [show FloatKind.decode .f32 x = single.read x from rfl] at hx
  cases hdx : single.read x <;> rw [hdx] at hx hd
  · cases hx
  · cases hdy : single.read y <;> rw [hdy] at hd <;> simp [Datum.sum] at hd
    · exact ⟨_, hd.symm⟩
    · exact ⟨_, hd.2.symm⟩
  · cases hdy : single.read y <;> rw [hdy] at hd <;> simp [Datum.sum] at hd
theorem sub_notfinL {x y : Nat} (hx : fin .f32 x = false) : fin .f32 (farith .sub .f32 x y) = false := by
  refine notfin_of (o := (single.read x).sum (single.read y).opposite) fun d hd => ?_
  unfold fin at hx
  rw [show FloatKind.decode .f32 x = single.read x from rfl] at hx
  cases hdx : single.read x <;> rw [hdx] at hx hd
  · cases hx
  · cases hdy : single.read y <;> rw [hdy] at hd <;> simp [Datum.sum, Datum.opposite] at hd
    · exact ⟨_, hd.symm⟩
    · exact ⟨_, hd.2.symm⟩
  · cases hdy : single.read y <;> rw [hdy] at hd <;> simp [Datum.sum, Datum.opposite] at hd
theorem quo_notfinL {x y : Nat} (hx : fin .f32 x = false) : fin .f32 (farith .quo .f32 x y) = false := by
  refine notfin_of (o := (single.read x).quotient 25 (single.read y)) fun d hd => ?_
  unfold fin at hx
  rw [show FloatKind.decode .f32 x = single.read x from rfl] at hx
  cases hdx : single.read x <;> rw [hdx] at hx hd
  · cases hx
  · cases hdy : single.read y <;> rw [hdy] at hd <;> simp [Datum.quotient] at hd
    exact ⟨_, hd.symm⟩
  · cases hdy : single.read y <;> rw [hdy] at hd <;> simp [Datum.quotient] at hd
theorem d_notfin {l mid : Nat → Nat} {s : Nat} : ∀ {i : Nat}, fin .f32 (l i) = false → fin .f32 (dS l mid s i) = false
  | 0, h => quo_notfinL h
  | i + 1, h => quo_notfinL (add_notfinL h)
theorem x_notfin {l mid : Nat → Nat} {s n i : Nat} (hi : i < n) (h : fin .f32 (l i) = false) : fin .f32 (xS l mid s n i) = false := by
  unfold xS
  by_cases e : i = n - 1
  · subst e
    rw [Nat.sub_self]
    exact d_notfin h
  · obtain ⟨k, hk⟩ : ∃ k, n - 1 - i = k + 1 := ⟨n - 2 - i, by omega⟩
    rw [hk]
    show fin .f32 (farith .add .f32 (dS l mid s (n - 2 - k)) _) = false
    rw [show n - 2 - k = i by omega]
    exact add_notfinL (d_notfin h)
theorem sol_notfin {l : Nat → Nat} {s n i : Nat} {r : Bool} (hi : i < n) (h : fin .f32 (l i) = false) : fin .f32 (solS l s n r i) = false := by
  unfold solS
  split
  · exact sub_notfinL (x_notfin hi h)
  · exact x_notfin hi h
end Go.K
