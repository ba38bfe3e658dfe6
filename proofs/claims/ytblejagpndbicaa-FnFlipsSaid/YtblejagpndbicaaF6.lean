/- Floats: what is between, what is not finite. -/
import Derived.Test.YtblejagpndbicaaF5
set_option linter.unusedSimpArgs false
set_option linter.unusedVariables false
set_option maxRecDepth 10000
namespace Go.K
open Ieee

theorem order_none {a b : Datum} (h : a.order b = none) : a.isNaN = true ∨ b.isNaN = true := by
  cases a <;> cases b <;> simp [Datum.order, Datum.isNaN] at h ⊢
theorem forder_none {k : FloatKind} {x y : Nat} (h : forder k x y = none) : isNaNW k x = true ∨ isNaNW k y = true := order_none h
theorem notNaN_of_fge {k : FloatKind} {x y : Nat} (h : fge k x y = true) : isNaNW k x = false := by
  cases hx : isNaNW k x
  · rfl
  · unfold fge at h; rw [forder_nan_left hx] at h; cases h
theorem one32_notNaN : isNaNW .f32 1065353216 = false := by decide
theorem not_fgt {x : Nat} (h : fge .f32 x 0 = true) : (!fgt .f32 x 1065353216) = fle .f32 x 1065353216 := by
  have hx := notNaN_of_fge h
  unfold fgt fle
  cases ho : forder .f32 x 1065353216 with
  | none =>
    rcases forder_none ho with h | h
    · rw [hx] at h; cases h
    · rw [one32_notNaN] at h; cases h
  | some o => cases o <;> rfl

/-- nothing finite comes of a number less what is not finite -/
theorem sub_notfin {x y : Nat} (hx : fin .f32 x = true) (hy : fin .f32 y = false) : fin .f32 (farith .sub .f32 x y) = false := by
  unfold fin at hx hy
  cases hdx : FloatKind.decode .f32 x <;> simp [hdx] at hx
  rename_i s m i
  have ex : single.read x = .number s m i := hdx
  cases hdy : FloatKind.decode .f32 y <;> simp [hdy] at hy
  · rename_i t
    have ey : single.read y = .infinity t := hdy
    have : farith .sub .f32 x y = FloatKind.encode .f32 (.infinity (!t)) := by
      unfold farith
      have : floatBits .sub .f32 x y = some (FloatKind.encode .f32 (.infinity (!t))) := by
        simp only [floatBits, Format.sub, show FloatKind.format .f32 = single from rfl, ex, ey, Datum.opposite, Datum.sum]
        rfl
      rw [this]; rfl
    rw [this]
    unfold fin
    rw [read_inf .f32]
  · rename_i t u
    have : floatBits .sub .f32 x y = none := floatBits_nan_right _ (by simp [isNaNW, hdy, Datum.isNaN])
    unfold farith
    rw [this]
    decide

theorem all_range {α : Type} (l : List α) (d : α) (f : α → Bool) : (List.range l.length).all (fun i => f (l.getD i d)) = l.all f := by
  have := marked_getD_self l d
  conv => rhs; rw [← this]
  simp [marked, List.all_map]
  rfl
theorem all_and {α : Type} (l : List α) (f g : α → Bool) : (l.all fun x => f x && g x) = (l.all f && l.all g) := by
  induction l with
  | nil => rfl
  | cons a l ih => simp only [List.all_cons, ih]; cases f a <;> cases g a <;> simp
end Go.K
