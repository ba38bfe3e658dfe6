/- Heat that spreads, as the reference has it. -/
import Derived.Test.YtajlojldbmfokaaLX
set_option linter.unusedSimpArgs false
set_option linter.unusedVariables false
set_option maxRecDepth 10000
set_option maxHeartbeats 8000000
namespace Go.K.melts
open Go.K Go

def rowF (q : List Nat) (W y : Nat) (x : Nat) : Nat := q.getD (x + W * y) 0
def R1 (q : List Nat) (s W : Nat) (r : Bool) (k : Nat) : Nat := solS (rowF q W (k / W)) s W r (k % W)
def colF (f : Nat → Nat) (W x : Nat) (y : Nat) : Nat := f (x + W * y)
def R2 (q : List Nat) (s W H : Nat) (r : Bool) (k : Nat) : Nat := solS (colF (R1 q s W r) W (k % W)) s H r (k / W)
section
variable {q : List Nat} {s W H : Nat} {r : Bool} {x y : Nat}
theorem R1_at (hx : x < W) : R1 q s W r (x + W * y) = solS (rowF q W y) s W r x := by
  obtain ⟨a, b⟩ := grid_at (y := y) hx
  unfold R1
  rw [a, b]
theorem R2_at (hx : x < W) : R2 q s W H r (x + W * y) = solS (colF (R1 q s W r) W x) s H r y := by
  obtain ⟨a, b⟩ := grid_at (y := y) hx
  unfold R2
  rw [a, b]
/-- after some rows, and some cells of the next -/
def curR (q : List Nat) (s W H : Nat) (r : Bool) (i : Nat) : List Nat := tab (W * H) (fun k => if k < i then R1 q s W r k else q.getD k 0)
theorem curR_zero (hq : q.length = W * H) : curR q s W H r 0 = q := by
  unfold curR
  have e : tab (W * H) (fun k => if k < 0 then R1 q s W r k else q.getD k 0) = tab (W * H) (fun j => q.getD j 0) := tab_congr fun j _ => if_neg (by omega)
  rw [e, ← hq, ← tab_self]
theorem curR_set {v : Nat} (hx : x < W) (hy : y < H) (hv : v = solS (rowF q W y) s W r x) : (curR q s W H r (W * y + x)).set (W * y + x) v = curR q s W H r (W * y + x + 1) := by
  have hb := wh_lt hx hy
  unfold curR
  refine pre_set (g := R1 q s W r) (z := fun k => q.getD k 0) (by omega) ?_
  rw [hv, Nat.add_comm, R1_at hx]
theorem curR_row (hy : y < H) : ((curR q s W H r (W * y)).drop (W * y)).take W = tab W (rowF q W y) := by
  have hle : W * (y + 1) ≤ W * H := Nat.mul_le_mul_left W hy
  rw [Nat.mul_add, Nat.mul_one] at hle
  unfold curR
  rw [tab_drop (by omega), tab_take (by omega)]
  refine tab_congr fun j hj => ?_
  rw [if_neg (by omega)]
  unfold rowF
  rw [Nat.add_comm]
theorem curR_copy (hy : y < H) : (curR q s W H r (W * y)).take (W * y) ++ tab W (solS (rowF q W y) s W r) ++ (curR q s W H r (W * y)).drop (W * y + W) = curR q s W H r (W * (y + 1)) := by
  have hle : W * (y + 1) ≤ W * H := Nat.mul_le_mul_left W hy
  rw [Nat.mul_add, Nat.mul_one] at hle ⊢
  unfold curR
  rw [tab_take (by omega), tab_drop (by omega), tab_append, tab_append]
  rw [show W * y + W + (W * H - (W * y + W)) = W * H by omega]
  refine tab_congr fun k hk => ?_
  by_cases h1 : k < W * y + W
  · rw [if_pos h1, if_pos h1]
    by_cases h2 : k < W * y
    · rw [if_pos h2, if_pos h2]
    · rw [if_neg h2]
      have e : k = (k - W * y) + W * y := by omega
      have := R1_at (q := q) (s := s) (r := r) (W := W) (y := y) (x := k - W * y) (by omega)
      rw [← e] at this
      rw [this]
  · rw [if_neg h1, if_neg h1, if_neg (by omega)]
    congr 1
    omega
/-- after some columns, and some cells of the next -/
def curC (q : List Nat) (s W H : Nat) (r : Bool) (x y : Nat) : List Nat := tab (W * H) (fun k => if k % W < x ∨ (k % W = x ∧ k / W < y) then R2 q s W H r k else R1 q s W r k)
theorem curC_zero : curC q s W H r 0 0 = curR q s W H r (W * H) := by
  unfold curC curR
  refine tab_congr fun k hk => ?_
  rw [if_pos hk]
  generalize k / W = b
  generalize k % W = a
  rw [if_neg (by omega)]
theorem curC_next (hW : 1 ≤ W) : curC q s W H r x H = curC q s W H r (x + 1) 0 := by
  unfold curC
  refine tab_congr fun k hk => ?_
  have hy : k / W < H := Nat.div_lt_of_lt_mul hk
  generalize k % W = a at *
  generalize k / W = b at *
  by_cases h : a < x + 1
  · rw [if_pos (by omega), if_pos (by omega)]
  · rw [if_neg (by omega), if_neg (by omega)]
theorem curC_end (hW : 1 ≤ W) : curC q s W H r W 0 = tab (W * H) (R2 q s W H r) := by
  unfold curC
  refine tab_congr fun k hk => ?_
  have : k % W < W := Nat.mod_lt _ hW
  rw [if_pos (by omega)]
theorem curC_get (hx : x < W) (hy : y < H) : (curC q s W H r x 0).getD (x + W * y) 0 = colF (R1 q s W r) W x y := by
  have hb := wh_lt hx hy
  obtain ⟨a, b⟩ := grid_at (y := y) hx
  unfold curC
  rw [tab_get hb, a, b, if_neg (by omega)]
  rfl
theorem curC_set {v : Nat} (hx : x < W) (hy : y < H) (hv : v = solS (colF (R1 q s W r) W x) s H r y) : (curC q s W H r x y).set (x + W * y) v = curC q s W H r x (y + 1) := by
  have hb := wh_lt hx hy
  unfold curC
  rw [tab_set hb]
  refine tab_congr fun k hk => ?_
  by_cases e : k = x + W * y
  · subst e
    obtain ⟨a, b⟩ := grid_at (y := y) hx
    rw [if_pos rfl, a, b, if_pos (by omega), R2_at hx, hv]
  · rw [if_neg e]
    have hk2 : k % W + W * (k / W) = k := Nat.mod_add_div k W
    have hne : ¬ (k % W = x ∧ k / W = y) := by
      rintro ⟨h1, h2⟩
      rw [h1, h2] at hk2
      exact e hk2.symm
    generalize k % W = a at *
    generalize k / W = b at *
    by_cases h : a < x ∨ (a = x ∧ b < y)
    · rw [if_pos h, if_pos (by omega)]
    · rw [if_neg h, if_neg (by omega)]
end
theorem spec_long {W : Nat} {r : Bool} (hW : W ≤ 16) {K : Bool → Prop} (hk : K (longB W r)) : spec_l03Long.wp (W : Int) r K := by
  rw [spec_l03Long.eq]
  unfold longB at hk
  refine ifD (by omega) ?_
  by_cases h3 : 3 ≤ W
  · refine ifD (by omega) ?_
    rw [decide_eq_true (show 2 ≤ W by omega), decide_eq_false (show ¬ W < 3 by omega), Bool.and_false] at hk
    exact hk
  · refine ifN (by omega) ?_
    by_cases h2 : W = 2
    · subst h2
      refine ifT (by decide) ?_
      cases r <;> exact hk
    · refine ifF (by rw [beq_eq_false_iff_ne]; omega) ?_
      rw [decide_eq_false (show ¬ 2 ≤ W by omega), Bool.false_and] at hk
      exact hk
section
variable (m : Melt) (t : Nat)
def shV : Nat := farith .mul .f32 t m.b
def spC : Bool := isM m && (mass t && (mass (shV m t) && (longB m.w2.toNat m.r2 && longB m.h2.toNat m.r2)))
def spL : List Nat := tab (m.w2.toNat * m.h2.toNat) (R2 m.q (shV m t) m.w2.toNat m.h2.toNat m.r2)
def spM : Melt := ⟨m.p, spL m t, m.w1, m.h1, m.r1, m.w2, m.h2, m.r2, m.a, m.b, m.c, m.d, m.e, m.n⟩
def spB : Bool := spC m t && (spL m t).all (fin .f32)
def spR : Melt := if spB m t = true then spM m t else zeroM
end
/-- what is known of a valid melt -/
structure Heat (m : Melt) (W H : Nat) : Prop where
  w2 : m.w2 = (W : Int)
  h2 : m.h2 = (H : Int)
  lw : 1 ≤ W
  lh : 1 ≤ H
  w16 : W ≤ 16
  h16 : H ≤ 16
  q : m.q.length = W * H
  p : m.p.length = W * H
  fin : m.q.all (fin .f32) = true
theorem heat_of {m : Melt} (hv : isM m = true) : ∃ W H : Nat, Heat m W H := by
  have hv' := hv
  unfold isM at hv'
  simp only [Bool.and_eq_true, beq_iff_eq] at hv'
  obtain ⟨f1, f2, e1, e2, _, ⟨_, hq⟩, _⟩ := hv'
  have hlen := same_len f1 f2 e1 e2
  obtain ⟨W, H, a1, a2, b1, c1, b2, c2, _, a3⟩ := field_nat f2
  exact ⟨W, H, ⟨a1, a2, b1, b2, c1, c2, a3, by omega, hq⟩⟩
section
variable {m : Melt} {t W H : Nat}
theorem spL_eq (g : Heat m W H) : spL m t = tab (W * H) (R2 m.q (shV m t) W H m.r2) := by
  unfold spL
  rw [g.w2, g.h2, Int.toNat_natCast, Int.toNat_natCast]
theorem spM_is (hv : isM m = true) (g : Heat m W H) : isM (spM m t) = (spL m t).all (fin .f32) := by
  have hl : (spL m t).length = m.q.length := by rw [spL_eq g, tab_length, g.q]
  unfold isM fieldB at hv ⊢
  simp only [Bool.and_eq_true] at hv
  obtain ⟨⟨f1, f1'⟩, ⟨f2, f2'⟩, e1, e2, e3, ⟨hp, hq⟩, ht⟩ := hv
  unfold tailB at ht ⊢
  show ((sizeB m.w1 m.h1 && ((m.p.length : Int) == Go.IntKind.wrap .i64 (m.w1 * m.h1))) && ((sizeB m.w2 m.h2 && (((spL m t).length : Int) == Go.IntKind.wrap .i64 (m.w2 * m.h2))) && ((m.w1 == m.w2) && ((m.h1 == m.h2) && ((m.r1 == m.r2) && ((m.p.all phB && (spL m t).all (Go.K.fin .f32)) && (mass m.a && (mass m.b && (mass m.c && (mass m.d && (fge .f32 m.e 0 && (flt .f32 m.e 1065353216 && inB m.n 1 8)))))))))))) = _
  rw [hl, f1, f1', f2, f2', e1, e2, e3, hp, ht]
  simp
theorem spM_small (g : Heat m W H) : Small (spM m t) := by
  have hwh : W * H ≤ 256 := Nat.mul_le_mul g.w16 g.h16
  refine ⟨?_, ?_⟩
  · show m.p.length ≤ 1048576
    rw [g.p]; omega
  · show (spL m t).length ≤ 1048576
    rw [spL_eq g, tab_length]; omega
theorem spR_small (hs : Small m) : Small (spR m t) := by
  unfold spR
  split
  · rename_i hb
    unfold spB spC at hb
    simp only [Bool.and_eq_true] at hb
    obtain ⟨W, H, g⟩ := heat_of hb.1.1
    exact spM_small g
  · exact small_zero
abbrev zK (K : MK) : Prop := K [] [] (0 : Int) (0 : Int) false (0 : Int) (0 : Int) false (0 : Nat) (0 : Nat) (0 : Nat) (0 : Nat) (0 : Nat) (0 : Int) false
theorem spec_Spread (hs : Small m) {K : MK} (hk : K (spR m t).p (spR m t).q (spR m t).w1 (spR m t).h1 (spR m t).r1 (spR m t).w2 (spR m t).h2 (spR m t).r2 (spR m t).a (spR m t).b (spR m t).c (spR m t).d (spR m t).e (spR m t).n (spB m t)) :
    spec_SpreadHeat.wp m.p m.q m.w1 m.h1 m.r1 m.w2 m.h2 m.r2 m.a m.b m.c m.d m.e m.n t K := by
  rw [spec_SpreadHeat.eq]
  refine spec_is m hs ?_
  unfold spR spB spC at hk
  cases hv : isM m
  · simp only [hv, Bool.false_and, Bool.false_eq_true, if_false] at hk; exact ifT rfl hk
  refine ifF rfl (spec_mass ?_)
  cases ht : mass t
  · simp only [ht, Bool.false_and, Bool.and_false, Bool.false_eq_true, if_false] at hk; exact ifT rfl hk
  refine ifF rfl (spec_mass ?_)
  change ifB (!mass (shV m t)) _ _
  cases hsh : mass (shV m t)
  · simp only [hsh, Bool.false_and, Bool.and_false, Bool.false_eq_true, if_false] at hk; exact ifT rfl hk
  refine ifF rfl ?_
  obtain ⟨W, H, g⟩ := heat_of hv
  have w16 := g.w16
  have h16 := g.h16
  have lw := g.lw
  have lh := g.lh
  have hwh : W * H ≤ 256 := Nat.mul_le_mul w16 h16
  simp only [hv, ht, hsh, Bool.true_and] at hk
  rw [g.w2, g.h2, Int.toNat_natCast, Int.toNat_natCast] at hk
  rw [g.w2, g.h2]
  refine spec_long w16 ?_
  cases hlw : longB W m.r2
  · simp only [hlw, Bool.false_and, Bool.false_eq_true, if_false] at hk; exact ifT rfl hk
  refine ifF rfl (spec_long h16 ?_)
  cases hlh : longB H m.r2
  · simp only [hlh, Bool.false_and, Bool.and_false, Bool.false_eq_true, if_false] at hk; exact ifT rfl hk
  simp only [hlw, hlh, Bool.true_and] at hk
  refine ifF rfl ?_
  have own := own_ok m hs (K := fun y6 y7 y8 y9 y10 y11 y12 y13 y14 y15 y16 y17 y18 y19 => True) trivial
  clear own
  have hW2 : 2 ≤ W := by
    unfold longB at hlw
    rw [Bool.and_eq_true, decide_eq_true_eq] at hlw
    exact hlw.1
  have hH2 : 2 ≤ H := by
    unfold longB at hlh
    rw [Bool.and_eq_true, decide_eq_true_eq] at hlh
    exact hlh.1
  rw [← g.w2, ← g.h2]
  refine own_ok m hs ?_
  rw [g.w2, g.h2]
  change ∀ _, _ → _
  intro J hJ
  have rows := down (Q := fun y => J m.w1 m.h1 m.r1 (W : Int) (H : Int) m.r2 m.a m.b m.c m.d m.e m.n 0 0 false 0 0 false 0 0 0 0 0 0 m.w1 m.h1 m.r1 (W : Int) (H : Int) m.r2 m.a m.b m.c m.d m.e m.n [] [] m.p (curR m.q (shV m t) W H m.r2 (W * y)) (shV m t) (W : Int) (H : Int) (y : Int)) (n := H) ?_ ?_ 0 (Nat.zero_le _)
  · rw [Nat.mul_zero, curR_zero g.q] at rows
    exact rows
  · refine hJ _ _ _ _ _ _ _ _ _ _ _ _ _ _ _ _ _ _ _ _ _ _ _ _ _ _ _ _ _ _ _ _ _ _ _ _ _ _ _ _ _ _ _ _ (ifN (by omega) ?_)
    intro JC hJC
    have cols := down (Q := fun x => JC m.w1 m.h1 m.r1 (W : Int) (H : Int) m.r2 m.a m.b m.c m.d m.e m.n 0 0 false 0 0 false 0 0 0 0 0 0 m.w1 m.h1 m.r1 (W : Int) (H : Int) m.r2 m.a m.b m.c m.d m.e m.n [] [] m.p (curC m.q (shV m t) W H m.r2 x 0) (shV m t) (W : Int) (H : Int) (x : Int)) (n := W) ?_ ?_ 0 (Nat.zero_le _)
    · rw [curC_zero] at cols
      exact cols
    · refine hJC _ _ _ _ _ _ _ _ _ _ _ _ _ _ _ _ _ _ _ _ _ _ _ _ _ _ _ _ _ _ _ _ _ _ _ _ _ _ _ _ _ _ _ _ (ifN (by omega) ?_)
      have e : curC m.q (shV m t) W H m.r2 W 0 = spL m t := by rw [curC_end lw, spL_eq g]
      rw [e, ← g.w2, ← g.h2]
      refine give_ok (spM m t) (spM_small g) ?_
      have hi := spM_is (t := t) hv g
      rw [hi]
      unfold okM
      rw [hi]
      cases hf : (spL m t).all (fin .f32)
      · rw [hf] at hk
        simp only [Bool.false_eq_true, if_false] at hk ⊢
        exact hk
      · rw [hf] at hk
        simp only [if_true] at hk ⊢
        exact hk
    · intro x hx ihx
      refine hJC _ _ _ _ _ _ _ _ _ _ _ _ _ _ _ _ _ _ _ _ _ _ _ _ _ _ _ _ _ _ _ _ _ _ _ _ _ _ _ _ _ _ _ _ (ifD (by omega) ?_)
      intro JA hJA
      have gather := down (Q := fun y => JA m.w1 m.h1 m.r1 (W : Int) (H : Int) m.r2 m.a m.b m.c m.d m.e m.n 0 0 false 0 0 false 0 0 0 0 0 0 m.w1 m.h1 m.r1 (W : Int) (H : Int) m.r2 m.a m.b m.c m.d m.e m.n (tab y (colF (R1 m.q (shV m t) W m.r2) W x)) [] [] m.p (curC m.q (shV m t) W H m.r2 x 0) (shV m t) (W : Int) (H : Int) (x : Int) (y : Int)) (n := H) ?_ ?_ 0 (Nat.zero_le _)
      · exact gather
      · refine hJA _ _ _ _ _ _ _ _ _ _ _ _ _ _ _ _ _ _ _ _ _ _ _ _ _ _ _ _ _ _ _ _ _ _ _ _ _ _ _ _ _ _ _ _ _ _ (ifN (by omega) ?_)
        refine spec_row hH2 (by omega) ?_
        intro JB hJB
        have put := down (Q := fun y => JB m.w1 m.h1 m.r1 (W : Int) (H : Int) m.r2 m.a m.b m.c m.d m.e m.n 0 0 false 0 0 false 0 0 0 0 0 0 m.w1 m.h1 m.r1 (W : Int) (H : Int) m.r2 m.a m.b m.c m.d m.e m.n (tab H (solS (colF (R1 m.q (shV m t) W m.r2) W x) (shV m t) H m.r2)) [] [] m.p (curC m.q (shV m t) W H m.r2 x y) (shV m t) (W : Int) (H : Int) (x : Int) (y : Int)) (n := H) ?_ ?_ 0 (Nat.zero_le _)
        · exact put
        · refine hJB _ _ _ _ _ _ _ _ _ _ _ _ _ _ _ _ _ _ _ _ _ _ _ _ _ _ _ _ _ _ _ _ _ _ _ _ _ _ _ _ _ _ _ _ _ _ (ifN (by omega) ?_)
          rw [curC_next lw, wrap_succ (by omega)]
          exact ihx
        · intro y hy ihy
          have hb := wh_lt hx hy
          refine hJB _ _ _ _ _ _ _ _ _ _ _ _ _ _ _ _ _ _ _ _ _ _ _ _ _ _ _ _ _ _ _ _ _ _ _ _ _ _ _ _ _ _ _ _ _ _ (ifD (by omega) ?_)
          have ei : Go.IntKind.wrap .i64 (Go.IntKind.wrap .i64 ((y : Int) * (W : Int)) + (x : Int)) = ((x + W * y : Nat) : Int) := by
            rw [← Int.natCast_mul, Nat.mul_comm y W, wrap_nat (by omega), ← Int.natCast_add, wrap_nat (by omega), Nat.add_comm]
          have hlen : (curC m.q (shV m t) W H m.r2 x y).length = W * H := tab_length _ _
          rw [ei, tab_length, hlen, Int.toNat_natCast, Int.toNat_natCast, tab_get hy, curC_set hx hy rfl, wrap_succ (by omega)]
          exact ⟨⟨by omega, by omega⟩, ⟨by omega, by omega⟩, ihy⟩
      · intro y hy ihy
        have hb := wh_lt hx hy
        refine hJA _ _ _ _ _ _ _ _ _ _ _ _ _ _ _ _ _ _ _ _ _ _ _ _ _ _ _ _ _ _ _ _ _ _ _ _ _ _ _ _ _ _ _ _ _ _ (ifD (by omega) ?_)
        have ei : Go.IntKind.wrap .i64 (Go.IntKind.wrap .i64 ((y : Int) * (W : Int)) + (x : Int)) = ((x + W * y : Nat) : Int) := by
          rw [← Int.natCast_mul, Nat.mul_comm y W, wrap_nat (by omega), ← Int.natCast_add, wrap_nat (by omega), Nat.add_comm]
        have hlen : (curC m.q (shV m t) W H m.r2 x 0).length = W * H := tab_length _ _
        rw [ei, hlen, Int.toNat_natCast, curC_get hx hy, tab_snoc (f := colF (R1 m.q (shV m t) W m.r2) W x) rfl, tab_length, wrap_succ (by omega)]
        exact ⟨⟨by omega, by omega⟩, by omega, ihy⟩
  · intro y hy ih
    refine hJ _ _ _ _ _ _ _ _ _ _ _ _ _ _ _ _ _ _ _ _ _ _ _ _ _ _ _ _ _ _ _ _ _ _ _ _ _ _ _ _ _ _ _ _ (ifD (by omega) ?_)
    have hle : W * (y + 1) ≤ W * H := Nat.mul_le_mul_left W hy
    rw [Nat.mul_add, Nat.mul_one] at hle
    have e1 : Go.IntKind.wrap .i64 ((y : Int) * (W : Int)) = ((W * y : Nat) : Int) := by
      rw [← Int.natCast_mul, Nat.mul_comm y W, wrap_nat (by omega)]
    have e2 : Go.IntKind.wrap .i64 (((W * y : Nat) : Int) + (W : Int)) = ((W * y + W : Nat) : Int) := by
      rw [← Int.natCast_add, wrap_nat (by omega)]
    have hlen : (curR m.q (shV m t) W H m.r2 (W * y)).length = W * H := tab_length _ _
    rw [e1, e2, hlen, Int.toNat_natCast, Int.toNat_natCast, show W * y + W - W * y = W by omega, curR_row hy]
    refine ⟨⟨by omega, by omega, by omega⟩, by simp [tab_length]; omega, ?_⟩
    refine spec_row hW2 (by omega) ?_
    intro JB hJB
    have put := down (Q := fun x => JB m.w1 m.h1 m.r1 (W : Int) (H : Int) m.r2 m.a m.b m.c m.d m.e m.n 0 0 false 0 0 false 0 0 0 0 0 0 m.w1 m.h1 m.r1 (W : Int) (H : Int) m.r2 m.a m.b m.c m.d m.e m.n (tab W (solS (rowF m.q W y) (shV m t) W m.r2)) [] [] m.p (curR m.q (shV m t) W H m.r2 (W * y + x)) (shV m t) (W : Int) (H : Int) (y : Int) (x : Int)) (n := W) ?_ ?_ 0 (Nat.zero_le _)
    · exact put
    · refine hJB _ _ _ _ _ _ _ _ _ _ _ _ _ _ _ _ _ _ _ _ _ _ _ _ _ _ _ _ _ _ _ _ _ _ _ _ _ _ _ _ _ _ _ _ _ _ (ifN (by omega) ?_)
      rw [wrap_succ (by omega), show W * y + W = W * (y + 1) by rw [Nat.mul_add, Nat.mul_one]]
      exact ih
    · intro x hx ihx
      refine hJB _ _ _ _ _ _ _ _ _ _ _ _ _ _ _ _ _ _ _ _ _ _ _ _ _ _ _ _ _ _ _ _ _ _ _ _ _ _ _ _ _ _ _ _ _ _ (ifD (by omega) ?_)
      have ei : Go.IntKind.wrap .i64 (Go.IntKind.wrap .i64 ((y : Int) * (W : Int)) + (x : Int)) = ((W * y + x : Nat) : Int) := by
        rw [← Int.natCast_mul, Nat.mul_comm y W, wrap_nat (by omega), ← Int.natCast_add, wrap_nat (by omega)]
      have hlen : (curR m.q (shV m t) W H m.r2 (W * y + x)).length = W * H := tab_length _ _
      rw [ei, tab_length, hlen, Int.toNat_natCast, Int.toNat_natCast, tab_get hx, curR_set hx hy rfl, wrap_succ (by omega)]
      exact ⟨⟨by omega, by omega⟩, ⟨by omega, by omega⟩, ihx⟩
end
end Go.K.melts
