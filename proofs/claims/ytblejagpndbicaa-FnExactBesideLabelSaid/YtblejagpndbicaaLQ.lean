/- What lies beside a label. -/
import Derived.Test.YtblejagpndbicaaLP
set_option linter.unusedSimpArgs false
set_option linter.unusedVariables false
set_option maxRecDepth 10000
set_option maxHeartbeats 2000000
namespace Go.K.grains
open Go.K Go

/-- the four cells beside a cell -/
def sideL (W H x y : Nat) : List Int := [(cellN W H ((x : Int) - 1) y : Int), (cellN W H ((x : Int) + 1) y : Int), (cellN W H x ((y : Int) - 1) : Int), (cellN W H x ((y : Int) + 1) : Int)]
def sideG (l : List Int) (W H x y : Nat) : List Int := [atG l W H ((x : Int) - 1) y, atG l W H ((x : Int) + 1) y, atG l W H x ((y : Int) - 1), atG l W H x ((y : Int) + 1)]
section
variable {l : List Int} {W H : Nat}
theorem spec_beside (g : Geo l W H) {x y i : Nat} (hx : x < W) (hy : y < H) (hm : i % W = x) (hd : i / W = y) {K : List Int → Prop} (hk : K (sideL W H x y)) : spec_l04Beside.wp (W : Int) (H : Int) l (i : Int) K := by
  have g1 := g.w1
  have g2 := g.w16
  have g3 := g.h1
  have g4 := g.h16
  have hwh := g.wh
  rw [spec_l04Beside.eq, tdiv_nat, tmod_nat, hm, hd]
  have ey : Go.IntKind.wrap .i64 (y : Int) = (y : Int) := wrap_nat (by omega)
  have e1 : Go.IntKind.wrap .i64 ((x : Int) + 1) = (x : Int) + 1 := wrap64 (by omega) (by omega)
  have e2 : Go.IntKind.wrap .i64 ((x : Int) - 1) = (x : Int) - 1 := wrap64 (by omega) (by omega)
  have e3 : Go.IntKind.wrap .i64 ((y : Int) + 1) = (y : Int) + 1 := wrap64 (by omega) (by omega)
  have e4 : Go.IntKind.wrap .i64 ((y : Int) - 1) = (y : Int) - 1 := wrap64 (by omega) (by omega)
  rw [ey, e1, e2, e3, e4]
  have idx : ∀ a b : Int, Go.IntKind.wrap .i64 ((pl W a : Int) + Go.IntKind.wrap .i64 ((W : Int) * (pl H b : Int))) = (cellN W H a b : Int) := fun a b => (idx_ok g (x := a) (y := b)).1
  refine ⟨by omega, by omega, ?_⟩
  rw [spec_l02Place.eq]
  refine ifT rfl ⟨by omega, by omega, ?_⟩
  rw [spec_l02Place.eq]
  refine ifT rfl ⟨by omega, by omega, ?_⟩
  rw [spec_l02Place.eq]
  refine ifT rfl ⟨by omega, by omega, ?_⟩
  rw [spec_l02Place.eq]
  refine ifT rfl ⟨by omega, by omega, ?_⟩
  rw [pl_eq1 g1 (by omega) (by omega) (by omega), pl_eq1 g1 (by omega) (by omega) (by omega), pl_eq1 g3 (by omega) (by omega) (by omega), pl_eq1 g3 (by omega) (by omega) (by omega)]
  have i1 := idx ((x : Int) - 1) y
  have i2 := idx ((x : Int) + 1) y
  have i3 := idx x ((y : Int) - 1)
  have i4 := idx x ((y : Int) + 1)
  rw [pl_self hy] at i1 i2
  rw [pl_self hx] at i3 i4
  rw [i1, i2, i3, i4]
  exact hk
/-- the labels that were met beside the label a, in the first i cells -/
def nearU (l : List Int) (W H : Nat) (a : Int) : Nat → List Int
  | 0 => []
  | i + 1 => if (l.getD i 0 == a) = true then nearU l W H a i ++ sideG l W H (i % W) (i / W) else nearU l W H a i
theorem nearU_len (l : List Int) (W H : Nat) (a : Int) : ∀ i, (nearU l W H a i).length ≤ 4 * i
  | 0 => by simp [nearU]
  | i + 1 => by
    have := nearU_len l W H a i
    unfold nearU
    split
    · rw [List.length_append]; simp [sideG]; omega
    · omega
theorem nearU_lab (g : Geo l W H) (a : Int) : ∀ i v, v ∈ nearU l W H a i → 0 ≤ v ∧ v < 64
  | 0, v, h => by simp [nearU] at h
  | i + 1, v, h => by
    unfold nearU at h
    split at h
    · rw [List.mem_append] at h
      rcases h with h | h
      · exact nearU_lab g a i v h
      · simp only [sideG, List.mem_cons, List.not_mem_nil, or_false] at h
        rcases h with h | h | h | h <;> (rw [h]; exact g.lab _ (atG_mem g _ _))
    · exact nearU_lab g a i v h
/-- which labels were seen -/
def seenL (m : List Int) : List Bool := (List.range 64).map fun k : Nat => m.contains (k : Int)
theorem seenL_length (m : List Int) : (seenL m).length = 64 := by simp [seenL]
theorem seenL_get {m : List Int} {k : Nat} (h : k < 64) : (seenL m).getD k false = m.contains (k : Int) := by
  simp [seenL, List.getD, h]
theorem seenL_set {m : List Int} {k : Nat} (h : k < 64) : (seenL m).set k true = seenL (m ++ [(k : Int)]) := by
  apply List.ext_getElem?
  intro j
  rw [List.getElem?_set, seenL_length]
  by_cases hj : j < 64
  · have e1 : (seenL m)[j]? = some (m.contains (j : Int)) := by simp [seenL, hj]
    have e2 : (seenL (m ++ [(k : Int)]))[j]? = some ((m ++ [(k : Int)]).contains (j : Int)) := by simp [seenL, hj]
    rw [e1, e2]
    by_cases hk : k = j
    · subst hk
      rw [if_pos rfl, if_pos h]
      simp
    · rw [if_neg hk]
      have : ((j : Int) == (k : Int)) = false := by rw [beq_eq_false_iff_ne]; omega
      simp [List.contains_eq_any_beq, List.any_append, this]
      omega
  · have e1 : (seenL m)[j]? = none := by rw [List.getElem?_eq_none]; rw [seenL_length]; omega
    have e2 : (seenL (m ++ [(k : Int)]))[j]? = none := by rw [List.getElem?_eq_none]; rw [seenL_length]; omega
    rw [e1, e2]
    split
    · exfalso; omega
    · rfl
/-- the seen ones, but for a -/
def outN (m : List Int) (a : Int) (k : Nat) : List Int := ((List.range k).filter fun j : Nat => m.contains (j : Int) && ((j : Int) != a)).map fun j : Nat => (j : Int)
theorem outN_succ (m : List Int) (a : Int) (k : Nat) : outN m a (k + 1) = if (m.contains (k : Int) && ((k : Int) != a)) = true then outN m a k ++ [(k : Int)] else outN m a k := by
  unfold outN
  rw [List.range_succ, List.filter_append, List.map_append]
  cases h : (m.contains (k : Int) && ((k : Int) != a))
  · simp only [List.filter_cons, List.filter_nil, h, Bool.false_eq_true, if_false, List.map_nil, List.append_nil]
  · simp only [List.filter_cons, List.filter_nil, h, if_true, List.map_cons, List.map_nil]
theorem outN_len (m : List Int) (a : Int) (k : Nat) : (outN m a k).length ≤ k := by
  unfold outN
  rw [List.length_map]
  refine Nat.le_trans (List.length_filter_le _ _) ?_
  simp
/-- what the program gathers: those that are not a -/
theorem out_set {m : List Int} {a : Int} (hm : ∀ v, v ∈ m → 0 ≤ v ∧ v < 64) : setZ (m.filter fun v => v != a) = outN m a 64 := by
  refine rising_one (setZ_sorted _) ?_ fun x => ?_
  · unfold outN
    rw [List.pairwise_map]
    exact ((List.pairwise_lt_range (n := 64)).filter _).imp fun h => by omega
  · rw [setZ_mem]
    unfold outN
    simp only [List.mem_filter, List.mem_map, List.mem_range, Bool.and_eq_true, List.contains_iff_mem]
    constructor
    · rintro ⟨h1, h2⟩
      obtain ⟨h3, h4⟩ := hm x h1
      refine ⟨x.toNat, ⟨by omega, ?_⟩, by omega⟩
      rw [Int.toNat_of_nonneg h3]
      exact ⟨h1, h2⟩
    · rintro ⟨j, ⟨_, h1, h2⟩, rfl⟩
      exact ⟨h1, h2⟩
end
section
variable (l : List Int) (w h a : Int)
def besB : Bool := validG l w h && inB a 0 63
def besL : List Int := if besB l w h a = true then outN (nearU l w.toNat h.toNat a (w.toNat * h.toNat)) a 64 else []
theorem bes_small : (besL l w h a).length ≤ 1099511627776 := by
  unfold besL
  split
  · exact Nat.le_trans (outN_len _ _ _) (by decide)
  · simp
end
section
variable {l : List Int} {w h a : Int}
theorem spec_Bes (hl : l.length ≤ 1099511627776) {K : List Int → Bool → Prop} (hk : K (besL l w h a) (besB l w h a)) : spec_BesideLabel.wp l w h a K := by
  rw [spec_BesideLabel.eq]
  refine spec_is hl ?_
  unfold besL besB at hk
  cases hv : validG l w h
  · simp only [hv, Bool.false_and, Bool.false_eq_true, if_false] at hk; exact ifT rfl hk
  refine ifF rfl ?_
  rw [spec_l04Label.eq]
  refine spec_in ?_
  cases ha : inB a 0 63
  · simp only [ha, Bool.and_false, Bool.false_eq_true, if_false] at hk; exact ifT rfl hk
  simp only [hv, ha, Bool.true_and, if_true] at hk
  obtain ⟨W, H, rfl, rfl, g⟩ := valid_nat hv
  rw [Int.toNat_natCast, Int.toNat_natCast] at hk
  have g1 := g.w1
  have g2 := g.w16
  have g4 := g.h16
  have hwh := g.wh
  have hlen := g.len
  have enn : Go.IntKind.wrap .i64 ((W : Int) * (H : Int)) = ((W * H : Nat) : Int) := by rw [← Int.natCast_mul, wrap_nat (by omega)]
  refine ifF rfl ⟨⟨by decide, by decide, by decide⟩, ?_⟩
  intro J hJ
  have start : List.replicate (Int.toNat 64) false = seenL (nearU l W H a 0) := by
    have : nearU l W H a 0 = [] := rfl
    rw [this]
    decide
  rw [start]
  refine down (Q := fun i => J (W : Int) (H : Int) (seenL (nearU l W H a i)) (i : Int)) (n := W * H) (hJ _ _ _ _ ?_) (fun i hi ih => hJ _ _ _ _ ?_) 0 (Nat.zero_le _)
  · rw [enn]
    refine ifN (by omega) ?_
    generalize nearU l W H a (W * H) = m at *
    intro J2 hJ2
    refine down (Q := fun k => J2 (seenL m) (outN m a k) (k : Int)) (n := 64) (hJ2 _ _ _ (ifN (by omega) hk)) (fun k hk64 ihk => hJ2 _ _ _ (ifD (by omega) ?_)) 0 (Nat.zero_le _)
    rw [outN_succ] at ihk
    rw [seenL_length, Int.toNat_natCast, seenL_get hk64, wrap_succ (by omega)]
    have hol := outN_len m a k
    refine ⟨⟨by omega, by omega⟩, ifB_of (fun e1 => ifB_of (fun e2 => ?_) (fun e2 => ?_)) (fun e1 => ?_)⟩
    · rw [if_pos (by rw [e1, e2]; rfl)] at ihk
      exact ⟨by simp; omega, ihk⟩
    · rw [if_neg (by rw [e1, e2]; decide)] at ihk; exact ihk
    · rw [if_neg (by rw [e1]; simp)] at ihk; exact ihk
  · rw [enn]
    have hx : i % W < W := Nat.mod_lt _ (by omega)
    have hy : i / W < H := Nat.div_lt_of_lt_mul hi
    refine ifD (by omega) (spec_beside g hx hy rfl rfl ?_)
    have hst : nearU l W H a (i + 1) = if (l.getD i 0 == a) = true then nearU l W H a i ++ sideG l W H (i % W) (i / W) else nearU l W H a i := rfl
    rw [hst] at ih
    have hc1 := (idx_ok g (x := ((i % W : Nat) : Int) - 1) (y := ((i / W : Nat) : Int))).2
    have hc2 := (idx_ok g (x := ((i % W : Nat) : Int) + 1) (y := ((i / W : Nat) : Int))).2
    have hc3 := (idx_ok g (x := ((i % W : Nat) : Int)) (y := ((i / W : Nat) : Int) - 1)).2
    have hc4 := (idx_ok g (x := ((i % W : Nat) : Int)) (y := ((i / W : Nat) : Int) + 1)).2
    have hl1 := g.lab _ (atG_mem g (((i % W : Nat) : Int) - 1) ((i / W : Nat) : Int))
    have hl2 := g.lab _ (atG_mem g (((i % W : Nat) : Int) + 1) ((i / W : Nat) : Int))
    have hl3 := g.lab _ (atG_mem g ((i % W : Nat) : Int) (((i / W : Nat) : Int) - 1))
    have hl4 := g.lab _ (atG_mem g ((i % W : Nat) : Int) (((i / W : Nat) : Int) + 1))
    generalize i % W = x at *
    generalize i / W = y at *
    generalize nearU l W H a i = m at *
    intro J2 hJ2
    cases hown : (l.getD i 0 == a)
    · rw [hown, if_neg (by decide)] at ih
      refine hJ2 _ _ _ _ _ _ (ifD (by omega) ⟨⟨by omega, by omega⟩, ?_⟩)
      rw [Int.toNat_natCast, hown, wrap_succ (i := i) (by omega)]
      exact ifF rfl ih
    · rw [hown, if_pos rfl] at ih
      -- four cells
      have step : ∀ (k : Nat) (mm : List Int) (c : Nat), k < 4 → (sideL W H x y).getD k 0 = (c : Int) → c < l.length → 0 ≤ l.getD c 0 ∧ l.getD c 0 < 64 → J2 (W : Int) (H : Int) (seenL (mm ++ [l.getD c 0])) (sideL W H x y) (i : Int) ((k + 1 : Nat) : Int) → J2 (W : Int) (H : Int) (seenL mm) (sideL W H x y) (i : Int) (k : Int) := by
        intro k mm c hk4 hc hcl hlab hnext
        have h4 : (sideL W H x y).length = 4 := rfl
        refine hJ2 _ _ _ _ _ _ (ifD (by omega) ⟨⟨by omega, by omega⟩, ?_⟩)
        rw [Int.toNat_natCast, hown]
        refine ifT rfl ?_
        rw [Int.toNat_natCast, hc, Int.toNat_natCast, seenL_length]
        obtain ⟨v, hv⟩ : ∃ v : Nat, l.getD c 0 = (v : Int) := ⟨(l.getD c 0).toNat, by omega⟩
        rw [hv] at hnext hlab ⊢
        rw [Int.toNat_natCast, seenL_set (by omega), wrap_succ (by omega)]
        exact ⟨⟨by omega, by omega⟩, ⟨by omega, by omega⟩, ⟨by omega, by omega⟩, hnext⟩
      refine step 0 m _ (by decide) rfl hc1 hl1 (step 1 _ _ (by decide) rfl hc2 hl2 (step 2 _ _ (by decide) rfl hc3 hl3 (step 3 _ _ (by decide) rfl hc4 hl4 ?_)))
      refine hJ2 _ _ _ _ _ _ (ifN (by decide) ?_)
      rw [wrap_succ (i := i) (by omega)]
      have e : m ++ [l.getD (cellN W H ((x : Int) - 1) y) 0] ++ [l.getD (cellN W H ((x : Int) + 1) y) 0] ++ [l.getD (cellN W H (x : Int) ((y : Int) - 1)) 0] ++ [l.getD (cellN W H (x : Int) ((y : Int) + 1)) 0] = m ++ sideG l W H x y := by
        simp [sideG, atG]
      rw [e]
      exact ih
theorem impl_lab {a : Int} {K : Bool → Prop} (hk : K (inB a 0 63)) : impl_isLabel.wp a K := by
  rw [impl_isLabel.eq]
  exact impl_in hk
theorem impl_Bes (hl : l.length ≤ 1099511627776) {K : List Int → Bool → Prop} (hk : K (besL l w h a) (besB l w h a)) : impl_BesideLabel.wp l w h a K := by
  rw [impl_BesideLabel.eq]
  refine impl_is hl ?_
  unfold besL besB at hk
  cases hv : validG l w h
  · simp only [hv, Bool.false_and, Bool.false_eq_true, if_false] at hk; exact ifT rfl hk
  refine ifF rfl (impl_lab ?_)
  cases ha : inB a 0 63
  · simp only [ha, Bool.and_false, Bool.false_eq_true, if_false] at hk; exact ifT rfl hk
  simp only [hv, ha, Bool.true_and, if_true] at hk
  obtain ⟨W, H, rfl, rfl, g⟩ := valid_nat hv
  rw [Int.toNat_natCast, Int.toNat_natCast] at hk
  have g1 := g.w1
  have g2 := g.w16
  have g4 := g.h16
  have hwh := g.wh
  have hlen := g.len
  refine ifF rfl ?_
  intro J hJ
  have start : List.replicate 0 0 = (nearU l W H a 0).filter fun v => v != a := rfl
  rw [start]
  refine down (Q := fun i => J (W : Int) (H : Int) ((nearU l W H a i).filter fun v => v != a) (l.length : Int) (i : Int)) (n := W * H) (hJ _ _ _ _ _ (ifN (by omega) ?_)) (fun i hi ih => hJ _ _ _ _ _ (ifD (by omega) ⟨⟨by omega, by omega⟩, ?_⟩)) 0 (Nat.zero_le _)
  · have hn := nearU_len l W H a (W * H)
    refine set_ok (Nat.le_trans (List.length_filter_le _ _) (by omega)) ?_
    rw [out_set (fun v hv => nearU_lab g a _ v hv)]
    exact hk
  · have hx : i % W < W := Nat.mod_lt _ (by omega)
    have hy : i / W < H := Nat.div_lt_of_lt_mul hi
    have hn := nearU_len l W H a i
    have hst : nearU l W H a (i + 1) = if (l.getD i 0 == a) = true then nearU l W H a i ++ sideG l W H (i % W) (i / W) else nearU l W H a i := rfl
    rw [hst] at ih
    rw [Int.toNat_natCast, wrap_succ (i := i) (by omega)]
    refine ifB_of (fun e => ?_) (fun e => ?_)
    · have : (l.getD i 0 == a) = false := by
        rw [beq_eq_false_iff_ne]; simpa using e
      rw [this, if_neg (by decide)] at ih
      exact ih
    · have : (l.getD i 0 == a) = true := by
        rw [beq_iff_eq]; simpa using e
      rw [this, if_pos rfl, List.filter_append] at ih
      refine ⟨by omega, by omega, ?_⟩
      rw [tdiv_nat, tmod_nat]
      generalize i % W = x at *
      generalize i / W = y at *
      have ey : Go.IntKind.wrap .i64 (y : Int) = (y : Int) := wrap_nat (by omega)
      rw [ey]
      generalize hm : nearU l W H a i = m at *
      have hml : (m.filter fun v => v != a).length ≤ 4 * i := Nat.le_trans (List.length_filter_le _ _) hn
      rw [impl_Grains_around.eq]
      have g2 := g.w16
      have g4 := g.h16
      have e0 : Go.IntKind.wrap .i64 ((x : Int) + 0) = (x : Int) := by rw [Int.add_zero]; exact wrap64 (by omega) (by omega)
      have e1 : Go.IntKind.wrap .i64 ((x : Int) + 1) = (x : Int) + 1 := wrap64 (by omega) (by omega)
      have e2 : Go.IntKind.wrap .i64 ((x : Int) + -1) = (x : Int) - 1 := wrap64 (x := (x : Int) + -1) (by omega) (by omega)
      have f0 : Go.IntKind.wrap .i64 ((y : Int) + 0) = (y : Int) := by rw [Int.add_zero]; exact wrap64 (by omega) (by omega)
      have f1 : Go.IntKind.wrap .i64 ((y : Int) + 1) = (y : Int) + 1 := wrap64 (by omega) (by omega)
      have f2 : Go.IntKind.wrap .i64 ((y : Int) + -1) = (y : Int) - 1 := wrap64 (x := (y : Int) + -1) (by omega) (by omega)
      intro J0 hJ0
      refine hJ0 _ _ _ _ _ _ _ _ _ _ _ _ _ _ _ _ _ _ _ _ (ifD (by decide) ⟨⟨by decide, by decide⟩, rfl, ⟨by decide, by decide, by decide⟩, ⟨by decide, by decide, by decide⟩, impl_about g (x := (x : Int) - 1) (y := y) e2 f0 (by omega) (by omega) ⟨by simp, ?_⟩⟩)
      refine hJ0 _ _ _ _ _ _ _ _ _ _ _ _ _ _ _ _ _ _ _ _ (ifD (by decide) ⟨⟨by decide, by decide⟩, rfl, ⟨by decide, by decide, by decide⟩, ⟨by decide, by decide, by decide⟩, impl_about g (x := (x : Int) + 1) (y := y) e1 f0 (by omega) (by omega) ⟨by simp, ?_⟩⟩)
      refine hJ0 _ _ _ _ _ _ _ _ _ _ _ _ _ _ _ _ _ _ _ _ (ifD (by decide) ⟨⟨by decide, by decide⟩, rfl, ⟨by decide, by decide, by decide⟩, ⟨by decide, by decide, by decide⟩, impl_about g (x := (x : Int)) (y := (y : Int) - 1) e0 f2 (by omega) (by omega) ⟨by simp, ?_⟩⟩)
      refine hJ0 _ _ _ _ _ _ _ _ _ _ _ _ _ _ _ _ _ _ _ _ (ifD (by decide) ⟨⟨by decide, by decide⟩, rfl, ⟨by decide, by decide, by decide⟩, ⟨by decide, by decide, by decide⟩, impl_about g (x := (x : Int)) (y := (y : Int) + 1) e0 f1 (by omega) (by omega) ⟨by simp, ?_⟩⟩)
      refine hJ0 _ _ _ _ _ _ _ _ _ _ _ _ _ _ _ _ _ _ _ _ (ifD (by decide) ⟨⟨by decide, by decide⟩, rfl, ⟨by decide, by decide, by decide⟩, ⟨by decide, by decide, by decide⟩, impl_about g (x := (x : Int) - 1) (y := (y : Int) - 1) e2 f2 (by omega) (by omega) ⟨by simp, ?_⟩⟩)
      refine hJ0 _ _ _ _ _ _ _ _ _ _ _ _ _ _ _ _ _ _ _ _ (ifD (by decide) ⟨⟨by decide, by decide⟩, rfl, ⟨by decide, by decide, by decide⟩, ⟨by decide, by decide, by decide⟩, impl_about g (x := (x : Int) + 1) (y := (y : Int) - 1) e1 f2 (by omega) (by omega) ⟨by simp, ?_⟩⟩)
      refine hJ0 _ _ _ _ _ _ _ _ _ _ _ _ _ _ _ _ _ _ _ _ (ifD (by decide) ⟨⟨by decide, by decide⟩, rfl, ⟨by decide, by decide, by decide⟩, ⟨by decide, by decide, by decide⟩, impl_about g (x := (x : Int) - 1) (y := (y : Int) + 1) e2 f1 (by omega) (by omega) ⟨by simp, ?_⟩⟩)
      refine hJ0 _ _ _ _ _ _ _ _ _ _ _ _ _ _ _ _ _ _ _ _ (ifD (by decide) ⟨⟨by decide, by decide⟩, rfl, ⟨by decide, by decide, by decide⟩, ⟨by decide, by decide, by decide⟩, impl_about g (x := (x : Int) + 1) (y := (y : Int) + 1) e1 f1 (by omega) (by omega) ⟨by simp, ?_⟩⟩)
      refine hJ0 _ _ _ _ _ _ _ _ _ _ _ _ _ _ _ _ _ _ _ _ (ifN (by decide) ?_)
      refine ⟨⟨by decide, by simp⟩, ?_⟩
      change ∀ J2 : Int → Int → List Int → List Int → Int → Int → Int → Int → Prop, _ → J2 _ _ _ (sideG l W H x y) _ _ ((sideG l W H x y).length : Int) _
      have h4 : (sideG l W H x y).length = 4 := rfl
      rw [h4]
      generalize sideG l W H x y = L at *
      intro J2 hJ2
      have main := down (Q := fun k => J2 (W : Int) (H : Int) ((m.filter fun v => v != a) ++ (L.take k).filter fun v => v != a) L (l.length : Int) (i : Int) (4 : Int) (k : Int)) (n := 4) ?_ ?_ 0 (by omega)
      · simpa using main
      · refine hJ2 _ _ _ _ _ _ _ _ (ifN (by omega) ?_)
        have ht : L.take 4 = L := by rw [← h4, List.take_length]
        rw [ht, wrap_succ (i := i) (by omega)]
        exact ih
      · intro k hk4 ihk
        refine hJ2 _ _ _ _ _ _ _ _ (ifD (by omega) ⟨⟨by omega, by omega⟩, ?_⟩)
        have htk : L.take (k + 1) = L.take k ++ [L.getD k 0] := by
          rw [List.take_add_one, List.getElem?_eq_getElem (by omega)]
          simp [List.getD, h4, hk4]
        rw [htk, List.filter_append] at ihk
        have hlk : ((L.take k).filter fun v => v != a).length ≤ 4 := Nat.le_trans (List.length_filter_le _ _) (by rw [List.length_take]; omega)
        rw [Int.toNat_natCast, wrap_succ (i := k) (by omega)]
        refine ifB_of (fun e => ?_) (fun e => ?_)
        · have e2 : [L.getD k 0].filter (fun v => v != a) = [L.getD k 0] := by simp only [List.filter_cons, List.filter_nil, e, if_true]
          rw [e2] at ihk
          refine ⟨by simp; omega, ?_⟩
          have e3 : (m.filter fun v => v != a) ++ ((L.take k).filter fun v => v != a) ++ L.getD k 0 :: List.replicate 0 0 = (m.filter fun v => v != a) ++ (((L.take k).filter fun v => v != a) ++ [L.getD k 0]) := by
            rw [List.append_assoc]; rfl
          rw [e3]
          exact ihk
        · have e2 : [L.getD k 0].filter (fun v => v != a) = [] := by simp only [List.filter_cons, List.filter_nil, e, Bool.false_eq_true, if_false]
          rw [e2, List.append_nil] at ihk
          exact ihk
theorem bes_law (hl : l.length ≤ 9223372036854775807) {K : Bool → Prop} (hk : K true) : laws_FnExactBesideLabel.wp l w h a K := by
  rw [laws_FnExactBesideLabel.eq]
  refine szG_ok (m := 1048576) hl (by decide) (fun _ => ifD (by decide) hk) fun hlen => ifN (by omega) ?_
  have hl : l.length ≤ 1099511627776 := by omega
  have hr := bes_small l w h a
  refine toG_ok hl (spec_Bes hl (toG_ok hl (impl_Bes hl ?_)))
  refine eqInt_self hr (ifF rfl (ifF (by simp) (toG_ok hl (eqG_self hl (ifF rfl ?_)))))
  refine markG_ok (k := 1) hl (by decide) (ifN (by omega) (eqInt_self hr (ifF rfl (ifF (by simp) ?_))))
  refine markInt_ok (k := 1) hr (by decide) (heldInt_ok (k := 1) hr (by decide) (ifN (by omega) (ifF (by simp) ?_)))
  exact toG_ok hl (impl_Bes hl (eqInt_self hr (ifF rfl (ifF (by simp) (heldInt_ok (k := 1) hr (by decide) (ifN (by omega) (ifF (by simp) hk)))))))
end
end Go.K.grains
