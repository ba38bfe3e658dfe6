/- Turns of cells: what one does, how they are cut, what they keep. -/
import Derived.Test.YtblejagpndbicaaLRa
import Derived.Test.YtblejagpndbicaaF13
import Derived.Test.YtblejagpndbicaaF16
set_option linter.unusedSimpArgs false
set_option linter.unusedVariables false
set_option maxRecDepth 10000
set_option maxHeartbeats 4000000
namespace Go.K.grains
open Go.K Go
attribute [local irreducible] laws_r8At.wp laws_r8Long.wp spec_R8Grains.wp impl_ValidGrains.wp impl_SameGrains.wp impl_LabelsOf.wp impl_set.wp impl_areWithin.wp impl_within.wp impl_isLabel.wp impl_FlipGrains.wp impl_UnlikePairs.wp impl_Grains_unlike.wp impl_Grains_around.wp impl_Grains_about.wp impl_Grains_cell.wp impl_draw.wp impl_isSeed.wp impl_CountOfLabel.wp slices_Clone_int64_int64.wp

def uneq (a b : Int) : Int := if (a != b) = true then 1 else 0
theorem uneq_le (a b : Int) : 0 ≤ uneq a b ∧ uneq a b ≤ 1 := by unfold uneq; split <;> omega
theorem uneq_self (a : Int) : uneq a a = 0 := by unfold uneq; simp
theorem uneq_comm (a b : Int) : uneq a b = uneq b a := by
  unfold uneq
  by_cases h : a = b
  · subst h; rfl
  · have h' : b ≠ a := fun e => h e.symm
    rw [if_pos (by simpa using h), if_pos (by simpa using h')]
/-- how many cells around differ from a label -/
def unl (l : List Int) (W H x y : Nat) (v : Int) : Int := sumN (fun k => uneq ((aroundG l W H x y).getD k 0) v) 8
theorem unl_le (l : List Int) (W H x y : Nat) (v : Int) : 0 ≤ unl l W H x y v ∧ unl l W H x y v ≤ 8 := by
  have := sumN_bound (f := fun k => uneq ((aroundG l W H x y).getD k 0) v) (a := 0) (b := 1) (n := 8) fun i _ => uneq_le _ _
  unfold unl
  omega
section
variable {l : List Int} {W H : Nat}
theorem impl_unl (g : Geo l W H) {x y : Nat} (hx : x < W) (hy : y < H) {v : Int} {K : Int → Prop} (hk : K (unl l W H x y v)) : impl_Grains_unlike.wp l (W : Int) (H : Int) (x : Int) (y : Int) v K := by
  rw [impl_Grains_unlike.eq]
  refine impl_around g hx hy ?_
  have h8 : (aroundG l W H x y).length = 8 := rfl
  unfold unl at hk
  generalize aroundG l W H x y = L at *
  rw [h8]
  intro J hJ
  have hb := fun n => sumN_bound (f := fun k => uneq (L.getD k 0) v) (a := 0) (b := 1) (n := n) fun i _ => uneq_le _ _
  refine down (Q := fun k => J L (sumN (fun k => uneq (L.getD k 0) v) k) ((8 : Nat) : Int) (k : Int)) (n := 8) (hJ _ _ _ _ (ifN (by omega) hk)) (fun i hi ih => hJ _ _ _ _ (ifD (by omega) ?_)) 0 (by omega)
  have := hb i
  have e : sumN (fun k => uneq (L.getD k 0) v) (i + 1) = sumN (fun k => uneq (L.getD k 0) v) i + uneq (L.getD i 0) v := rfl
  rw [e] at ih
  rw [Int.toNat_natCast, wrap_succ (by omega)]
  refine ⟨⟨by omega, by omega⟩, ifB_of (fun c => ?_) (fun c => ?_)⟩
  · have e2 : uneq (L.getD i 0) v = 1 := by unfold uneq; rw [if_pos c]
    rw [e2] at ih
    rw [wrap64 (by omega) (by omega)]
    exact ih
  · have e2 : uneq (L.getD i 0) v = 0 := by unfold uneq; rw [if_neg (by rw [c]; decide)]
    rw [e2, Int.add_zero] at ih
    exact ih
end
/-! ### seeds -/
def nxI (s : Int) : Int := Int.tmod (Go.IntKind.wrap .i64 (Go.IntKind.wrap .i64 ((1103515245 : Int) * s) + (12345 : Int))) (2147483648 : Int)
def dV (s : Int) : Int := Go.IntKind.wrap .i64 (Int.tdiv (nxI s) (65536 : Int))
def dN (s : Int) : Nat := (dV s).toNat
theorem nx_ok {s : Int} (h0 : 0 ≤ s) (h1 : s ≤ 2147483647) : 0 ≤ nxI s ∧ nxI s ≤ 2147483647 ∧ dV s = (dN s : Int) ∧ dN s < 32768 := by
  have e : nxI s = Int.tmod (1103515245 * s + 12345) ((2147483648 : Nat) : Int) := by
    unfold nxI
    rw [wrap64 (x := 1103515245 * s) (by omega) (by omega), wrap64 (by omega) (by omega)]
    rfl
  obtain ⟨k, hk1, hk2⟩ := tmod_lt (x := 1103515245 * s + 12345) (n := 2147483648) (by omega) (by omega)
  have hd : dV s = ((k / 65536 : Nat) : Int) := by
    unfold dV
    rw [e, hk1]
    have : Int.tdiv (k : Int) 65536 = ((k / 65536 : Nat) : Int) := tdiv_nat k 65536
    have hd : k / 65536 ≤ k := Nat.div_le_self _ _
    rw [this, wrap_nat (by omega)]
  have h3 : k / 65536 < 32768 := Nat.div_lt_of_lt_mul (by omega)
  rw [e, hk1]
  unfold dN
  rw [hd, Int.toNat_natCast]
  exact ⟨by omega, by omega, rfl, h3⟩
theorem draw_ok {s : Int} {K : Int → Int → Prop} (hk : K (nxI s) (dV s)) : impl_draw.wp s K := by
  rw [impl_draw.eq]; exact hk
/-! ### turns -/
def limU (ch : Nat) : Nat → Nat
  | 0 => 1065353216
  | k + 1 => farith .mul .f32 (limU ch k) ch
def putS (l : List Int) (W x y : Nat) (lab own s : Int) (t : Nat) : List Int × Int × Nat := if (lab != own) = true then (l.set (x + W * y) lab, s, t + 1) else (l, s, t)
def lessB (d : Int) (lim : Nat) : Bool := flt .f32 (farith .quo .f32 (fofint .f32 d) 1191182336) lim
/-- a turn at a place, with a way -/
def turnS (ch : Nat) (l : List Int) (W H x y w : Nat) (s : Int) (t : Nat) : List Int × Int × Nat :=
  let lab := (aroundG l W H x y).getD w 0
  let own := atG l W H x y
  let e := unl l W H x y lab - unl l W H x y own
  if e ≤ 0 then putS l W x y lab own s t
  else if lessB (dV s) (limU ch e.toNat) = true then putS l W x y lab own (nxI s) t else (l, nxI s, t)
def flipS (ch W H : Nat) (st : List Int × Int × Nat) : List Int × Int × Nat :=
  turnS ch st.1 W H (dN st.2.1 % W) (dN (nxI st.2.1) % H) (dN (nxI (nxI st.2.1)) % 8) (nxI (nxI (nxI st.2.1))) st.2.2
def flipU (ch W H : Nat) : Nat → List Int × Int × Nat → List Int × Int × Nat
  | 0, st => st
  | n + 1, st => flipU ch W H n (flipS ch W H st)
theorem flipU_add (ch W H : Nat) : ∀ (n m : Nat) (st), flipU ch W H (n + m) st = flipU ch W H m (flipU ch W H n st)
  | 0, m, st => by rw [Nat.zero_add]; rfl
  | n + 1, m, st => by
    rw [show n + 1 + m = n + m + 1 by omega]
    show flipU ch W H (n + m) (flipS ch W H st) = flipU ch W H m (flipU ch W H n (flipS ch W H st))
    exact flipU_add ch W H n m _
/-- what holds for a put and for nothing holds for a turn -/
theorem turn_cases {ch : Nat} {l : List Int} {W H x y w : Nat} {s : Int} {t : Nat} {P : List Int × Int × Nat → Prop}
    (h1 : unl l W H x y ((aroundG l W H x y).getD w 0) ≤ unl l W H x y (atG l W H x y) → (aroundG l W H x y).getD w 0 ≠ atG l W H x y → P (l.set (x + W * y) ((aroundG l W H x y).getD w 0), s, t + 1))
    (h2 : unl l W H x y (atG l W H x y) < unl l W H x y ((aroundG l W H x y).getD w 0) → lessB (dV s) (limU ch (unl l W H x y ((aroundG l W H x y).getD w 0) - unl l W H x y (atG l W H x y)).toNat) = true → (aroundG l W H x y).getD w 0 ≠ atG l W H x y → P (l.set (x + W * y) ((aroundG l W H x y).getD w 0), nxI s, t + 1))
    (h3 : ∀ s', s' = s ∨ s' = nxI s → P (l, s', t)) : P (turnS ch l W H x y w s t) := by
  unfold turnS
  simp only
  split
  · unfold putS
    split
    · rename_i a b
      exact h1 (by omega) (by simpa using b)
    · exact h3 _ (Or.inl rfl)
  · split
    · rename_i a b
      unfold putS
      split
      · rename_i c
        exact h2 (by omega) b (by simpa using c)
      · exact h3 _ (Or.inr rfl)
    · exact h3 _ (Or.inr rfl)
theorem around_mem {l : List Int} {W H : Nat} (g : Geo l W H) (x y : Nat) {w : Nat} (hw : w < 8) : (aroundG l W H x y).getD w 0 ∈ l := by
  have h := getD_mem (L := aroundG l W H x y) 0 (show w < (aroundG l W H x y).length from hw)
  simp only [aroundG, List.mem_cons, List.not_mem_nil, or_false] at h
  have h' : (aroundG l W H x y).getD w 0 ∈ aroundG l W H x y := getD_mem 0 (show w < (aroundG l W H x y).length from hw)
  generalize (aroundG l W H x y).getD w 0 = v at *
  simp only [aroundG, List.mem_cons, List.not_mem_nil, or_false] at h'
  rcases h' with h | h | h | h | h | h | h | h <;> (rw [h]; exact atG_mem g _ _)
theorem geo_set {l : List Int} {W H : Nat} (g : Geo l W H) {i : Nat} {v : Int} (hv : v ∈ l) : Geo (l.set i v) W H := by
  obtain ⟨w1, w16, h1, h16, wh, len, lab⟩ := g
  refine ⟨w1, w16, h1, h16, wh, by rw [List.length_set]; exact len, fun u hu => ?_⟩
  rcases List.mem_or_eq_of_mem_set hu with h | h
  · exact lab u h
  · rw [h]; exact lab v hv
/-- what turns keep -/
structure Kept (l0 : List Int) (W H : Nat) (st : List Int × Int × Nat) : Prop where
  geo : Geo st.1 W H
  s0 : 0 ≤ st.2.1
  s1 : st.2.1 ≤ 2147483647
  mem : ∀ v, v ∈ st.1 → v ∈ l0
theorem flip_kept {ch W H : Nat} {l0 : List Int} {st : List Int × Int × Nat} (h : Kept l0 W H st) : Kept l0 W H (flipS ch W H st) := by
  obtain ⟨l, s, t⟩ := st
  obtain ⟨g, s0, s1, mem⟩ := h
  have n1 := nx_ok s0 s1
  have n2 := nx_ok n1.1 n1.2.1
  have n3 := nx_ok n2.1 n2.2.1
  have n4 := nx_ok n3.1 n3.2.1
  have hw : dN (nxI (nxI s)) % 8 < 8 := Nat.mod_lt _ (by decide)
  have hm := around_mem g (dN s % W) (dN (nxI s) % H) hw
  have put : ∀ s' t', 0 ≤ s' → s' ≤ 2147483647 → Kept l0 W H (l.set (dN s % W + W * (dN (nxI s) % H)) ((aroundG l W H (dN s % W) (dN (nxI s) % H)).getD (dN (nxI (nxI s)) % 8) 0), s', t') := fun s' t' a b =>
    ⟨geo_set g hm, a, b, fun v hv => by
      rcases List.mem_or_eq_of_mem_set hv with h | h
      · exact mem v h
      · rw [h]; exact mem _ hm⟩
  refine turn_cases (P := Kept l0 W H) (fun _ _ => put _ _ n3.1 n3.2.1) (fun _ _ _ => put _ _ n4.1 n4.2.1) (fun s' hs => ?_)
  rcases hs with rfl | rfl
  · exact ⟨g, n3.1, n3.2.1, mem⟩
  · exact ⟨g, n4.1, n4.2.1, mem⟩
theorem flips_kept {ch W H : Nat} {l0 : List Int} : ∀ (n : Nat) {st : List Int × Int × Nat}, Kept l0 W H st → Kept l0 W H (flipU ch W H n st)
  | 0, st, h => h
  | n + 1, st, h => flips_kept n (flip_kept h)
/-- the count of those that were taken only adds up -/
theorem flip_shift (ch W H : Nat) (l : List Int) (s : Int) (t u : Nat) : flipS ch W H (l, s, t + u) = ((flipS ch W H (l, s, t)).1, (flipS ch W H (l, s, t)).2.1, (flipS ch W H (l, s, t)).2.2 + u) := by
  unfold flipS turnS
  simp only
  split
  · unfold putS
    split
    · simp only; congr 2; omega
    · rfl
  · split
    · unfold putS
      split
      · simp only; congr 2; omega
      · rfl
    · rfl
theorem flips_shift (ch W H : Nat) : ∀ (n : Nat) (l : List Int) (s : Int) (t u : Nat), flipU ch W H n (l, s, t + u) = ((flipU ch W H n (l, s, t)).1, (flipU ch W H n (l, s, t)).2.1, (flipU ch W H n (l, s, t)).2.2 + u)
  | 0, l, s, t, u => rfl
  | n + 1, l, s, t, u => by
    show flipU ch W H n (flipS ch W H (l, s, t + u)) = ((flipU ch W H n (flipS ch W H (l, s, t))).1, (flipU ch W H n (flipS ch W H (l, s, t))).2.1, (flipU ch W H n (flipS ch W H (l, s, t))).2.2 + u)
    rw [flip_shift]
    generalize flipS ch W H (l, s, t) = q
    obtain ⟨l', s', t'⟩ := q
    exact flips_shift ch W H n l' s' t' u
theorem flip_le (ch W H : Nat) (st : List Int × Int × Nat) : (flipS ch W H st).2.2 ≤ st.2.2 + 1 := by
  refine turn_cases (P := fun q => q.2.2 ≤ st.2.2 + 1) (fun _ _ => Nat.le_refl _) (fun _ _ _ => Nat.le_refl _) (fun _ _ => Nat.le_succ _)
theorem flips_le (ch W H : Nat) : ∀ (n : Nat) (st : List Int × Int × Nat), (flipU ch W H n st).2.2 ≤ st.2.2 + n
  | 0, st => Nat.le_refl _
  | n + 1, st => by
    have h1 := flips_le ch W H n (flipS ch W H st)
    have h2 := flip_le ch W H st
    show (flipU ch W H n (flipS ch W H st)).2.2 ≤ _
    omega
section
variable {l : List Int} {W H : Nat}
theorem tmod_dN (k n : Nat) : Int.tmod (k : Int) (n : Int) = ((k % n : Nat) : Int) := tmod_nat k n
theorem impl_Flip (g : Geo l W H) {s r : Int} {n : Nat} {ch : Nat} (er : r = (n : Int)) (hn : n ≤ 1000) (s0 : 0 ≤ s) (s1 : s ≤ 2147483647) {K : List Int → Int → Int → Int → Int → Bool → Prop}
    (hk : K (flipU ch W H n (l, s, 0)).1 W H (flipU ch W H n (l, s, 0)).2.1 ((flipU ch W H n (l, s, 0)).2.2 : Int) true) : impl_FlipGrains.wp l (W : Int) (H : Int) s ch r K := by
  subst er
  have hlen := g.len
  have hwh := g.wh
  have w1 := g.w1
  have h1 := g.h1
  rw [impl_FlipGrains.eq]
  refine impl_is (by omega) ?_
  rw [g.valid]
  refine ifF rfl ?_
  rw [impl_isSeed.eq]
  refine impl_in ?_
  rw [show inB s 0 2147483647 = true by rw [inB_iff]; omega]
  refine ifF rfl (impl_in ?_)
  rw [show inB (n : Int) 0 1000 = true by rw [inB_iff]; omega]
  refine ifF rfl ?_
  rw [slices_Clone_int64_int64.eq]
  have hpos := Nat.mul_pos g.w1 g.h1
  refine ⟨by omega, by simp; omega, ?_⟩
  intro J hJ
  have main : ∀ k i : Nat, i + k = n → ∀ st : List Int × Int × Nat, Kept l W H st → st.2.2 ≤ i → K (flipU ch W H k st).1 W H (flipU ch W H k st).2.1 ((flipU ch W H k st).2.2 : Int) true → J (W : Int) (H : Int) 0 0 st.1 [] st.2.1 (st.2.2 : Int) (n : Int) (i : Int) := by
    intro k
    induction k with
    | zero =>
      intro i hi st hs ht h
      exact hJ _ _ _ _ _ _ _ _ _ _ (ifN (by omega) h)
    | succ k ih =>
      intro i hi st hs ht h
      have ht2 := flip_le ch W H st
      have nxt := ih (i + 1) (by omega) (flipS ch W H st) (flip_kept hs) (by omega) h
      clear ih h
      obtain ⟨l, s, t⟩ := st
      obtain ⟨g, s0, s1, mem⟩ := hs
      simp only at s0 s1 g ht
      have hlen := g.len
      have n1 := nx_ok s0 s1
      have n2 := nx_ok n1.1 n1.2.1
      have n3 := nx_ok n2.1 n2.2.1
      have n4 := nx_ok n3.1 n3.2.1
      refine hJ _ _ _ _ _ _ _ _ _ _ (ifD (by omega) (draw_ok ⟨by omega, draw_ok ⟨by omega, draw_ok ?_⟩⟩))
      rw [n1.2.2.1, n2.2.2.1, n3.2.2.1, tmod_nat, tmod_nat]
      have e8 : Int.tmod (dN (nxI (nxI s)) : Int) 8 = ((dN (nxI (nxI s)) % 8 : Nat) : Int) := tmod_nat _ 8
      rw [e8]
      have hx : dN s % W < W := Nat.mod_lt _ (by omega)
      have hy : dN (nxI s) % H < H := Nat.mod_lt _ (by omega)
      have hw : dN (nxI (nxI s)) % 8 < 8 := Nat.mod_lt _ (by decide)
      have ef : flipS ch W H (l, s, t) = turnS ch l W H (dN s % W) (dN (nxI s) % H) (dN (nxI (nxI s)) % 8) (nxI (nxI (nxI s))) t := rfl
      rw [ef] at nxt
      clear ef
      generalize dN s % W = x at *
      generalize dN (nxI s) % H = y at *
      generalize dN (nxI (nxI s)) % 8 = w at *
      have hb := wh_lt hx hy
      refine impl_around g hx hy ⟨⟨by omega, ?_⟩, impl_about g rfl rfl (by omega) (by omega) (impl_unl g hx hy (impl_unl g hx hy ?_))⟩
      · have h8 : (aroundG l W H x y).length = 8 := rfl
        rw [h8]; omega
      have u1 := unl_le l W H x y ((aroundG l W H x y).getD w 0)
      have u2 := unl_le l W H x y (atG l W H x y)
      rw [Int.toNat_natCast, wrap64 (by omega) (by omega)]
      have ec : cellN W H (x : Int) (y : Int) = x + W * y := by unfold cellN; rw [pl_self hx, pl_self hy]
      intro J26 hJ26
      -- what follows on a choice
      have choose : ∀ (b : Bool) (s' : Int), (b = true → J (W : Int) (H : Int) 0 0 (putS l W x y ((aroundG l W H x y).getD w 0) (atG l W H x y) s' t).1 [] (putS l W x y ((aroundG l W H x y).getD w 0) (atG l W H x y) s' t).2.1 ((putS l W x y ((aroundG l W H x y).getD w 0) (atG l W H x y) s' t).2.2 : Int) (n : Int) ((i + 1 : Nat) : Int)) → (b = false → J (W : Int) (H : Int) 0 0 l [] s' (t : Int) (n : Int) ((i + 1 : Nat) : Int)) → J26 (W : Int) (H : Int) 0 0 l [] s' (t : Int) (x : Int) (y : Int) ((aroundG l W H x y).getD w 0) (atG l W H x y) b (n : Int) (i : Int) := by
        intro b s' hb1 hb2
        refine hJ26 _ _ _ _ _ _ _ _ _ _ _ _ _ _ _ ?_
        rw [wrap_succ (i := i) (by omega)]
        refine ifB_of (fun c => ?_) (fun c => hb2 c)
        have hb1 := hb1 c
        unfold putS at hb1
        refine ifB_of (fun d => ?_) (fun d => ?_)
        · rw [if_pos d] at hb1
          have q1 := g.w1
          have q2 := g.w16
          have q3 := g.h1
          have q4 := g.h16
          rw [impl_Grains_cell.eq, impl_place.eq]
          refine ifT rfl ⟨by omega, by omega, ?_⟩
          rw [impl_place.eq]
          refine ifT rfl ⟨by omega, by omega, ?_⟩
          rw [pl_eq1 q1 (by omega) (by omega) (by omega), pl_eq1 q3 (by omega) (by omega) (by omega)]
          obtain ⟨e, hc⟩ := idx_ok g (x := (x : Int)) (y := (y : Int))
          rw [e, ec, Int.toNat_natCast, wrap_succ (i := t) (by omega)]
          exact ⟨⟨by omega, by omega⟩, hb1⟩
        · rw [if_neg (by rw [d]; decide)] at hb1
          exact hb1
      unfold turnS at nxt
      simp only at nxt
      generalize (aroundG l W H x y).getD w 0 = lab at *
      generalize atG l W H x y = own at *
      by_cases he : unl l W H x y lab - unl l W H x y own ≤ 0
      · rw [if_pos he] at nxt
        rw [decide_eq_true he]
        exact ifF rfl (choose _ _ (fun _ => nxt) (fun h => by simp at h))
      · rw [if_neg he] at nxt
        rw [decide_eq_false he]
        refine ifT rfl (draw_ok ?_)
        intro J47 hJ47
        obtain ⟨e, hE⟩ : ∃ e : Nat, unl l W H x y lab - unl l W H x y own = (e : Int) := ⟨(unl l W H x y lab - unl l W H x y own).toNat, by omega⟩
        rw [hE] at nxt ⊢
        rw [Int.toNat_natCast] at nxt
        have he8 : e ≤ 8 := by omega
        refine down (Q := fun k => J47 (W : Int) (H : Int) 0 0 l [] (nxI (nxI (nxI (nxI s)))) (dV (nxI (nxI (nxI s)))) (t : Int) (x : Int) (y : Int) lab own (limU ch k) (n : Int) (i : Int) (e : Int) (k : Int)) (n := e) (hJ47 _ _ _ _ _ _ _ _ _ _ _ _ _ _ _ _ _ _ (ifN (by omega) ?_)) (fun k hk ih => hJ47 _ _ _ _ _ _ _ _ _ _ _ _ _ _ _ _ _ _ (ifD (by omega) ?_)) 0 (Nat.zero_le _)
        · refine choose _ _ (fun h => ?_) (fun h => ?_)
          · have : lessB (dV (nxI (nxI (nxI s)))) (limU ch e) = true := h
            rw [if_pos this] at nxt
            exact nxt
          · have : lessB (dV (nxI (nxI (nxI s)))) (limU ch e) = false := h
            rw [if_neg (by rw [this]; decide)] at nxt
            exact nxt
        · rw [wrap_succ (by omega)]
          exact ih
  exact main n 0 (by omega) (l, s, 0) ⟨g, s0, s1, fun v hv => hv⟩ (Nat.le_refl _) hk
end
end Go.K.grains
