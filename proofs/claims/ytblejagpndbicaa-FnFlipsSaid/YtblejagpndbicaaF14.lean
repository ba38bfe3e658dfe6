/- Sines and points of the unit circle: their floats stay within bounds. -/
import Derived.Test.YtblejagpndbicaaF13
set_option linter.unusedSimpArgs false
set_option linter.unusedVariables false
set_option maxRecDepth 10000
namespace Go.K
open Ieee

theorem half_gt : Gt .f64 (-1) (-1) 4602678819172646912 := gt_of (m := 4503599627370496) (e := -53) 54 (by decide) (by decide) (by decide) (by decide) (by decide) (by decide)
theorem quarter_gt : Gt .f64 (-2) (-2) 4598175219545276416 := gt_of (m := 4503599627370496) (e := -54) 54 (by decide) (by decide) (by decide) (by decide) (by decide) (by decide)
theorem fofint_gt4 {n : Nat} (h0 : 4 ≤ n) (h : n < 1024) : Gt .f64 2 10 (fofint .f64 (n : Int)) := by
  have hl : n.log2 < 10 := (Nat.log2_lt (by omega)).2 h
  have hl2 : 2 ≤ n.log2 := (Nat.le_log2 (by omega)).2 h0
  obtain ⟨s1, s2⟩ := scaled (m := n) (by omega) (by omega)
  have hlog := log2_52 s1 s2
  refine ⟨_, _, decode_fofint (by omega) (by omega), LeP_log (by rw [hlog]; omega), ?_⟩
  refine GeP_of 52 (by omega) (by decide) ?_
  rw [show ((n.log2 : Int) - 52 + ((52 : Nat) : Int)).toNat = n.log2 by omega, show ((2 : Int) + ((52 : Nat) : Int)).toNat = 54 by decide]
  have h4 : 2 ^ 2 ≤ 2 ^ n.log2 := Nat.pow_le_pow_right (by decide) hl2
  have := Nat.mul_le_mul s1 h4
  omega

/-! ### far -/
theorem far_eq {x : Nat} (hf : fin .f64 x = true) : (fge .f64 x 4841369599423283200 || fle .f64 x 14064741636278059008) = fge .f64 (x % 9223372036854775808) 4841369599423283200 := by
  obtain ⟨s, m, e, hd⟩ := fin_num hf
  have ha := abs_num hd
  have hfar : FloatKind.decode .f64 4841369599423283200 = .number false 4503599627370496 0 := by decide
  have hnfar : FloatKind.decode .f64 14064741636278059008 = .number true 4503599627370496 0 := by decide
  have hx' : double.read x = .number s m e := hd
  have hf' : double.read 4841369599423283200 = .number false 4503599627370496 0 := hfar
  have hn' : double.read 14064741636278059008 = .number true 4503599627370496 0 := hnfar
  unfold fge fle
  rw [ord_pos ha hfar, compare_nat]
  unfold forder Format.order
  rw [show FloatKind.format .f64 = double from rfl, hx', hf', hn']
  simp only [Datum.order]
  have hC : 0 < 4503599627370496 * 2 ^ ((0 : Int) - min e 0).toNat := Nat.mul_pos (by decide) (Nat.pow_pos (by decide))
  unfold signed
  rw [Nat.shiftLeft_eq, Nat.shiftLeft_eq]
  generalize 4503599627370496 * 2 ^ ((0 : Int) - min e 0).toNat = C at *
  generalize m * 2 ^ (e - min e 0).toNat = M at *
  cases s
  · simp only [Bool.false_eq_true, if_false, if_true]
    rw [compare_gt (show -(C : Int) < (M : Int) by omega), compare_nat]
    split
    · rfl
    · split <;> rfl
  · simp only [Bool.false_eq_true, if_false, if_true]
    rw [compare_lt (show -(M : Int) < (C : Int) by omega)]
    rcases Nat.lt_trichotomy M C with h | h | h
    · rw [compare_gt (show -(C : Int) < -(M : Int) by omega), if_pos h]; rfl
    · subst h
      rw [compare_same, if_neg (by omega), if_pos rfl]; rfl
    · rw [compare_lt (show -(M : Int) < -(C : Int) by omega), if_neg (by omega), if_neg (by omega)]; rfl
theorem bd_notfar {x : Nat} {k : Int} (hx : Bd .f64 k x) (hk : k ≤ 51) : fge .f64 (x % 9223372036854775808) 4841369599423283200 = false := by
  obtain ⟨s, m, e, h1, h2⟩ := hx
  have ha := abs_num h1
  have hfar : FloatKind.decode .f64 4841369599423283200 = .number false 4503599627370496 0 := by decide
  unfold fge
  rw [ord_pos ha hfar, compare_nat]
  have a := (h2.down (b := min e 0) (by omega)) (e.natAbs + k.natAbs) (by omega) (by omega)
  have hlt : m * 2 ^ (e - min e 0).toNat < 4503599627370496 * 2 ^ ((0 : Int) - min e 0).toNat := by
    refine Nat.lt_of_mul_lt_mul_right (a := 2 ^ (min e 0 + ((e.natAbs + k.natAbs : Nat) : Int)).toNat) ?_
    refine Nat.lt_of_le_of_lt a ?_
    rw [show (4503599627370496 : Nat) = 2 ^ 52 from rfl, ← Nat.pow_add, ← Nat.pow_add]
    exact Nat.pow_lt_pow_right (by decide) (by omega)
  rw [if_pos hlt]; rfl

/-! ### sines -/
def fracV (x : Nat) : Nat := farith .sub .f64 x (wholeF x)
def behindV (x : Nat) : Nat := if flt .f64 (fracV x) 0 = true then farith .add .f64 (fracV x) 4607182418800017408 else fracV x
def nextS (u p : Nat) (k : Int) : Nat := farith .sub .f64 4607182418800017408 (farith .quo .f64 (farith .mul .f64 u p) (fofint .f64 k))
def polyS (u : Nat) : Nat := nextS u (nextS u (nextS u (nextS u (nextS u (nextS u (nextS u (nextS u 4607182418800017408 272) 210) 156) 110) 72) 42) 20) 6
def lowV (f : Nat) : Nat := if fge .f64 f 4602678819172646912 = true then farith .sub .f64 f 4602678819172646912 else f
def foldV (f : Nat) : Nat := if fgt .f64 f 4598175219545276416 = true then farith .sub .f64 4602678819172646912 f else f
def arcV (x : Nat) : Nat := farith .mul .f64 (foldV (lowV (behindV x))) 4618760256179416344
def sinV (x : Nat) : Nat := farith .mul .f64 (arcV x) (polyS (farith .mul .f64 (arcV x) (arcV x)))
def sineV (x : Nat) : Nat := if fge .f64 (behindV x) 4602678819172646912 = true then fneg .f64 (sinV x) else sinV x
/-- not less than nought, or a nought of either sign -/
def Pz (k : Int) (x : Nat) : Prop := Pn .f64 k x ∨ Zr .f64 x
theorem behind_pz {x m d : Nat} {s : Bool} (h : Near x s m d) : Pz 0 (behindV x) := by
  obtain ⟨t, M, E, h1, h2⟩ := h.frac_num
  unfold behindV fracV
  rw [flt_num h1]
  cases t
  · rw [Bool.false_and, if_neg (by decide)]
    exact .inl ⟨_, _, h1, h2⟩
  · rw [Bool.true_and]
    by_cases hM : M = 0
    · subst hM
      rw [if_neg (by decide)]
      exact .inr ⟨_, _, h1⟩
    · rw [if_pos (by simpa using hM)]
      exact .inl (add_neg_pn h1 h2 one_gt ⟨by decide, by decide⟩)
theorem fge_zr {x c : Nat} {k l : Int} (h : Zr .f64 x) (hc : Gt .f64 k l c) : fge .f64 x c = false := by
  unfold fge; rw [ord_zr h hc]; rfl
theorem fgt_zr {x c : Nat} {k l : Int} (h : Zr .f64 x) (hc : Gt .f64 k l c) : fgt .f64 x c = false := by
  unfold fgt; rw [ord_zr h hc]; rfl
theorem fold_bd {f : Nat} (h : Pz 0 f) : Bd .f64 (-2) (foldV (lowV f)) := by
  rcases h with h | h
  · have h2 : Pn .f64 (-1) (lowV f) := by
      unfold lowV
      cases c : fge .f64 f 4602678819172646912
      · rw [if_neg (by decide)]; exact fge_false h half_gt c
      · rw [if_pos rfl]; exact sub_pn (a := -1) (k := -1) (fge_true h half_gt c) half_gt ⟨by decide, by decide⟩
    unfold foldV
    cases c : fgt .f64 (lowV f) 4598175219545276416
    · rw [if_neg (by decide)]; exact (fgt_false h2 quarter_gt c).bd
    · rw [if_pos rfl]; exact (sub_pn (a := -1) (k := -2) half_gt (fgt_true h2 quarter_gt c) ⟨by decide, by decide⟩).bd
  · have e1 : lowV f = f := by
      unfold lowV
      rw [fge_zr h half_gt, if_neg (by decide)]
    unfold foldV
    rw [e1, fgt_zr h quarter_gt, if_neg (by decide)]
    exact h.bd _
theorem nextS_pn {u p n : Nat} (hu : Pn .f64 2 u) (hp : Pn .f64 0 p) (h4 : 4 ≤ n) (hn : n < 1024) : Pn .f64 0 (nextS u p (n : Int)) := by
  unfold nextS
  have h1 := mul_pn (r := 2) hu hp (by decide) ⟨by decide, by decide⟩
  have h2 := quo_pn (r := 0) h1 (fofint_gt4 h4 hn) (by decide) ⟨by decide, by decide⟩
  exact sub_pn0 one_gt h2 ⟨by decide, by decide⟩
theorem polyS_pn {u : Nat} (hu : Pn .f64 2 u) : Pn .f64 0 (polyS u) := by
  unfold polyS
  have h1 := nextS_pn (n := 272) hu one_gt.pn (by decide) (by decide)
  have h2 := nextS_pn (n := 210) hu h1 (by decide) (by decide)
  have h3 := nextS_pn (n := 156) hu h2 (by decide) (by decide)
  have h4 := nextS_pn (n := 110) hu h3 (by decide) (by decide)
  have h5 := nextS_pn (n := 72) hu h4 (by decide) (by decide)
  have h6 := nextS_pn (n := 42) hu h5 (by decide) (by decide)
  have h7 := nextS_pn (n := 20) hu h6 (by decide) (by decide)
  exact nextS_pn (n := 6) hu h7 (by decide) (by decide)
theorem sine_bd {x m d : Nat} {s : Bool} (h : Near x s m d) : Bd .f64 1 (sineV x) := by
  have h1 := fold_bd (behind_pz h)
  have h2 : Bd .f64 1 (arcV x) := mul_bd h1 turn_gt.pn.bd (by decide) ⟨by decide, by decide⟩
  have h3 := mul_self_pn (r := 2) h2 (by decide) ⟨by decide, by decide⟩
  have h4 : Bd .f64 1 (sinV x) := mul_bd h2 (polyS_pn h3).bd (by decide) ⟨by decide, by decide⟩
  unfold sineV
  split
  · exact neg_bd h4
  · exact h4
theorem sine_bd' {x : Nat} (hf : fin .f64 x = true) (h : fge .f64 (x % 9223372036854775808) 4841369599423283200 = false) : Bd .f64 1 (sineV x) := by
  obtain ⟨s, m, d, hn⟩ := near_of hf h
  exact sine_bd hn
theorem near_bd {x : Nat} {k : Int} (hx : Bd .f64 k x) (hk : k ≤ 51) : ∃ s m d, Near x s m d := near_of hx.fin (bd_notfar hx hk)

/-! ### quarters -/
/-- at most some quarters -/
def LeC (C : Nat) (m : Nat) (e : Int) : Prop := ∀ B : Nat, 0 ≤ e + B → 0 ≤ (-2 : Int) + B → m * 2 ^ (e + B).toNat ≤ C * 2 ^ ((-2 : Int) + B).toNat
theorem LeC_of {C m : Nat} {e : Int} (B : Nat) (h1 : 0 ≤ e + B) (h2 : 0 ≤ (-2 : Int) + B) (h : m * 2 ^ (e + B).toNat ≤ C * 2 ^ ((-2 : Int) + B).toNat) : LeC C m e := by
  intro D d1 d2
  have hB := Nat.mul_le_mul_right (2 ^ D) h
  rw [Nat.mul_assoc, Nat.mul_assoc, ← pow_more h1, ← pow_more h2, Nat.add_comm B D, pow_more d1, pow_more d2, ← Nat.mul_assoc, ← Nat.mul_assoc] at hB
  exact Nat.le_of_mul_le_mul_right hB (Nat.pow_pos (by decide))
theorem LeC.lep {C m : Nat} {e : Int} (h : LeC C m e) (hC : C ≤ 4) : LeP 0 m e := by
  refine LeP_of (e.natAbs + 2) (by omega) (by omega) (Nat.le_trans (h (e.natAbs + 2) (by omega) (by omega)) ?_)
  rw [show ((0 : Int) + ((e.natAbs + 2 : Nat) : Int)).toNat = ((-2 : Int) + ((e.natAbs + 2 : Nat) : Int)).toNat + 2 by omega, Nat.pow_add]
  have := Nat.mul_le_mul_right (2 ^ ((-2 : Int) + ((e.natAbs + 2 : Nat) : Int)).toNat) hC
  omega
theorem leC_aux {f : Format} {F q : Nat} {P : Int} (hB : f.binade = 2 ^ F) (hI : f.infRung = q * 2 ^ F) (hP : f.leastPlace = P) (hF : f.fractionBits = F) {C D : Nat} {p : Int} (h : LeC C D p) (hC : C ≤ 4) (h2F : 2 ≤ F) (hP2 : P ≤ -2) (hq : -P < q) : ∃ m e, f.read (f.nearest false D p) = .number false m e ∧ LeC C m e := by
  have hl := h.lep hC
  unfold Format.nearest
  by_cases h0 : D = 0
  · rw [if_pos h0]
    have : f.read (f.word false 0) = .number false 0 P := by
      rw [read_word (Nat.zero_le _), hB, if_pos (Nat.pow_pos (by decide)), hP]
    exact ⟨_, _, this, fun B _ _ => by simp⟩
  rw [if_neg h0]
  dsimp only
  rw [hP, hF]
  have hlog := hl.log (by omega)
  generalize hL : max (p + (D.log2 : Int) - (F : Int)) P = last
  have hkept := kept_le (s := false) (n := D) (F := F) (p := p) (last := last) (by omega) (by omega)
  have hlk : last ≤ -2 := by omega
  have hc : Toward.even.cut false (D <<< (p - last).toNat) (last - p).toNat ≤ C * 2 ^ ((-2 : Int) - last).toNat := by
    refine cut_up ?_
    rw [Nat.shiftLeft_eq]
    have h1 := h (p.natAbs + last.natAbs + 2) (by omega) (by omega)
    have h2 := Nat.mul_le_mul_right (2 ^ (last - p).toNat) h1
    refine Nat.le_of_mul_le_mul_right (c := 2 ^ (last + ((p.natAbs + last.natAbs + 2 : Nat) : Int)).toNat) ?_ (Nat.pow_pos (by decide))
    rw [Nat.mul_assoc, ← Nat.pow_add, Nat.mul_assoc C, ← Nat.pow_add, Nat.mul_assoc C, ← Nat.pow_add]
    rw [Nat.mul_assoc, ← Nat.pow_add, Nat.mul_assoc C, ← Nat.pow_add] at h2
    rw [show (p - last).toNat + (last + ((p.natAbs + last.natAbs + 2 : Nat) : Int)).toNat = (p + ((p.natAbs + last.natAbs + 2 : Nat) : Int)).toNat + (last - p).toNat by omega]
    rw [show ((-2 : Int) - last).toNat + (last - p).toNat + (last + ((p.natAbs + last.natAbs + 2 : Nat) : Int)).toNat = ((-2 : Int) + ((p.natAbs + last.natAbs + 2 : Nat) : Int)).toNat + (last - p).toNat by omega]
    exact h2
  have hN : (last - P).toNat = 0 ∨ 2 ^ F ≤ Toward.even.cut false (D <<< (p - last).toNat) (last - p).toNat := by
    by_cases hl : last = P
    · left; omega
    · right
      refine cut_dn ?_
      rw [Nat.shiftLeft_eq]
      have hl2 : 2 ^ D.log2 ≤ D := Nat.log2_self_le h0
      refine Nat.le_trans ?_ (Nat.mul_le_mul_right _ hl2)
      rw [← Nat.pow_add, ← Nat.pow_add]
      exact Nat.pow_le_pow_right (by decide) (by omega)
  have hle : LeC C (Toward.even.cut false (D <<< (p - last).toNat) (last - p).toNat) last := by
    refine LeC_of (last.natAbs + 2) (by omega) (by omega) ?_
    refine Nat.le_trans (Nat.mul_le_mul_right _ hc) (Nat.le_of_eq ?_)
    rw [Nat.mul_assoc, ← Nat.pow_add]
    congr 2
    omega
  generalize Toward.even.cut false (D <<< (p - last).toNat) (last - p).toNat = kept at *
  have hlt : (last - P).toNat + 2 < q := by omega
  obtain ⟨m, e, hr, hme⟩ := rung_reads hB hI hP (s := false) hkept hN hlt
  have hmin : min ((last - P).toNat * f.binade + kept) f.infRung = (last - P).toNat * f.binade + kept := by
    refine Nat.min_eq_left ?_
    rw [hB, hI]
    have : ((last - P).toNat + 3) * 2 ^ F ≤ q * 2 ^ F := Nat.mul_le_mul_right _ (by omega)
    rw [Nat.add_mul] at this
    have h2 : 2 ^ (F + 1) = 2 * 2 ^ F := by rw [Nat.pow_succ]; omega
    omega
  rw [hmin]
  refine ⟨m, e, hr, ?_⟩
  rcases hme with ⟨rfl, he⟩ | ⟨rfl, hk2, he⟩
  · have : e = last := by omega
    subst this
    exact hle
  · have e1 : e = last + 1 := by omega
    subst e1
    subst hk2
    refine LeC_of (last.natAbs + 2) (by omega) (by omega) ?_
    have := hle (last.natAbs + 2) (by omega) (by omega)
    rw [← Nat.pow_add] at this ⊢
    rw [show F + (last + 1 + ((last.natAbs + 2 : Nat) : Int)).toNat = F + 1 + (last + ((last.natAbs + 2 : Nat) : Int)).toNat by omega]
    exact this
theorem near_leC {C D : Nat} {p : Int} (h : LeC C D p) (hC : C ≤ 4) : ∃ m e, FloatKind.decode .f64 (FloatKind.encode .f64 (.number false D p)) = .number false m e ∧ LeC C m e :=
  leC_aux (f := double) (F := 52) (q := 2047) (P := -1074) rfl rfl rfl rfl h hC (by decide) (by decide) (by decide)
def Qn (C : Nat) (x : Nat) : Prop := ∃ m e, FloatKind.decode .f64 x = .number false m e ∧ LeC C m e
theorem quarter_less {C x : Nat} (hx : Qn (C + 1) x) (hC : C ≤ 3) (h : fge .f64 x 4598175219545276416 = true) : Qn C (farith .sub .f64 x 4598175219545276416) := by
  obtain ⟨m, e, h1, h2⟩ := hx
  have hq : FloatKind.decode .f64 4598175219545276416 = .number false 4503599627370496 (-54) := by decide
  unfold fge at h
  rw [ord_pos h1 hq, compare_nat] at h
  have hle : 4503599627370496 * 2 ^ ((-54 : Int) - min e (-54)).toNat ≤ m * 2 ^ (e - min e (-54)).toNat := by
    by_cases a : m * 2 ^ (e - min e (-54)).toNat < 4503599627370496 * 2 ^ ((-54 : Int) - min e (-54)).toNat
    · rw [if_pos a] at h; simp at h
    · omega
  rw [diff_num h1 hq hle]
  have key : LeC C (m * 2 ^ (e - min e (-54)).toNat - 4503599627370496 * 2 ^ ((-54 : Int) - min e (-54)).toNat) (min e (-54)) := by
    refine LeC_of (e.natAbs + 54) (by omega) (by omega) ?_
    have h3 := h2 (e.natAbs + 54) (by omega) (by omega)
    rw [Nat.sub_mul, Nat.mul_assoc, ← Nat.pow_add, Nat.mul_assoc 4503599627370496, ← Nat.pow_add]
    rw [show (e - min e (-54)).toNat + (min e (-54) + ((e.natAbs + 54 : Nat) : Int)).toNat = (e + ((e.natAbs + 54 : Nat) : Int)).toNat by omega]
    rw [show ((-54 : Int) - min e (-54)).toNat + (min e (-54) + ((e.natAbs + 54 : Nat) : Int)).toNat = e.natAbs by omega]
    rw [show ((-2 : Int) + ((e.natAbs + 54 : Nat) : Int)).toNat = 52 + e.natAbs by omega] at h3 ⊢
    rw [Nat.pow_add, show (2 : Nat) ^ 52 = 4503599627370496 from rfl] at h3 ⊢
    rw [Nat.add_mul] at h3
    omega
  exact near_leC key (by omega)
theorem quarter_none {x : Nat} (hx : Qn 0 x) : fge .f64 x 4598175219545276416 = false := by
  obtain ⟨m, e, h1, h2⟩ := hx
  have h3 := h2 (e.natAbs + 2) (by omega) (by omega)
  have hm : m = 0 := by
    rcases Nat.eq_zero_or_pos m with h | h
    · exact h
    · have := Nat.mul_pos h (Nat.pow_pos (show 0 < 2 by decide) (n := (e + ((e.natAbs + 2 : Nat) : Int)).toNat))
      omega
  subst hm
  exact fge_zr ⟨_, _, h1⟩ quarter_gt
/-- the quarters are taken away -/
def qloop : Nat → Nat → Nat → Nat × Nat
  | 0, f, q => (f, q)
  | n + 1, f, q => if fge .f64 f 4598175219545276416 = true then qloop n (farith .sub .f64 f 4598175219545276416) (q + 1) else (f, q)
theorem qloop_end : ∀ (n f q : Nat), n ≤ 4 → Qn n f → fge .f64 (qloop n f q).1 4598175219545276416 = false ∧ Bd .f64 0 (qloop n f q).1
  | 0, f, q, _, h => ⟨quarter_none h, by obtain ⟨m, e, h1, h2⟩ := h; exact ⟨_, _, _, h1, h2.lep (by decide)⟩⟩
  | n + 1, f, q, hn, h => by
    unfold qloop
    cases c : fge .f64 f 4598175219545276416
    · rw [if_neg (by decide)]
      obtain ⟨m, e, h1, h2⟩ := h
      exact ⟨c, _, _, _, h1, h2.lep hn⟩
    · rw [if_pos rfl]
      exact qloop_end n _ _ (by omega) (quarter_less h (by omega) c)
theorem qloop_pz {f : Nat} (h : Pz 0 f) (q : Nat) : fge .f64 (qloop 4 f q).1 4598175219545276416 = false ∧ Bd .f64 0 (qloop 4 f q).1 := by
  rcases h with ⟨m, e, h1, h2⟩ | h
  · refine qloop_end 4 f q (by decide) ⟨m, e, h1, ?_⟩
    refine LeC_of (e.natAbs + 2) (by omega) (by omega) ?_
    have := h2 (e.natAbs + 2) (by omega) (by omega)
    rw [show ((0 : Int) + ((e.natAbs + 2 : Nat) : Int)).toNat = 2 + ((-2 : Int) + ((e.natAbs + 2 : Nat) : Int)).toNat by omega, Nat.pow_add] at this
    exact this
  · have c := fge_zr h quarter_gt
    have e : qloop 4 f q = (f, q) := by
      unfold qloop
      rw [c, if_neg (by decide)]
    rw [e]
    exact ⟨c, h.bd 0⟩
/-- a loop that takes quarters away -/
theorem qloop_ok {J : Nat → Int → Prop} {X : Nat → Int → Prop} (hJ : ∀ f q, ifB (fge .f64 f 4598175219545276416) (J (farith .sub .f64 f 4598175219545276416) (Go.IntKind.wrap .i64 (q + 1))) (X f q) → J f q) :
    ∀ (n f q : Nat), q + n ≤ 100 → fge .f64 (qloop n f q).1 4598175219545276416 = false → X (qloop n f q).1 ((qloop n f q).2 : Int) → J f (q : Int)
  | 0, f, q, _, h, hx => hJ _ _ (ifF h hx)
  | n + 1, f, q, hq, h, hx => by
    unfold qloop at h hx
    cases c : fge .f64 f 4598175219545276416
    · rw [c, if_neg (by decide)] at h hx
      exact hJ _ _ (ifF c hx)
    · rw [c, if_pos rfl] at h hx
      have := qloop_ok hJ n _ (q + 1) (by omega) h hx
      refine hJ _ _ (ifT c ?_)
      rw [wrap_succ (by omega)]
      exact this
end Go.K
