/- Sums of shares of points: their quotients are finite. -/
import Derived.Test.YtblejagpndbicaaF14
set_option linter.unusedSimpArgs false
set_option linter.unusedVariables false
set_option maxRecDepth 10000
namespace Go.K
open Ieee

/-- at most some times a power of two -/
def LeK (C : Nat) (k : Int) (m : Nat) (e : Int) : Prop := ∀ B : Nat, 0 ≤ e + B → 0 ≤ k + B → m * 2 ^ (e + B).toNat ≤ C * 2 ^ (k + B).toNat
theorem LeK_of {C m : Nat} {k e : Int} (B : Nat) (h1 : 0 ≤ e + B) (h2 : 0 ≤ k + B) (h : m * 2 ^ (e + B).toNat ≤ C * 2 ^ (k + B).toNat) : LeK C k m e := by
  intro D d1 d2
  have hB := Nat.mul_le_mul_right (2 ^ D) h
  rw [Nat.mul_assoc, Nat.mul_assoc, ← pow_more h1, ← pow_more h2, Nat.add_comm B D, pow_more d1, pow_more d2, ← Nat.mul_assoc, ← Nat.mul_assoc] at hB
  exact Nat.le_of_mul_le_mul_right hB (Nat.pow_pos (by decide))
theorem LeK.lep {C m c : Nat} {k e : Int} (h : LeK C k m e) (hC : C ≤ 2 ^ c) : LeP (k + c) m e := by
  refine LeP_of (e.natAbs + k.natAbs) (by omega) (by omega) (Nat.le_trans (h (e.natAbs + k.natAbs) (by omega) (by omega)) ?_)
  rw [show (k + (c : Int) + ((e.natAbs + k.natAbs : Nat) : Int)).toNat = c + (k + ((e.natAbs + k.natAbs : Nat) : Int)).toNat by omega, Nat.pow_add]
  exact Nat.mul_le_mul_right _ hC
theorem LeP.lek {m c : Nat} {k e : Int} (h : LeP (k + c) m e) : LeK (2 ^ c) k m e := by
  refine LeK_of (e.natAbs + k.natAbs) (by omega) (by omega) ?_
  have := h (e.natAbs + k.natAbs) (by omega) (by omega)
  rw [show (k + (c : Int) + ((e.natAbs + k.natAbs : Nat) : Int)).toNat = c + (k + ((e.natAbs + k.natAbs : Nat) : Int)).toNat by omega, Nat.pow_add] at this
  exact this
theorem LeK.mono {C D m : Nat} {k j e : Int} (h : LeK C k m e) (hC : C ≤ D) (hj : k ≤ j) : LeK D j m e := by
  refine LeK_of (e.natAbs + k.natAbs + j.natAbs) (by omega) (by omega) (Nat.le_trans (h _ (by omega) (by omega)) ?_)
  exact Nat.mul_le_mul hC (Nat.pow_le_pow_right (by decide) (by omega))
theorem LeK.zero {C : Nat} {k e : Int} : LeK C k 0 e := by
  intro B _ _
  simp
theorem LeK.down {C m : Nat} {k e b : Int} (h : LeK C k m e) (hb : b ≤ e) : LeK C k (m * 2 ^ (e - b).toNat) b := by
  refine LeK_of (e.natAbs + b.natAbs + k.natAbs) (by omega) (by omega) ?_
  rw [Nat.mul_assoc, ← Nat.pow_add, show (e - b).toNat + (b + ((e.natAbs + b.natAbs + k.natAbs : Nat) : Int)).toNat = (e + ((e.natAbs + b.natAbs + k.natAbs : Nat) : Int)).toNat by omega]
  exact h _ (by omega) (by omega)
theorem LeK.add {C D m n t : Nat} {k e : Int} (h1 : LeK C k m e) (h2 : LeK D k n e) (ht : t ≤ m + n) : LeK (C + D) k t e := by
  have a := h1 (e.natAbs + k.natAbs) (by omega) (by omega)
  have b := h2 (e.natAbs + k.natAbs) (by omega) (by omega)
  refine LeK_of (e.natAbs + k.natAbs) (by omega) (by omega) ?_
  have c := Nat.mul_le_mul_right (2 ^ (e + ((e.natAbs + k.natAbs : Nat) : Int)).toNat) ht
  rw [Nat.add_mul] at c ⊢
  omega
theorem leK_aux {f : Format} {F q c : Nat} {P k : Int} (hB : f.binade = 2 ^ F) (hI : f.infRung = q * 2 ^ F) (hP : f.leastPlace = P) (hF : f.fractionBits = F) {s : Bool} {C D : Nat} {p : Int} (h : LeK C k D p) (hC : C ≤ 2 ^ c) (hc : c ≤ F) (hPk : P ≤ k) (hq : k + c - P + 2 < q) : ∃ m e, f.read (f.nearest s D p) = .number s m e ∧ LeK C k m e := by
  have hl := h.lep hC
  unfold Format.nearest
  by_cases h0 : D = 0
  · rw [if_pos h0]
    have : f.read (f.word s 0) = .number s 0 P := by
      rw [read_word (Nat.zero_le _), hB, if_pos (Nat.pow_pos (by decide)), hP]
    exact ⟨_, _, this, LeK.zero⟩
  rw [if_neg h0]
  dsimp only
  rw [hP, hF]
  have hlog := hl.log (by omega)
  generalize hL : max (p + (D.log2 : Int) - (F : Int)) P = last
  have hkept := kept_le (s := s) (n := D) (F := F) (p := p) (last := last) (by omega) (by omega)
  have hlk : last ≤ k := by omega
  have hcut : Toward.even.cut s (D <<< (p - last).toNat) (last - p).toNat ≤ C * 2 ^ (k - last).toNat := by
    refine cut_up ?_
    rw [Nat.shiftLeft_eq]
    have h1 := h (p.natAbs + last.natAbs + k.natAbs) (by omega) (by omega)
    have h2 := Nat.mul_le_mul_right (2 ^ (last - p).toNat) h1
    refine Nat.le_of_mul_le_mul_right (c := 2 ^ (last + ((p.natAbs + last.natAbs + k.natAbs : Nat) : Int)).toNat) ?_ (Nat.pow_pos (by decide))
    rw [Nat.mul_assoc, ← Nat.pow_add, Nat.mul_assoc C, ← Nat.pow_add, Nat.mul_assoc C, ← Nat.pow_add]
    rw [Nat.mul_assoc, ← Nat.pow_add, Nat.mul_assoc C, ← Nat.pow_add] at h2
    rw [show (p - last).toNat + (last + ((p.natAbs + last.natAbs + k.natAbs : Nat) : Int)).toNat = (p + ((p.natAbs + last.natAbs + k.natAbs : Nat) : Int)).toNat + (last - p).toNat by omega]
    rw [show (k - last).toNat + (last - p).toNat + (last + ((p.natAbs + last.natAbs + k.natAbs : Nat) : Int)).toNat = (k + ((p.natAbs + last.natAbs + k.natAbs : Nat) : Int)).toNat + (last - p).toNat by omega]
    exact h2
  have hN : (last - P).toNat = 0 ∨ 2 ^ F ≤ Toward.even.cut s (D <<< (p - last).toNat) (last - p).toNat := by
    by_cases hl : last = P
    · left; omega
    · right
      refine cut_dn ?_
      rw [Nat.shiftLeft_eq]
      have hl2 : 2 ^ D.log2 ≤ D := Nat.log2_self_le h0
      refine Nat.le_trans ?_ (Nat.mul_le_mul_right _ hl2)
      rw [← Nat.pow_add, ← Nat.pow_add]
      exact Nat.pow_le_pow_right (by decide) (by omega)
  have hle : LeK C k (Toward.even.cut s (D <<< (p - last).toNat) (last - p).toNat) last := by
    refine LeK_of (last.natAbs + k.natAbs) (by omega) (by omega) ?_
    refine Nat.le_trans (Nat.mul_le_mul_right _ hcut) (Nat.le_of_eq ?_)
    rw [Nat.mul_assoc, ← Nat.pow_add]
    congr 2
    omega
  generalize Toward.even.cut s (D <<< (p - last).toNat) (last - p).toNat = kept at *
  have hlt : (last - P).toNat + 2 < q := by omega
  obtain ⟨m, e, hr, hme⟩ := rung_reads hB hI hP (s := s) hkept hN hlt
  have hmin : min ((last - P).toNat * f.binade + kept) f.infRung = (last - P).toNat * f.binade + kept := by
    refine Nat.min_eq_left ?_
    rw [hB, hI]
    have : ((last - P).toNat + 3) * 2 ^ F ≤ q * 2 ^ F := Nat.mul_le_mul_right _ (by omega)
    rw [Nat.add_mul] at this
    have h2 : 2 ^ (F + 1) = 2 * 2 ^ F := by rw [Nat.pow_succ]; omega
    omega
  rw [hmin]
  refine ⟨m, e, hr, ?_⟩
  rcases hme with ⟨rfl, he⟩ | ⟨rfl, hk2, he⟩
  · have : e = last := by omega
    subst this
    exact hle
  · have e1 : e = last + 1 := by omega
    subst e1
    subst hk2
    refine LeK_of (last.natAbs + k.natAbs + 1) (by omega) (by omega) ?_
    have := hle (last.natAbs + k.natAbs + 1) (by omega) (by omega)
    rw [← Nat.pow_add] at this ⊢
    rw [show F + (last + 1 + ((last.natAbs + k.natAbs + 1 : Nat) : Int)).toNat = F + 1 + (last + ((last.natAbs + k.natAbs + 1 : Nat) : Int)).toNat by omega]
    exact this
theorem near32 {C D : Nat} {k p : Int} {s : Bool} (h : LeK C k D p) (hC : C ≤ 2 ^ 11) (h1 : -149 ≤ k) (h2 : k ≤ 90) : ∃ m e, FloatKind.decode .f32 (FloatKind.encode .f32 (.number s D p)) = .number s m e ∧ LeK C k m e :=
  leK_aux (f := single) (F := 23) (q := 255) (P := -149) (c := 11) rfl rfl rfl rfl h hC (by decide) h1 (by omega)

/-! ### there and back -/
theorem down_bd {z : Nat} {k : Int} (h : Bd .f64 k z) (h1 : -149 ≤ k) (h2 : k ≤ 102) : Bd .f32 k (fconv .f64 .f32 z) := by
  obtain ⟨s, m, e, a, b⟩ := h
  obtain ⟨M, E, p, q, _⟩ := near (fk := .f32) (s := s) b ⟨h1, h2⟩
  have : fconv .f64 .f32 z = FloatKind.encode .f32 (.number s m e) := by
    unfold fconv
    rw [if_neg (by decide), a]
  rw [this]
  exact ⟨_, _, _, p, q⟩
theorem up_bd {z : Nat} {k : Int} (h : Bd .f32 k z) (h1 : -1074 ≤ k) (h2 : k ≤ 966) : Bd .f64 k (fconv .f32 .f64 z) := by
  obtain ⟨s, m, e, a, b⟩ := h
  obtain ⟨M, E, p, q, _⟩ := near (fk := .f64) (s := s) b ⟨h1, h2⟩
  have : fconv .f32 .f64 z = FloatKind.encode .f64 (.number s m e) := by
    unfold fconv
    rw [if_neg (by decide), a]
  rw [this]
  exact ⟨_, _, _, p, q⟩
theorem fofint_bd {fk : FloatKind} {n : Nat} {k : Nat} (h : n ≤ 2 ^ k) (ok : okP fk k) : Bd fk k (fofint fk (n : Int)) := by
  have hl : LeP k n 0 := by
    refine LeP_of 0 (by omega) (by omega) ?_
    simpa using h
  obtain ⟨M, E, p, q, _⟩ := near (fk := fk) (s := decide ((n : Int) < 0)) hl ok
  exact ⟨_, _, _, p, q⟩
theorem zero_sub_bd {k : Int} {y : Nat} (hy : Bd .f64 k y) (ok : okP .f64 k) : Bd .f64 k (farith .sub .f64 0 y) := by
  obtain ⟨t, n, j, h3, h4⟩ := hy
  have hz : FloatKind.decode .f64 0 = .number false 0 (-1074) := by decide
  obtain ⟨o, h5, h6⟩ := sub_num hz h3
  rw [h6]
  unfold Datum.sum at h5
  cases h5
  have hb : (signed false 0 ((-1074 : Int) - min (-1074) j).toNat + signed (!t) n (j - min (-1074) j).toNat).natAbs ≤ n * 2 ^ (j - min (-1074) j).toNat := by
    refine Nat.le_trans (Int.natAbs_add_le _ _) ?_
    rw [signed_abs, signed_abs, Nat.zero_mul, Nat.zero_add]
    exact Nat.le_refl _
  obtain ⟨M, E, p, q, _⟩ := near (fk := .f64) (s := if signed false 0 ((-1074 : Int) - min (-1074) j).toNat + signed (!t) n (j - min (-1074) j).toNat = 0 then false && !t else decide (signed false 0 ((-1074 : Int) - min (-1074) j).toNat + signed (!t) n (j - min (-1074) j).toNat < 0)) ((h4.down (b := min (-1074) j) (by omega)).le hb) ok
  exact ⟨_, _, _, p, q⟩

/-! ### sums of shares -/
/-- a share: from nought to one -/
structure Share (p : Nat) (s : Bool) (m : Nat) (e : Int) : Prop where
  num : FloatKind.decode .f32 p = .number s m e
  le : LeP 0 m e
  sign : s = true → m = 0
theorem fge_zero_num {x m : Nat} {e : Int} {s : Bool} (h : FloatKind.decode .f32 x = .number s m e) (hg : fge .f32 x 0 = true) : s = true → m = 0 := by
  intro hs
  subst hs
  have hf := flt_num h
  have hord : forder .f32 x 0 ≠ none := by
    intro hn
    unfold fge at hg
    rw [hn] at hg
    simp at hg
  unfold fge at hg
  unfold flt at hf
  by_cases hm : m = 0
  · exact hm
  · exfalso
    rw [Bool.true_and, decide_eq_true hm] at hf
    have : forder .f32 x 0 = some .lt := by simpa using hf
    rw [this] at hg
    simp at hg
theorem share_of {p : Nat} (h0 : fge .f32 p 0 = true) (h1 : fle .f32 p 1065353216 = true) : ∃ s m e, Share p s m e := by
  have hn := notNaN_of_fge h0
  have hone : FloatKind.decode .f32 1065353216 = .number false 8388608 (-23) := by decide
  cases hd : FloatKind.decode .f32 p with
  | number s m e =>
    have hs := fge_zero_num hd h0
    refine ⟨s, m, e, hd, ?_, hs⟩
    cases s with
    | true => rw [hs rfl]; exact LeP.zero
    | false =>
      unfold fle at h1
      rw [ord_pos hd hone, compare_nat] at h1
      have hle : m * 2 ^ (e - min e (-23)).toNat ≤ 8388608 * 2 ^ ((-23 : Int) - min e (-23)).toNat := by
        by_cases a : m * 2 ^ (e - min e (-23)).toNat < 8388608 * 2 ^ ((-23 : Int) - min e (-23)).toNat
        · omega
        · rw [if_neg a] at h1
          split at h1
          · omega
          · simp at h1
      have hl : LeP 0 8388608 (-23) := LeP_of 23 (by decide) (by decide) (by decide)
      exact LeP.up (b := min e (-23)) ((hl.down (b := min e (-23)) (by omega)).le hle) (by omega)
  | infinity s =>
    exfalso
    have hp : (FloatKind.format .f32).read p = .infinity s := hd
    have hz : (FloatKind.format .f32).read 0 = .number false 0 (-149) := by decide
    have ho : (FloatKind.format .f32).read 1065353216 = .number false 8388608 (-23) := by decide
    unfold fge forder Format.order at h0
    unfold fle forder Format.order at h1
    rw [hp, hz] at h0
    rw [hp, ho] at h1
    cases s <;> simp [Datum.order] at h0 h1
  | nan s t =>
    exfalso
    unfold isNaNW at hn
    rw [hd] at hn; cases hn
/-- what is known of a sum and of the whole -/
def Inv (n S A : Nat) : Prop := ∃ s M i N l, FloatKind.decode .f32 S = .number s M i ∧ FloatKind.decode .f32 A = .number false N l ∧ LeK n 0 N l ∧ ((M = 0 ∧ N = 0) ∨ ∃ j : Int, -149 ≤ j ∧ j ≤ 0 ∧ LeK (4 * n) j M i ∧ GeP j N l)
theorem inv_zero : Inv 0 0 0 := ⟨false, 0, -149, 0, -149, by decide, by decide, LeK.zero, .inl ⟨rfl, rfl⟩⟩
theorem inv_more {n S A : Nat} (h : Inv n S A) : Inv (n + 1) S A := by
  obtain ⟨s, M, i, N, l, h1, h2, h3, h4⟩ := h
  refine ⟨s, M, i, N, l, h1, h2, h3.mono (by omega) (by omega), ?_⟩
  rcases h4 with h4 | ⟨j, a, b, c, d⟩
  · exact .inl h4
  · exact .inr ⟨j, a, b, c.mono (by omega) (by omega), d⟩
theorem whole_step {n A p : Nat} {t : Bool} {m N : Nat} {e l : Int} (hA : FloatKind.decode .f32 A = .number false N l) (hp : Share p t m e) (hK : LeK n 0 N l) (hn : n ≤ 255) :
    ∃ N' l', FloatKind.decode .f32 (farith .add .f32 A p) = .number false N' l' ∧ LeK (n + 1) 0 N' l' ∧ (N = 0 → m = 0 → N' = 0) ∧ (∀ j : Int, -149 ≤ j → (GeP j N l ∨ GeP j m e) → GeP j N' l') := by
  obtain ⟨o, ho, h6⟩ := add_num hA hp.num
  rw [h6]
  unfold Datum.sum at ho
  cases ho
  have e0 : signed t m (e - min l e).toNat = ((m * 2 ^ (e - min l e).toNat : Nat) : Int) := by
    cases t
    · exact signed_false _ _
    · rw [hp.sign rfl]
      unfold signed
      rw [Nat.shiftLeft_eq, Nat.zero_mul]; rfl
  rw [signed_false, e0]
  have a := hK.down (b := min l e) (by omega)
  have b := (LeP.lek (c := 0) (k := 0) hp.le).down (b := min l e) (by omega)
  have sum := a.add b (Nat.le_refl _)
  have up : ∀ j : Int, (GeP j N l ∨ GeP j m e) → GeP j (N * 2 ^ (l - min l e).toNat + m * 2 ^ (e - min l e).toNat) (min l e) := by
    intro j hj
    rcases hj with hj | hj
    · exact (hj.down (b := min l e) (by omega)).le (by omega)
    · exact (hj.down (b := min l e) (by omega)).le (by omega)
  have hz : N = 0 → m = 0 → N * 2 ^ (l - min l e).toNat + m * 2 ^ (e - min l e).toNat = 0 := by
    intro x y; rw [x, y]; simp
  generalize N * 2 ^ (l - min l e).toNat = X at *
  generalize m * 2 ^ (e - min l e).toNat = Y at *
  have e1 : ((X : Int) + (Y : Int)).natAbs = X + Y := by omega
  have e2 : (if ((X : Int) + (Y : Int)) = 0 then false && t else decide ((X : Int) + (Y : Int) < 0)) = false := by
    split
    · rfl
    · exact decide_eq_false (by omega)
  rw [e1, e2]
  obtain ⟨M1, E1, p1, q1⟩ := near32 (s := false) sum (by omega) (by decide) (by decide)
  obtain ⟨M2, E2, p2, q2, r2⟩ := near (fk := .f32) (s := false) (sum.lep (c := 8) (by omega)) ⟨by decide, by decide⟩
  rw [p1] at p2
  cases p2
  refine ⟨M1, E1, p1, q1, fun x y => ?_, fun j hj hg => r2 j hj (up j hg)⟩
  have h0 := hz x y
  rw [h0] at p1
  have : FloatKind.decode .f32 (FloatKind.encode .f32 (.number false 0 (min l e))) = .number false 0 (-149) := by
    show single.read (single.nearest false 0 (min l e)) = _
    unfold Format.nearest
    rw [if_pos rfl]; decide
  rw [this] at p1
  cases p1
  rfl
theorem share_log {p m : Nat} {e : Int} {t : Bool} (hp : Share p t m e) (h0 : 0 < m) : ∃ j : Int, -149 ≤ j ∧ j ≤ 0 ∧ GeP j m e ∧ LeP (j + 1) m e := by
  have hb := single_read_bounds (show single.read p = .number t m e from hp.num)
  have hl := hp.le.log h0
  have hll : 2 ^ m.log2 ≤ m := Nat.log2_self_le (by omega)
  refine ⟨e + m.log2, by omega, hl, ?_, LeP_log (by omega)⟩
  refine GeP_of (e.natAbs) (by omega) (by omega) ?_
  rw [show (e + (m.log2 : Int) + (e.natAbs : Int)).toNat = m.log2 + (e + (e.natAbs : Int)).toNat by omega, Nat.pow_add]
  exact Nat.mul_le_mul_right _ hll
theorem zero_enc (w : Bool) (e : Int) : FloatKind.decode .f32 (FloatKind.encode .f32 (.number w 0 e)) = .number w 0 (-149) := by
  show single.read (single.nearest w 0 e) = _
  unfold Format.nearest
  rw [if_pos rfl]
  cases w <;> decide
theorem inv_step {n S A c p : Nat} {t : Bool} {m : Nat} {e : Int} (h : Inv n S A) (hc : Bd .f32 1 c) (hp : Share p t m e) (hn : n ≤ 255) : Inv (n + 1) (farith .add .f32 S (farith .mul .f32 c p)) (farith .add .f32 A p) := by
  obtain ⟨s, M, i, N, l, h1, h2, h3, h4⟩ := h
  obtain ⟨N', l', a1, a2, a3, a4⟩ := whole_step h2 hp h3 hn
  obtain ⟨u, k, z, c1, c2⟩ := hc
  have hmul := mul_num c1 hp.num
  -- the bound of the share's point
  have main : ∀ j : Int, -149 ≤ j → j ≤ 0 → LeP (j + 1) m e → LeK (4 * n) j M i → (GeP j N l ∨ GeP j m e) → Inv (n + 1) (farith .add .f32 S (farith .mul .f32 c p)) (farith .add .f32 A p) := by
    intro j j1 j2 hm hM hg
    obtain ⟨M1, E1, p1, q1, _⟩ := near (fk := .f32) (s := u ^^ t) (c2.mul hm) ⟨by omega, by omega⟩
    rw [← hmul] at p1
    obtain ⟨o, ho, h6⟩ := add_num h1 p1
    rw [h6]
    unfold Datum.sum at ho
    cases ho
    have q1' : LeP (j + ((2 : Nat) : Int)) M1 E1 := q1.mono (by omega)
    have b1 := hM.down (b := min i E1) (by omega)
    have b2 := (LeP.lek (c := 2) q1').down (b := min i E1) (by omega)
    have ht : (signed s M (i - min i E1).toNat + signed (u ^^ t) M1 (E1 - min i E1).toNat).natAbs ≤ M * 2 ^ (i - min i E1).toNat + M1 * 2 ^ (E1 - min i E1).toNat := by
      rw [← signed_abs s, ← signed_abs (u ^^ t)]
      exact Int.natAbs_add_le _ _
    obtain ⟨M2, E2, p2, q2⟩ := near32 (s := if signed s M (i - min i E1).toNat + signed (u ^^ t) M1 (E1 - min i E1).toNat = 0 then s && (u ^^ t) else decide (signed s M (i - min i E1).toNat + signed (u ^^ t) M1 (E1 - min i E1).toNat < 0)) (b1.add b2 ht) (by omega) j1 (by omega)
    exact ⟨_, _, _, _, _, p2, a1, a2, .inr ⟨j, j1, j2, q2.mono (by omega) (by omega), a4 j j1 hg⟩⟩
  rcases Nat.eq_zero_or_pos m with h0 | h0
  · rcases h4 with ⟨x, y⟩ | ⟨j, g1, g2, g3, g4⟩
    · -- nothing yet
      subst h0
      subst x
      have hz : FloatKind.decode .f32 (farith .mul .f32 c p) = .number (u ^^ t) 0 (-149) := by
        rw [hmul, Nat.mul_zero]
        show single.read (single.nearest (u ^^ t) 0 (z + e)) = _
        unfold Format.nearest
        rw [if_pos rfl]
        cases (u ^^ t) <;> decide
      obtain ⟨o, ho, h6⟩ := add_num h1 hz
      rw [h6]
      unfold Datum.sum at ho
      cases ho
      have e0 : (signed s 0 (i - min i (-149)).toNat + signed (u ^^ t) 0 ((-149 : Int) - min i (-149)).toNat).natAbs = 0 := by
        have x1 := signed_abs s 0 (i - min i (-149)).toNat
        have x2 := signed_abs (u ^^ t) 0 ((-149 : Int) - min i (-149)).toNat
        rw [Nat.zero_mul] at x1 x2
        omega
      rw [e0]
      exact ⟨_, 0, -149, N', l', zero_enc _ _, a1, a2, .inl ⟨rfl, a3 y rfl⟩⟩
    · subst h0
      exact main j g1 g2 LeP.zero g3 (.inl g4)
  · obtain ⟨j', k1, k2, k3, k4⟩ := share_log hp h0
    rcases h4 with ⟨x, y⟩ | ⟨j, g1, g2, g3, g4⟩
    · subst x
      exact main j' k1 k2 k4 LeK.zero (.inr k3)
    · rcases Int.le_total j j' with hj | hj
      · exact main j' k1 k2 k4 (g3.mono (Nat.le_refl _) hj) (.inr k3)
      · exact main j g1 g2 (k4.mono (by omega)) g3 (.inl g4)
theorem inv_quo {n S A : Nat} (h : Inv n S A) (hn : n ≤ 256) (hA : fgt .f32 A 0 = true) : fin .f32 (farith .quo .f32 S A) = true := by
  obtain ⟨s, M, i, N, l, h1, h2, h3, h4⟩ := h
  have hz : FloatKind.decode .f32 0 = .number false 0 (-149) := by decide
  rw [fgt_num h2 hz, Nat.zero_mul] at hA
  have hN : N ≠ 0 := by
    intro h0
    rw [h0, Nat.zero_mul] at hA
    simp at hA
  rcases h4 with ⟨_, y⟩ | ⟨j, g1, g2, g3, g4⟩
  · exact absurd y hN
  · have hS : Bd .f32 (j + 10) S := ⟨_, _, _, h1, g3.lep (c := 10) (by omega)⟩
    have hA : Gt .f32 j (((9 : Nat) : Int)) A := ⟨_, _, h2, by have := h3.lep (c := 9) (by omega); simpa using this, g4⟩
    exact (quo_bd (r := 10) hS hA (by omega) ⟨by decide, by decide⟩).fin
end Go.K
