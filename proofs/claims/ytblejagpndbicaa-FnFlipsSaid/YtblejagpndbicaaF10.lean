/- Bounds of floats by powers of two. -/
import Derived.Test.YtblejagpndbicaaF9
set_option linter.unusedSimpArgs false
set_option linter.unusedVariables false
set_option maxRecDepth 10000
namespace Go.K
open Ieee

/-- at most, and at least, a power of two -/
def LeP (k : Int) (m : Nat) (e : Int) : Prop := ∀ B : Nat, 0 ≤ e + B → 0 ≤ k + B → m * 2 ^ (e + B).toNat ≤ 2 ^ (k + B).toNat
def GeP (k : Int) (m : Nat) (e : Int) : Prop := ∀ B : Nat, 0 ≤ e + B → 0 ≤ k + B → 2 ^ (k + B).toNat ≤ m * 2 ^ (e + B).toNat
theorem pow_more {x : Int} {B C : Nat} (h : 0 ≤ x + B) : 2 ^ (x + ((B + C : Nat) : Int)).toNat = 2 ^ (x + B).toNat * 2 ^ C := by
  rw [← Nat.pow_add]; congr 1; omega
theorem LeP_of {k : Int} {m : Nat} {e : Int} (B : Nat) (h1 : 0 ≤ e + B) (h2 : 0 ≤ k + B) (h : m * 2 ^ (e + B).toNat ≤ 2 ^ (k + B).toNat) : LeP k m e := by
  intro C c1 c2
  have hB := Nat.mul_le_mul_right (2 ^ C) h
  rw [Nat.mul_assoc, ← pow_more h1, ← pow_more h2, Nat.add_comm B C, pow_more c1, pow_more c2, ← Nat.mul_assoc] at hB
  exact Nat.le_of_mul_le_mul_right hB (Nat.pow_pos (by decide))
theorem GeP_of {k : Int} {m : Nat} {e : Int} (B : Nat) (h1 : 0 ≤ e + B) (h2 : 0 ≤ k + B) (h : 2 ^ (k + B).toNat ≤ m * 2 ^ (e + B).toNat) : GeP k m e := by
  intro C c1 c2
  have hB := Nat.mul_le_mul_right (2 ^ C) h
  rw [Nat.mul_assoc, ← pow_more h1, ← pow_more h2, Nat.add_comm B C, pow_more c1, pow_more c2, ← Nat.mul_assoc] at hB
  exact Nat.le_of_mul_le_mul_right hB (Nat.pow_pos (by decide))
theorem LeP.mono {k j : Int} {m : Nat} {e : Int} (h : LeP k m e) (hj : k ≤ j) : LeP j m e := by
  refine LeP_of (e.natAbs + k.natAbs + j.natAbs) (by omega) (by omega) (Nat.le_trans (h _ (by omega) (by omega)) (Nat.pow_le_pow_right (by decide) (by omega)))
theorem LeP.zero {k e : Int} : LeP k 0 e := by
  intro B _ _
  simp
theorem LeP.log {k : Int} {m : Nat} {e : Int} (h : LeP k m e) (h0 : 0 < m) : e + (m.log2 : Int) ≤ k := by
  have hl : 2 ^ m.log2 ≤ m := Nat.log2_self_le (by omega)
  have := h (e.natAbs + k.natAbs) (by omega) (by omega)
  have h2 := Nat.le_trans (Nat.mul_le_mul_right (2 ^ (e + ((e.natAbs + k.natAbs : Nat) : Int)).toNat) hl) this
  rw [← Nat.pow_add] at h2
  have := (Nat.pow_le_pow_iff_right (by decide)).1 h2
  omega
theorem GeP.log {k : Int} {m : Nat} {e : Int} (h : GeP k m e) : 0 < m ∧ k ≤ e + (m.log2 : Int) := by
  have hl : m < 2 ^ (m.log2 + 1) := Nat.lt_log2_self
  have h1 := h (e.natAbs + k.natAbs) (by omega) (by omega)
  have hp : 0 < 2 ^ (k + ((e.natAbs + k.natAbs : Nat) : Int)).toNat := Nat.pow_pos (by decide)
  have h0 : 0 < m := by
    rcases Nat.eq_zero_or_pos m with h0 | h0
    · rw [h0] at h1; omega
    · exact h0
  refine ⟨h0, ?_⟩
  have h2 := Nat.lt_of_le_of_lt h1 (Nat.mul_lt_mul_of_pos_right hl (Nat.pow_pos (by decide)))
  rw [← Nat.pow_add] at h2
  have := (Nat.pow_lt_pow_iff_right (by decide)).1 h2
  omega

/-! ### rounding -/
theorem cut_up {s : Bool} {n d c : Nat} (h : n ≤ c * 2 ^ d) : Toward.even.cut s n d ≤ c := by
  unfold Toward.cut
  dsimp only
  rw [Nat.shiftLeft_eq, Nat.one_mul]
  by_cases hd : d ≤ n.log2 + 2
  · rw [Nat.min_eq_left hd]
    have hp : 0 < 2 ^ d := Nat.pow_pos (by decide)
    generalize 2 ^ d = g at *
    rcases Nat.lt_or_ge n (c * g) with hlt | hge
    · have h1 : n / g < c := (Nat.div_lt_iff_lt_mul hp).2 hlt
      generalize (decide (g < 2 * (n % g)) || (g == 2 * (n % g) && n / g % 2 == 1)) = b
      cases b <;> simp <;> omega
    · have e : n = c * g := by omega
      have e1 : n % g = 0 := by rw [e, Nat.mul_mod_left]
      have e2 : n / g = c := by rw [e, Nat.mul_div_cancel _ hp]
      rw [e1, e2]
      have b1 : decide (g < 2 * 0) = false := by simp
      have b2 : (g == 2 * 0) = false := by simp; omega
      rw [b1, b2]; simp
  · rw [Nat.min_eq_right (by omega)]
    have hn : n < 2 ^ (n.log2 + 1) := Nat.lt_log2_self
    have h2 : 2 ^ (n.log2 + 2) = 2 * 2 ^ (n.log2 + 1) := by rw [Nat.pow_succ _ (n.log2 + 1)]; omega
    rw [h2, Nat.mod_eq_of_lt (by omega), Nat.div_eq_of_lt (by omega)]
    have b1 : decide (2 * 2 ^ (n.log2 + 1) < 2 * n) = false := by simp; omega
    have b2 : (2 * 2 ^ (n.log2 + 1) == 2 * n) = false := by simp; omega
    rw [b1, b2]; simp
theorem cut_dn {s : Bool} {n d c : Nat} (h : c * 2 ^ d ≤ n) : c ≤ Toward.even.cut s n d := by
  unfold Toward.cut
  dsimp only
  rw [Nat.shiftLeft_eq, Nat.one_mul]
  have hle : 2 ^ min d (n.log2 + 2) ≤ 2 ^ d := Nat.pow_le_pow_right (by decide) (Nat.min_le_left ..)
  have hp : 0 < 2 ^ min d (n.log2 + 2) := Nat.pow_pos (by decide)
  generalize 2 ^ min d (n.log2 + 2) = g at *
  have h1 : c ≤ n / g := (Nat.le_div_iff_mul_le hp).2 (Nat.le_trans (Nat.mul_le_mul_left c hle) h)
  omega
theorem rung_reads {f : Format} {F q : Nat} {P : Int} (hB : f.binade = 2 ^ F) (hI : f.infRung = q * 2 ^ F) (hP : f.leastPlace = P) {s : Bool} {N kept : Nat} (hk : kept ≤ 2 ^ (F + 1)) (hN : N = 0 ∨ 2 ^ F ≤ kept) (hlt : N + 2 < q) :
    ∃ m e, f.read (f.word s (N * f.binade + kept)) = .number s m e ∧ ((m = kept ∧ e = P + N) ∨ (m = 2 ^ F ∧ kept = 2 ^ (F + 1) ∧ e = P + N + 1)) := by
  have hp : 0 < 2 ^ F := Nat.pow_pos (by decide)
  have h2 : 2 ^ (F + 1) = 2 * 2 ^ F := by rw [Nat.pow_succ]; omega
  rw [h2] at hk ⊢
  have hlt' : N * 2 ^ F + kept < q * 2 ^ F := by
    have : (N + 3) * 2 ^ F ≤ q * 2 ^ F := Nat.mul_le_mul_right _ (by omega)
    rw [Nat.add_mul] at this
    omega
  rw [hB, read_word (by rw [hI]; omega), hB, hI, hP]
  generalize 2 ^ F = b at *
  by_cases hR : N * b + kept < b
  · rw [if_pos hR]
    have : N = 0 := by
      rcases hN with h | h
      · exact h
      · omega
    subst this
    exact ⟨_, _, rfl, Or.inl ⟨by omega, by omega⟩⟩
  · rw [if_neg hR, if_pos hlt']
    refine ⟨_, _, rfl, ?_⟩
    rcases Nat.lt_or_ge kept (2 * b) with h | h
    · left
      have hb : b ≤ kept := by
        rcases hN with h | h
        · subst h; omega
        · exact h
      have e0 : N * b + kept = (N + 1) * b + (kept - b) := by rw [Nat.add_mul]; omega
      have e1 : (N * b + kept) % b = kept - b := by
        rw [e0, Nat.mul_comm, Nat.mul_add_mod, Nat.mod_eq_of_lt (by omega)]
      have e2 : (N * b + kept) / b = N + 1 := by
        rw [e0, Nat.mul_comm, Nat.mul_add_div hp, Nat.div_eq_of_lt (by omega)]
      rw [e1, e2]
      exact ⟨by omega, by omega⟩
    · right
      have hk2 : kept = 2 * b := by omega
      have e0 : N * b + kept = (N + 2) * b + 0 := by rw [Nat.add_mul]; omega
      have e1 : (N * b + kept) % b = 0 := by
        rw [e0, Nat.mul_comm, Nat.mul_add_mod, Nat.mod_eq_of_lt (by omega)]
      have e2 : (N * b + kept) / b = N + 2 := by
        rw [e0, Nat.mul_comm, Nat.mul_add_div hp, Nat.div_eq_of_lt (by omega)]
      rw [e1, e2]
      exact ⟨by omega, hk2, by omega⟩
/-- the nearest word of a number that is at most, or at least, a power of two -/
theorem near_aux {f : Format} {F q : Nat} {P : Int} (hB : f.binade = 2 ^ F) (hI : f.infRung = q * 2 ^ F) (hP : f.leastPlace = P) (hF : f.fractionBits = F) {s : Bool} {D : Nat} {p k : Int} (h : LeP k D p) (hk : P ≤ k) (hq : k - P + 2 < q) :
    ∃ m e, f.read (f.nearest s D p) = .number s m e ∧ LeP k m e ∧ ∀ j, P ≤ j → GeP j D p → GeP j m e := by
  unfold Format.nearest
  by_cases h0 : D = 0
  · rw [if_pos h0]
    have hz : (0 : Nat) < q := by omega
    have : f.read (f.word s 0) = .number s 0 P := by
      rw [read_word (Nat.zero_le _), hB, if_pos (Nat.pow_pos (by decide)), hP]
    exact ⟨_, _, this, LeP.zero, fun j _ hj => absurd hj.log.1 (by omega)⟩
  rw [if_neg h0]
  dsimp only
  rw [hP, hF]
  have hlog := h.log (by omega)
  generalize hL : max (p + (D.log2 : Int) - (F : Int)) P = last
  have hkept := kept_le (s := s) (n := D) (F := F) (p := p) (last := last) (by omega) (by omega)
  have hlk : last ≤ k := by omega
  -- the number, in units of the last place
  have up : ∀ c : Nat, D * 2 ^ (p - last).toNat ≤ c * 2 ^ (last - p).toNat → Toward.even.cut s (D <<< (p - last).toNat) (last - p).toNat ≤ c := by
    intro c hc
    exact cut_up (by rw [Nat.shiftLeft_eq]; exact hc)
  have dn : ∀ c : Nat, c * 2 ^ (last - p).toNat ≤ D * 2 ^ (p - last).toNat → c ≤ Toward.even.cut s (D <<< (p - last).toNat) (last - p).toNat := by
    intro c hc
    exact cut_dn (by rw [Nat.shiftLeft_eq]; exact hc)
  have hN : (last - P).toNat = 0 ∨ 2 ^ F ≤ Toward.even.cut s (D <<< (p - last).toNat) (last - p).toNat := by
    by_cases hl : last = P
    · left; omega
    · right
      refine dn _ ?_
      have hl2 : 2 ^ D.log2 ≤ D := Nat.log2_self_le h0
      refine Nat.le_trans ?_ (Nat.mul_le_mul_right _ hl2)
      rw [← Nat.pow_add, ← Nat.pow_add]
      exact Nat.pow_le_pow_right (by decide) (by omega)
  -- both bounds
  have scale : ∀ B : Nat, 0 ≤ p + B → 0 ≤ last + B → D * 2 ^ (p + B).toNat * 2 ^ (last - p).toNat = D * 2 ^ (p - last).toNat * 2 ^ (last + B).toNat := by
    intro B h1 h2
    rw [Nat.mul_assoc, Nat.mul_assoc, ← Nat.pow_add, ← Nat.pow_add]
    congr 2
    omega
  have hle : LeP k (Toward.even.cut s (D <<< (p - last).toNat) (last - p).toNat) last := by
    have hc : Toward.even.cut s (D <<< (p - last).toNat) (last - p).toNat ≤ 2 ^ (k - last).toNat := by
      refine up _ ?_
      have h1 := h (p.natAbs + k.natAbs + last.natAbs) (by omega) (by omega)
      have h2 := Nat.mul_le_mul_right (2 ^ (last - p).toNat) h1
      rw [scale _ (by omega) (by omega)] at h2
      refine Nat.le_of_mul_le_mul_right (Nat.le_trans h2 (Nat.le_of_eq ?_)) (Nat.pow_pos (show 0 < 2 by decide) (n := (last + ((p.natAbs + k.natAbs + last.natAbs : Nat) : Int)).toNat))
      rw [← Nat.pow_add, ← Nat.pow_add, ← Nat.pow_add]
      congr 1
      omega
    refine LeP_of (k.natAbs + last.natAbs) (by omega) (by omega) (Nat.le_trans (Nat.mul_le_mul_right _ hc) (Nat.le_of_eq ?_))
    rw [← Nat.pow_add]
    congr 1
    omega
  have hge : ∀ j, P ≤ j → GeP j D p → GeP j (Toward.even.cut s (D <<< (p - last).toNat) (last - p).toNat) last := by
    intro j hj hg
    by_cases hjl : j < last
    · have h1 : 1 ≤ Toward.even.cut s (D <<< (p - last).toNat) (last - p).toNat := by
        rcases hN with h | h
        · omega
        · exact Nat.le_trans Nat.one_le_two_pow h
      refine GeP_of (j.natAbs + last.natAbs) (by omega) (by omega) (Nat.le_trans ?_ (Nat.mul_le_mul_right _ h1))
      rw [Nat.one_mul]
      exact Nat.pow_le_pow_right (by decide) (by omega)
    · have hc : 2 ^ (j - last).toNat ≤ Toward.even.cut s (D <<< (p - last).toNat) (last - p).toNat := by
        refine dn _ ?_
        have h1 := hg (p.natAbs + j.natAbs + last.natAbs) (by omega) (by omega)
        have h2 := Nat.mul_le_mul_right (2 ^ (last - p).toNat) h1
        rw [scale _ (by omega) (by omega)] at h2
        refine Nat.le_of_mul_le_mul_right (Nat.le_trans (Nat.le_of_eq ?_) h2) (Nat.pow_pos (show 0 < 2 by decide) (n := (last + ((p.natAbs + j.natAbs + last.natAbs : Nat) : Int)).toNat))
        rw [← Nat.pow_add, ← Nat.pow_add, ← Nat.pow_add]
        congr 1
        omega
      refine GeP_of (j.natAbs + last.natAbs) (by omega) (by omega) (Nat.le_trans (Nat.le_of_eq ?_) (Nat.mul_le_mul_right _ hc))
      rw [← Nat.pow_add]
      congr 1
      omega
  generalize Toward.even.cut s (D <<< (p - last).toNat) (last - p).toNat = kept at *
  have hlt : (last - P).toNat + 2 < q := by omega
  obtain ⟨m, e, hr, hme⟩ := rung_reads hB hI hP (s := s) hkept hN hlt
  have hmin : min ((last - P).toNat * f.binade + kept) f.infRung = (last - P).toNat * f.binade + kept := by
    refine Nat.min_eq_left ?_
    rw [hB, hI]
    have : ((last - P).toNat + 3) * 2 ^ F ≤ q * 2 ^ F := Nat.mul_le_mul_right _ (by omega)
    rw [Nat.add_mul] at this
    have h2 : 2 ^ (F + 1) = 2 * 2 ^ F := by rw [Nat.pow_succ]; omega
    omega
  rw [hmin]
  refine ⟨m, e, hr, ?_⟩
  rcases hme with ⟨rfl, he⟩ | ⟨rfl, hk2, he⟩
  · have : e = last := by omega
    subst this
    exact ⟨hle, hge⟩
  · have e1 : e = last + 1 := by omega
    subst e1
    subst hk2
    have same : ∀ B : Nat, 0 ≤ last + B → 2 ^ F * 2 ^ (last + 1 + B).toNat = 2 ^ (F + 1) * 2 ^ (last + B).toNat := by
      intro B hb
      rw [← Nat.pow_add, ← Nat.pow_add]
      congr 1
      omega
    constructor
    · refine LeP_of (k.natAbs + last.natAbs + 1) (by omega) (by omega) ?_
      rw [same _ (by omega)]
      exact hle _ (by omega) (by omega)
    · intro j hj hg
      refine GeP_of (j.natAbs + last.natAbs + 1) (by omega) (by omega) ?_
      rw [same _ (by omega)]
      exact hge j hj hg _ (by omega) (by omega)
def okP : FloatKind → Int → Prop
  | .f32, k => -149 ≤ k ∧ k ≤ 102
  | .f64, k => -1074 ≤ k ∧ k ≤ 966
def lowP : FloatKind → Int
  | .f32 => -149
  | .f64 => -1074
theorem near {fk : FloatKind} {s : Bool} {D : Nat} {p k : Int} (h : LeP k D p) (hk : okP fk k) :
    ∃ m e, fk.decode (fk.encode (.number s D p)) = .number s m e ∧ LeP k m e ∧ ∀ j, lowP fk ≤ j → GeP j D p → GeP j m e := by
  cases fk
  · obtain ⟨h1, h2⟩ := hk
    exact near_aux (f := single) (F := 23) (q := 255) (P := -149) rfl rfl rfl rfl h h1 (by omega)
  · obtain ⟨h1, h2⟩ := hk
    exact near_aux (f := double) (F := 52) (q := 2047) (P := -1074) rfl rfl rfl rfl h h1 (by omega)
end Go.K
