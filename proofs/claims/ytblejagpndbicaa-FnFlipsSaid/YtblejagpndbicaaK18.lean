/- A call by its contract is as the contract says. -/
import Derived.Test.YtblejagpndbicaaK17
set_option linter.unusedSimpArgs false
set_option linter.unusedVariables false
namespace Go.K
open Go.RowKit

/-- which resource a shape gives -/
def kindOK (s : SR) (r : Res) : Prop :=
  match s with
  | .row E _ => ∃ l, r = .row E l
  | .rd _ => ∃ l, r = .ro l
  | .arr T _ => ∃ l, r = .arr T l
  | .box T _ => ∃ cs, r = .box T cs
  | .rdb _ => ∃ cs, r = .rob cs
  | .snap _ => ∃ l, r = .snap l
  | .keep => True
  | .dead => r = .dead
theorem eR_kind {FR : List Res} {ln : Nat → Nat} {j : Nat} {s : SR} {l l' : List LV} {r : Res} (h : eR FR ln j s l = some (r, l')) : kindOK s r := by
  have lst : ∀ {k : Lk} {f : Lst → Res}, lstR k f l = some (r, l') → ∃ m, r = f m := by
    intro k f h
    unfold lstR at h
    split at h
    · cases h
    · split at h <;> cases h
      exact ⟨_, rfl⟩
  cases s <;> simp only [eR] at h
  case row E k => exact lst h
  case rd k => exact lst h
  case arr T k => exact lst h
  case snap k => exact lst h
  case box T ss => split at h <;> cases h; exact ⟨_, rfl⟩
  case rdb ss => split at h <;> cases h; exact ⟨_, rfl⟩
  case keep => trivial
  case dead => cases h; rfl
theorem eRs_kind {FR : List Res} {ln : Nat → Nat} : ∀ {sr : List SR} {j : Nat} {l l' : List LV} {rin : List Res}, eRs FR ln j sr l = some (rin, l') → rin.length = sr.length ∧
    (∀ (i : Nat) (s : SR) (r : Res), sr[i]? = some s → rin[i]? = some r → kindOK s r ∧ (s = .keep → FR[j + i]? = some r))
  | [], j, l, l', rin, h => by simp only [eRs, Option.some.injEq, Prod.mk.injEq] at h; rw [← h.1]; exact ⟨rfl, by simp⟩
  | s :: t, j, l, l', rin, h => by
    simp only [eRs] at h
    split at h
    · cases h
    · rename_i r l1 h1
      split at h
      · cases h
      · rename_i rs' l2 h2
        cases h
        obtain ⟨e1, e2⟩ := eRs_kind h2
        refine ⟨by simp [e1], fun i s' r' hs hr => ?_⟩
        cases i with
        | zero =>
          simp at hs hr
          subst hs; subst hr
          refine ⟨eR_kind h1, fun e => ?_⟩
          subst e
          simp only [eR] at h1
          split at h1 <;> cases h1
          rename_i hF
          exact hF
        | succ i =>
          have := e2 i s' r' (by simpa using hs) (by simpa using hr)
          rwa [Nat.add_assoc, Nat.add_comm 1 i] at this
theorem emb_kind {FR : List Res} {sv : List S2} {sr : List SR} {lv : List LV} {vals : List Value} {rin : List Res} (h : emb FR sv sr lv = some (vals, rin)) : rin.length = sr.length ∧
    ∀ (i : Nat) (s : SR) (r : Res), sr[i]? = some s → rin[i]? = some r → kindOK s r ∧ (s = .keep → FR[i]? = some r) := by
  unfold emb at h
  split at h
  · cases h
  rename_i rs' l' h1
  split at h
  · cases h
  split at h <;> cases h
  obtain ⟨e1, e2⟩ := eRs_kind h1
  exact ⟨e1, fun i s r hs hr => by have := e2 i s r hs hr; rwa [Nat.zero_add] at this⟩

theorem outIn_spec : ∀ {isr osr : List SR}, outIn isr osr = true → isr.length ≤ osr.length ∧ ∀ (i : Nat) (s o : SR), isr[i]? = some s → osr[i]? = some o →
    (∀ E k, s = .row E k → (∃ E' k', o = .row E' k') ∨ o = .dead) ∧ (∀ T l, s = .box T l → (∃ T' l', o = .box T' l') ∨ o = .dead)
  | [], osr, _ => ⟨by simp, by simp⟩
  | s :: r, [], h => by simp [outIn] at h
  | s :: r, o :: os, h => by
    simp only [outIn, Bool.and_eq_true] at h
    obtain ⟨h1, h2⟩ := h
    obtain ⟨e1, e2⟩ := outIn_spec h2
    refine ⟨by simp [e1], fun i s' o' hs ho => ?_⟩
    cases i with
    | zero =>
      simp at hs ho
      subst hs; subst ho
      refine ⟨fun E k e => ?_, fun T l e => ?_⟩
      · subst e
        cases o <;> first | (cases h1; done) | exact .inl ⟨_, _, rfl⟩ | exact .inr rfl
      · subst e
        cases o <;> first | (cases h1; done) | exact .inl ⟨_, _, rfl⟩ | exact .inr rfl
    | succ i => exact e2 i s' o' (by simpa using hs) (by simpa using ho)

section
variable {rs : List Res} {hs : Hs} {rout rs' : List Res} {hout hs' : Hs} {B : List Bnd} {nin n : Nat}

/-- how the callee's slots are the caller's -/
structure Back (rs : List Res) (hs : Hs) (B : List Bnd) (nin n : Nat) (rout : List Res) (hout : Hs) (rs' : List Res) (hs' : Hs) : Prop where
  old : ∀ (j : Nat) (b : Bnd) (h : Value), j < nin → B[j]? = some b → hout j = some h → HB rs hs b h
  oldB : ∀ j : Nat, j < nin → ∃ b, B[j]? = some b
  pt : ∀ (j k off : Nat), j < nin → B[j]? = some (.pt k off) → ∀ q, rs[k]? = some q → q.len = none
  mono : ∀ k h, hs k = some h → hs' k = some h
  maps : Maps some rs rs' hs hs'
  new : ∀ (j : Nat) (h : Value), nin ≤ j → hout j = some h → hs' (n + (j - nin)) = some h
  newLen : ∀ (j : Nat) (h : Value) (r' : Res) (m : Nat), nin ≤ j → hout j = some h → rs'[n + (j - nin)]? = some r' → r'.len = some m → ∃ r, rout[j]? = some r ∧ r.len = some m

theorem bk0_ok (K : Back rs hs B nin n rout hout rs' hs') {v c c' : Value} (hv : VR0 rout hout v c) (h : bk0 B nin n c = some c') : VR0 rs' hs' v c' := by
  cases c with
  | pointer a =>
    cases a with
    | none => cases h; exact hv
    | some p =>
      simp only [bk0] at h
      obtain ⟨⟨g, a, h1, h2, rfl⟩, h3⟩ := hv
      split at h
      · rename_i hlt
        cases h
        have hle : nin ≤ p.block := by
          rcases Nat.lt_or_ge p.block nin with h | h
          · have hh : Nat.blt p.block nin = true := by rw [Nat.blt_eq]; exact h
            rw [hh] at hlt; cases hlt
          · exact h
        refine ⟨⟨g, a, K.new _ _ hle h1, h2, rfl⟩, fun r m hr hm => ?_⟩
        obtain ⟨r0, e1, e2⟩ := K.newLen _ _ _ _ hle h1 hr hm
        exact h3 r0 m e1 e2
      · rename_i hlt
        have hlt' : p.block < nin := by simpa [Nat.blt_eq] using hlt
        split at h <;> first | (cases h; done) | skip
        rename_i b hb
        split at h <;> cases h
        rename_i k off
        obtain ⟨g', a', e1, e2, rfl⟩ := K.old _ _ _ hlt' hb h1
        cases h2
        refine ⟨⟨g', a', K.mono _ _ e1, e2, by rw [Addr.add_add]⟩, fun r m hr hm => ?_⟩
        obtain ⟨r0, x1, x2⟩ := (K.maps k k g' rfl e1).2 r m hr hm
        rw [K.pt _ _ _ hlt' hb r0 x1] at x2
        cases x2
  | slice a m q =>
    cases a with
    | none => cases h; exact hv
    | some p =>
      simp only [bk0] at h
      split at h
      · rename_i hlt
        cases h
        have hle : nin ≤ p.block := by
          rcases Nat.lt_or_ge p.block nin with h | h
          · have hh : Nat.blt p.block nin = true := by rw [Nat.blt_eq]; exact h
            rw [hh] at hlt; cases hlt
          · exact h
        cases q with
        | zero =>
          obtain ⟨h1, h2, h3⟩ := hv
          refine ⟨K.new _ _ hle h1, h2, fun r k hr hk => ?_⟩
          obtain ⟨r0, e1, e2⟩ := K.newLen _ _ _ _ hle h1 hr hk
          exact h3 r0 k e1 e2
        | succ q =>
          obtain ⟨oa, cap, h1, h2, h3⟩ := hv
          refine ⟨oa, cap, h1, h2, h3.imp id ?_⟩
          rintro ⟨g, a, h4, h5, h6, h7⟩
          refine ⟨g, a, K.new _ _ hle h4, h5, h6, fun r k hr hk => ?_⟩
          obtain ⟨r0, e1, e2⟩ := K.newLen _ _ _ _ hle h4 hr hk
          exact h7 r0 k e1 e2
      · rename_i hlt
        have hlt' : p.block < nin := by simpa [Nat.blt_eq] using hlt
        cases q with
        | succ q => cases h
        | zero =>
          dsimp only at h
          split at h <;> first | (cases h; done) | skip
          rename_i b hb
          obtain ⟨h1, h2, h3⟩ := hv
          have hb' := K.old _ _ _ hlt' hb h1
          split at h <;> cases h
          · exact VR0.grow K.maps hb'
          · have : v = .slice none 0 0 := hb'
            exact ⟨rfl, this⟩
  | map r =>
    cases r with
    | none => cases h; exact hv
    | some j =>
      simp only [bk0] at h
      split at h <;> cases h
      rename_i hlt
      have hle : nin ≤ j := by
        rcases Nat.lt_or_ge j nin with h | h
        · have hh : Nat.blt j nin = true := by rw [Nat.blt_eq]; exact h
          rw [hh] at hlt; cases hlt
        · exact h
      exact K.new _ _ hle hv
  | func f a b => exact (hv : False).elim
  | agg cs => exact (hv : False).elim
  | tuple cs => exact (hv : False).elim
  | iface t x => exact (hv : False).elim
  | _ => cases h; exact hv

theorem bkL_ok (K : Back rs hs B nin n rout hout rs' hs') : ∀ {cs cs' vs : List Value}, LR (VR0 rout hout) vs cs → bkL B nin n cs = some cs' → LR (VR0 rs' hs') vs cs'
  | [], cs', vs, hl, h => by simp only [bkL] at h; cases h; rw [hl.nil_right]; exact LR.nil
  | c :: r, cs', vs, hl, h => by
    simp only [bkL] at h
    split at h
    · cases h
    · rename_i u hu
      split at h
      · cases h
      · rename_i us hus
        cases h
        obtain ⟨v, vs', rfl, hv, hl'⟩ := hl.cons_right
        exact LR.cons (bk0_ok K hv hu) (bkL_ok K hl' hus)
theorem bkA_ok (K : Back rs hs B nin n rout hout rs' hs') {v c c' : Value} (hv : VRa rout hout v c) (h : bkA B nin n c = some c') : VRa rs' hs' v c' := by
  rcases hv.parts with ⟨cs, ds, rfl, rfl, hl⟩ | ⟨hn, hv⟩
  · simp only [bkA] at h
    split at h <;> cases h
    rename_i us hus
    exact ⟨ds, rfl, by simpa using bkL_ok K hl hus⟩
  · refine VRa.of0 (bk0_ok K hv ?_)
    cases c <;> simp only [bkA] at h <;> first | exact h | exact absurd rfl (hn _)
theorem bkAL_ok (K : Back rs hs B nin n rout hout rs' hs') : ∀ {cs cs' vs : List Value}, LR (VR1 rout hout) vs cs → bkAL B nin n cs = some cs' → LR (VR1 rs' hs') vs cs'
  | [], cs', vs, hl, h => by simp only [bkAL] at h; cases h; rw [hl.nil_right]; exact LR.nil
  | c :: r, cs', vs, hl, h => by
    simp only [bkAL] at h
    split at h
    · cases h
    · rename_i u hu
      split at h
      · cases h
      · rename_i us hus
        cases h
        obtain ⟨v, vs', rfl, hv, hl'⟩ := hl.cons_right
        refine LR.cons (VR1.ofa (bkA_ok K ?_ hu)) (bkAL_ok K hl' hus)
        rcases hv.parts with ⟨f, a, b, _, _, rfl, _⟩ | ⟨_, hv⟩
        · cases hu
        · exact hv
theorem bk2_ok (K : Back rs hs B nin n rout hout rs' hs') {v c c' : Value} (hv : VR2 rout hout v c) (h : bk2 B nin n c = some c') : VR2 rs' hs' v c' := by
  rcases hv.parts with ⟨cs, ds, rfl, rfl, hl⟩ | ⟨hn, hv⟩
  · simp only [bk2] at h
    split at h <;> cases h
    rename_i us hus
    exact ⟨ds, rfl, by simpa using bkAL_ok K hl hus⟩
  · rcases hv.parts with ⟨f, a, b, _, _, rfl, _⟩ | ⟨hf, hv⟩
    · cases h
    · refine VR1.two (VR1.ofa (bkA_ok K hv ?_))
      cases c <;> simp only [bk2] at h <;> first | exact h | exact absurd rfl (hn _) | exact absurd rfl (hf _ _ _)

theorem bkR_ok (K : Back rs hs B nin n rout hout rs' hs') {w : World} {r r' : Res} {h : Value} (hr : r.holds rout hout w h) (hb : bkR B nin n r = some r') : r'.holds rs' hs' w h ∧ r'.own h = r.own h ∧ r'.reads h = none ∧ r'.len = r.len := by
  cases r <;> simp only [bkR] at hb <;> first | (cases hb; done) | skip
  case box T cs =>
    split at hb <;> cases hb
    rename_i us hus
    obtain ⟨b, ds, rfl, h1, h2⟩ := hr
    exact ⟨⟨b, ds, rfl, h1, bkL_ok K h2 hus⟩, rfl, rfl, rfl⟩
  all_goals (cases hb; exact ⟨hr, rfl, rfl, rfl⟩)

/-- which slots the call turns, and to what -/
theorem bkIn_spec {B0 : List Bnd} : ∀ {isr : List SR} {B : List Bnd} {rs : List Res} {ws : List (Nat × Res)}, bkIn B0 nin n isr B rs = some ws → isr.all ownIn = true →
    (∀ p, p ∈ ws → ∃ (j : Nat) (s : SR) (b : Bnd) (q : Res), isr[j]? = some s ∧ B[j]? = some b ∧ rs[j]? = some q ∧ p.1 ∈ ownB s b ∧ bkR B0 nin n q = some p.2) ∧
    (∀ (j k : Nat) (s : SR) (b : Bnd), isr[j]? = some s → B[j]? = some b → k ∈ ownB s b → ∃ q q', rs[j]? = some q ∧ bkR B0 nin n q = some q' ∧ (k, q') ∈ ws)
  | [], B, rs, ws, h, _ => by simp only [bkIn] at h; cases h; exact ⟨by simp, by simp⟩
  | s :: r, [], rs, ws, h, _ => by cases h
  | s :: r, b :: bs, [], ws, h, _ => by cases h
  | s :: r, b :: bs, q :: qs, ws, h, ho => by
    simp only [bkIn] at h
    simp only [List.all_cons, Bool.and_eq_true] at ho
    split at h
    · rename_i he
      obtain ⟨e1, e2⟩ := bkIn_spec h ho.2
      refine ⟨fun p hp => ?_, fun j k s' b' h1 h2 h3 => ?_⟩
      · obtain ⟨j, s', b', q', x1, x2, x3, x4, x5⟩ := e1 p hp
        exact ⟨j + 1, s', b', q', x1, x2, x3, x4, x5⟩
      · cases j with
        | zero => simp at h1 h2; subst h1; subst h2; rw [he] at h3; cases h3
        | succ j =>
          obtain ⟨q', q'', x1, x2, x3⟩ := e2 j k s' b' (by simpa using h1) (by simpa using h2) h3
          exact ⟨q', q'', x1, x2, x3⟩
    · rename_i k l he
      split at h
      · cases h
      rename_i q' hq'
      split at h
      · cases h
      rename_i t ht
      cases h
      obtain ⟨e1, e2⟩ := bkIn_spec ht ho.2
      refine ⟨fun p hp => ?_, fun j k' s' b' h1 h2 h3 => ?_⟩
      · rcases List.mem_cons.1 hp with rfl | hp
        · exact ⟨0, s, b, q, rfl, rfl, rfl, by rw [he]; simp, hq'⟩
        · obtain ⟨j, s', b', q', x1, x2, x3, x4, x5⟩ := e1 p hp
          exact ⟨j + 1, s', b', q', x1, x2, x3, x4, x5⟩
      · cases j with
        | zero =>
          simp at h1 h2; subst h1; subst h2
          have : ownB s b = [k] := by
            cases s <;> cases b <;> simp [ownB] at he ⊢ <;> simp_all
          rw [this] at h3
          simp at h3
          subst h3
          exact ⟨q, q', rfl, hq', by simp⟩
        | succ j =>
          obtain ⟨q1, q2, x1, x2, x3⟩ := e2 j k' s' b' (by simpa using h1) (by simpa using h2) h3
          exact ⟨q1, q2, x1, x2, by simp [x3]⟩
theorem bkNew_spec {B0 : List Bnd} : ∀ {rs : List Res} {i : Nat} {ws : List (Nat × Res)}, bkNew B0 nin n i rs = some ws →
    (∀ p, p ∈ ws → ∃ (j : Nat) (q : Res), p.1 = i + j ∧ rs[j]? = some q ∧ bkR B0 nin n q = some p.2) ∧ (∀ (j : Nat) (q : Res), rs[j]? = some q → ∃ q', bkR B0 nin n q = some q' ∧ (i + j, q') ∈ ws)
  | [], i, ws, h => by simp only [bkNew] at h; cases h; exact ⟨by simp, by simp⟩
  | q :: qs, i, ws, h => by
    simp only [bkNew] at h
    split at h
    · cases h
    rename_i q' hq'
    split at h
    · cases h
    rename_i t ht
    cases h
    obtain ⟨e1, e2⟩ := bkNew_spec ht
    refine ⟨fun p hp => ?_, fun j q1 hj => ?_⟩
    · rcases List.mem_cons.1 hp with rfl | hp
      · exact ⟨0, q, rfl, rfl, hq'⟩
      · obtain ⟨j, q1, x1, x2, x3⟩ := e1 p hp
        exact ⟨j + 1, q1, by omega, x2, x3⟩
    · cases j with
      | zero => simp at hj; subst hj; exact ⟨q', hq', by simp⟩
      | succ j =>
        obtain ⟨q2, x1, x2⟩ := e2 j q1 (by simpa using hj)
        refine ⟨q2, x1, ?_⟩
        have : i + 1 + j = i + (j + 1) := by omega
        rw [← this]; simp [x2]

/-- the last that is put into a slot -/
theorem puts_find {k : Nat} {r : Res} : ∀ {ws : List (Nat × Res)} {l : List Res}, (∀ r', (k, r') ∈ ws → r' = r) → (k, r) ∈ ws → (puts l ws)[k]? = some r
  | [], _, _, h => by cases h
  | (j, q) :: t, l, hu, h => by
    simp only [puts]
    by_cases e : ∃ r', (k, r') ∈ t
    · obtain ⟨r', hr'⟩ := e
      have : r' = r := hu r' (by simp [hr'])
      subst this
      exact puts_find (fun r'' h' => hu r'' (by simp [h'])) hr'
    · rcases List.mem_cons.1 h with h1 | h1
      · cases h1
        have hlt : k < (put l k r).length := by rw [put_length]; omega
        rw [puts_getElem? hlt fun p hp e' => e ⟨p.2, by rw [← e']; exact hp⟩]
        exact put_same _ _ _
      · exact absurd ⟨r, h1⟩ e
theorem puts_else {k : Nat} : ∀ {ws : List (Nat × Res)} {l : List Res}, (∀ p, p ∈ ws → p.1 ≠ k) → (puts l ws)[k]? = l[k]? ∨ ((puts l ws)[k]? = some .dead ∧ l.length ≤ k)
  | [], _, _ => .inl rfl
  | (j, q) :: t, l, h => by
    simp only [puts]
    have h1 := put_ne l j q k (fun e => h (j, q) (by simp) e.symm)
    rcases puts_else (ws := t) (l := put l j q) fun p hp => h p (by simp [hp]) with h2 | ⟨h2, h3⟩
    · rcases h1 with h1 | ⟨h1, h4, _⟩
      · exact .inl (h2.trans h1)
      · exact .inr ⟨h2.trans h1, h4⟩
    · rw [put_length] at h3
      exact .inr ⟨h2, by omega⟩

end
end Go.K
