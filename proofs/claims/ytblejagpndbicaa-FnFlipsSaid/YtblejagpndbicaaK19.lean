/- A call by its contract: the caller's state behind it. -/
import Derived.Test.YtblejagpndbicaaK18
set_option linter.unusedSimpArgs false
set_option linter.unusedVariables false
namespace Go.K
open Go.RowKit

section
variable {P : Program} {w0 w : World} {M : List Nat} {rs : List Res} {hs : Hs}

/-- the blocks that pass over -/
def passM (rs : List Res) (hs : Hs) (ks : List Nat) : List Nat := ks.filterMap fun k => match rs[k]?, hs k with
  | some q, some g => q.own g
  | _, _ => none
theorem passM_mem {ks : List Nat} {b : Nat} : b ∈ passM rs hs ks ↔ ∃ k q g, k ∈ ks ∧ rs[k]? = some q ∧ hs k = some g ∧ q.own g = some b := by
  unfold passM
  rw [List.mem_filterMap]
  constructor
  · rintro ⟨k, hk, h⟩
    split at h
    · rename_i q g h1 h2; exact ⟨k, q, g, hk, h1, h2, h⟩
    · cases h
  · rintro ⟨k, q, g, hk, h1, h2, h3⟩
    exact ⟨k, hk, by rw [h1, h2]; exact h3⟩

theorem ownIn_stay {s : SR} (h : ownIn s = true) : isStay s = false := by cases s <;> first | rfl | cases h

/-- the callee's heap -/
theorem Dec.callHeap (H : Heap w0 M rs hs w) {sr : List SR} {B : List Bnd} {rin : List Res} {hin : Hs} (D : Dec [] w rs hs sr B rin hin) (hnd : (ownBs sr B).Nodup) (hdj : ∀ k, k ∈ readBs sr B → k ∈ ownBs sr B → False)
    (hown : sr.all ownIn = true) : Heap w (passM rs hs (ownBs sr B)) rin hin w := by
  have cases : ∀ (j : Nat) (r : Res) (h : Value), rin[j]? = some r → hin j = some h → ∃ s b, sr[j]? = some s ∧ B[j]? = some b ∧ From rs hs s b r h ∧ r.holds rin hin w h := by
    intro j r h hr hh
    obtain ⟨s, b, hs', hb⟩ := D.shape hr
    have hst := ownIn_stay (List.all_eq_true.1 hown s (List.mem_of_getElem? hs'))
    obtain ⟨h1, h2⟩ := D.slot j r s b h hr hs' hb hh hst
    exact ⟨s, b, hs', hb, h1, h2⟩
  have lt : ∀ (k : Nat) (q : Res) (g : Value) (b : Nat), rs[k]? = some q → hs k = some g → q.own g = some b ∨ q.reads g = some b → b < w.heap.size := by
    intro k q g b h1 h2 h3
    rcases h3 with h3 | h3
    · exact Res.own_lt (H.holds k q g h1 h2) h3
    · exact Nat.lt_of_lt_of_le (H.old k q g b h1 h2 h3).1 H.size
  refine ⟨?_, ?_, ?_, ?_, fun i hi => D.fresh i (by rw [← D.len]; exact hi), ?_, Fr.refl _ _⟩
  · intro j r h hr hh
    obtain ⟨s, b, _, _, _, h5⟩ := cases j r h hr hh
    exact h5
  · intro i j r q h g blk hr hh hq hg h1 h2
    obtain ⟨s, b, a1, a2, a3, _⟩ := cases i r h hr hh
    obtain ⟨s', b', b1, b2, b3, _⟩ := cases j q g hq hg
    obtain ⟨k, q1, g1, x1, x2, x3, x4⟩ := a3.own blk h1
    obtain ⟨k', q1', g1', y1, y2, y3, y4⟩ := b3.own blk h2
    have := H.sep k k' q1 q1' g1 g1' blk x2 x3 y2 y3 x4 y4
    subst this
    exact ownBs_inj hnd a1 a2 x1 b1 b2 y1
  · intro i r h blk hr hh ho
    obtain ⟨s, b, a1, a2, a3, _⟩ := cases i r h hr hh
    obtain ⟨k, q1, g1, x1, x2, x3, x4⟩ := a3.own blk ho
    exact .inr (passM_mem.2 ⟨k, q1, g1, ownBs_mem a1 a2 x1, x2, x3, x4⟩)
  · intro i r h blk hr hh ho
    obtain ⟨s, b, a1, a2, a3, _⟩ := cases i r h hr hh
    obtain ⟨k, q1, g1, x1, x2, x3, x4⟩ := a3.reads blk ho
    refine ⟨lt k q1 g1 blk x2 x3 x4, fun hm => ?_⟩
    obtain ⟨k', q2, g2, y1, y2, y3, y4⟩ := passM_mem.1 hm
    rcases x4 with x4 | x4
    · have := H.sep k k' q1 q2 g1 g2 blk x2 x3 y2 y3 x4 y4
      subst this
      exact hdj k (readBs_mem a1 a2 x1) y1
    · have h1 := H.old k q1 g1 blk x2 x3 x4
      rcases H.new k' q2 g2 blk y2 y3 y4 with h2 | h2
      · omega
      · exact h1.2 h2
  · intro b hb
    obtain ⟨k, q, g, _, h2, h3, h4⟩ := passM_mem.1 hb
    exact lt k q g b h2 h3 (.inl h4)

theorem call_ok (H : Heap w0 M rs hs w) {k : Ctr} (hk : CtrOK P k) {vs vals : List Value} {n : Nat} {ci : CallI} {K : Value → List (Nat × Res) → Prop} (hvs : LR (VR2 rs hs) vs vals) (hn : ∀ i, n ≤ i → hs i = none)
    (hc : callK rs n vals k = some ci) (hsp : ci.sp K) : Calls P k.f vs.toArray w (CallEnd w0 M rs hs n ci.wr K) := by
  unfold callK at hc
  split at hc
  · cases hc
  rename_i hfit
  simp only [Ctr.fit, Bool.and_eq_true] at hfit
  obtain ⟨hown, hout0⟩ := hfit
  split at hc
  · cases hc
  rename_i lv B hdec
  split at hc
  · cases hc
  rename_i cargs rin0 hemb
  cases hc
  obtain ⟨vals', rin, hin, e1, e2, D, _⟩ := dec_ok [] H (base := []) hvs hdec (by simp) (fun i hi => by
    have := ownIn_stay (List.all_eq_true.1 hown _ (List.mem_of_getElem? hi)); cases this)
  rw [hemb] at e1
  cases e1
  obtain ⟨hnd, hdj⟩ := dec_checks hdec
  have hH := D.callHeap H hnd hdj hown
  have hhin : ∀ i, i < k.nin → ∃ h, hin i = some h := fun i hi => by
    have hb : i < B.length := by rw [D.blen]; exact hi
    obtain ⟨h, h1, _⟩ := D.hb i B[i] (by simp [hb])
    exact ⟨h, h1⟩
  refine Calls.mono (hk.run (args := vs.toArray) hemb (by simpa using e2) hH hhin D.len hsp) fun en w' hen => ?_
  cases en with
  | panicked _ => exact hen.elim
  | outgrown => exact hen.elim
  | returned v =>
    obtain ⟨lvo, c, rout, hout, hK, hemb', hv, hH', hhout⟩ := hen
    unfold retC at hK
    rw [hemb'] at hK
    dsimp only at hK
    split at hK
    · exact hK.elim
    rename_i c' hc'
    split at hK
    · exact hK.elim
    rename_i ws hws
    split at hK
    · exact hK.elim
    rename_i ws' hws'
    obtain ⟨i1, i2⟩ := bkIn_spec hws hown
    obtain ⟨j1, j2⟩ := bkNew_spec hws'
    obtain ⟨o1, o2⟩ := outIn_spec hout0
    obtain ⟨r1, r2⟩ := emb_kind hemb'
    obtain ⟨q1, q2⟩ := emb_kind hemb
    have hlen : k.nin ≤ rout.length := by rw [r1]; exact o1
    -- the slots of the arguments
    have ownK : ∀ kk, kk ∈ ownBs k.isr B → ∃ (j : Nat) (s : SR) (b : Bnd), k.isr[j]? = some s ∧ B[j]? = some b ∧ kk ∈ ownB s b := by
      have : ∀ (sr : List SR) (B : List Bnd) (kk : Nat), kk ∈ ownBs sr B → ∃ (j : Nat) (s : SR) (b : Bnd), sr[j]? = some s ∧ B[j]? = some b ∧ kk ∈ ownB s b := by
        intro sr
        induction sr with
        | nil => intro B kk h; cases h
        | cons s r ih =>
          intro B kk h
          cases B with
          | nil => cases h
          | cons b bs =>
            rcases List.mem_append.1 h with h | h
            · exact ⟨0, s, b, rfl, rfl, h⟩
            · obtain ⟨j, s', b', x1, x2, x3⟩ := ih bs kk h
              exact ⟨j + 1, s', b', x1, x2, x3⟩
      exact this _ _
    have hkk : ∀ (j kk : Nat) (s : SR) (b : Bnd), k.isr[j]? = some s → B[j]? = some b → kk ∈ ownB s b → ∃ h, hout j = some h ∧ hs kk = some h ∧ kk < n ∧ j < k.nin ∧ ∃ q, rs[kk]? = some q ∧ wholeOK s q := by
      intro j kk s b h1 h2 h3
      obtain ⟨h, e1, e2⟩ := D.hb j b h2
      have hj : j < k.nin := (List.getElem?_eq_some_iff.1 h1).1
      have hlt : j < rin0.length := by rw [D.len]; exact hj
      have hst := List.all_eq_true.1 hown s (List.mem_of_getElem? h1)
      obtain ⟨fr, _⟩ := D.slot j rin0[j] s b h (by simp [hlt]) h1 h2 e1 (ownIn_stay hst)
      obtain ⟨w1, q, w2, w3⟩ := fr.whole kk h3
      refine ⟨h, by rw [hhout j hj]; exact e1, w1, ?_, hj, q, w2, w3⟩
      rcases Nat.lt_or_ge kk n with h | h
      · exact h
      · rw [hn kk h] at w1; cases w1
    let hs' : Hs := fun i => if i < n then hs i else hout (k.nin + (i - n))
    have hs'_lt : ∀ i, i < n → hs' i = hs i := fun i hi => by simp [hs', hi]
    have hs'_ge : ∀ i, n ≤ i → hs' i = hout (k.nin + (i - n)) := fun i hi => by
      have : ¬ i < n := by omega
      simp [hs', this]
    have wsKey : ∀ p, p ∈ ws → p.1 ∈ ownBs k.isr B ∧ p.1 < n := by
      intro p hp
      obtain ⟨j, s, b, q, x1, x2, x3, x4, x5⟩ := i1 p hp
      obtain ⟨h, y1, y2, y3, _⟩ := hkk j p.1 s b x1 x2 x4
      exact ⟨ownBs_mem x1 x2 x4, y3⟩
    have ws'Key : ∀ p, p ∈ ws' → n ≤ p.1 := by
      intro p hp
      obtain ⟨j, q, x1, _⟩ := j1 p hp
      omega
    have look1 : ∀ (j kk : Nat) (s : SR) (b : Bnd), k.isr[j]? = some s → B[j]? = some b → kk ∈ ownB s b → ∃ q q', rout[j]? = some q ∧ bkR B k.nin n q = some q' ∧ (puts rs (ws ++ ws'))[kk]? = some q' := by
      intro j kk s b h1 h2 h3
      obtain ⟨q, q', x1, x2, x3⟩ := i2 j kk s b h1 h2 h3
      refine ⟨q, q', x1, x2, puts_find (fun r' hr' => ?_) (List.mem_append_left _ x3)⟩
      rcases List.mem_append.1 hr' with h | h
      · obtain ⟨j', s', b', q1, y1, y2, y3, y4, y5⟩ := i1 _ h
        have := ownBs_inj hnd h1 h2 h3 y1 y2 y4
        subst this
        rw [x1] at y3; cases y3
        rw [x2] at y5
        exact (Option.some.inj y5).symm
      · have h4 := ws'Key _ h
        have h5 := (wsKey _ x3).2
        simp only at h4 h5
        omega
    have look2 : ∀ (j : Nat) (q : Res), k.nin ≤ j → rout[j]? = some q → ∃ q', bkR B k.nin n q = some q' ∧ (puts rs (ws ++ ws'))[n + (j - k.nin)]? = some q' := by
      intro j q hj hq
      have hq' : (rout.drop k.nin)[j - k.nin]? = some q := by
        rw [List.getElem?_drop]
        have : k.nin + (j - k.nin) = j := by omega
        rw [this]; exact hq
      obtain ⟨q', x1, x2⟩ := j2 _ q hq'
      refine ⟨q', x1, puts_find (fun r' hr' => ?_) (List.mem_append_right _ x2)⟩
      rcases List.mem_append.1 hr' with h | h
      · have := (wsKey _ h).2
        simp only at this
        omega
      · obtain ⟨j', q1, y1, y2, y3⟩ := j1 _ h
        simp only at y1
        have : j' = j - k.nin := by omega
        subst this
        rw [hq'] at y2; cases y2
        rw [x1] at y3
        exact (Option.some.inj y3).symm
    have look3 : ∀ i, i ∉ ownBs k.isr B → (i < n ∨ ∀ q, rout[k.nin + (i - n)]? ≠ some q) → (puts rs (ws ++ ws'))[i]? = rs[i]? ∨ ((puts rs (ws ++ ws'))[i]? = some .dead ∧ rs.length ≤ i) := by
      intro i hi hi2
      refine puts_else fun p hp e => ?_
      rcases List.mem_append.1 hp with h | h
      · exact hi (by rw [← e]; exact (wsKey p h).1)
      · obtain ⟨j, q, x1, x2, _⟩ := j1 p h
        rcases hi2 with hi2 | hi2
        · omega
        · rw [List.getElem?_drop] at x2
          refine hi2 q ?_
          have : i - n = j := by omega
          rw [this]; exact x2
    -- what each slot of ch is
    have chRes : ∀ (i : Nat) (r' : Res) (h : Value), (i ∈ ownBs k.isr B ∨ rs.length ≤ i ∨ n ≤ i) → (puts rs (ws ++ ws'))[i]? = some r' → hs' i = some h →
        ∃ (j : Nat) (q : Res), rout[j]? = some q ∧ hout j = some h ∧ bkR B k.nin n q = some r' ∧ ((∃ s b, k.isr[j]? = some s ∧ B[j]? = some b ∧ i ∈ ownB s b) ∨ (k.nin ≤ j ∧ i = n + (j - k.nin))) := by
      intro i r' h hc hr hh
      by_cases hin' : i ∈ ownBs k.isr B
      · obtain ⟨j, s, b, x1, x2, x3⟩ := ownK i hin'
        obtain ⟨g, y1, y2, y3, _⟩ := hkk j i s b x1 x2 x3
        obtain ⟨q, q', z1, z2, z3⟩ := look1 j i s b x1 x2 x3
        rw [hr] at z3; cases z3
        rw [hs'_lt i y3, y2] at hh; cases hh
        exact ⟨j, q, z1, y1, z2, .inl ⟨s, b, x1, x2, x3⟩⟩
      · rcases Nat.lt_or_ge i n with hlt | hge
        · rw [hs'_lt i hlt] at hh
          have := H.lt hh
          rcases hc with hc | hc | hc
          · exact absurd hc hin'
          · omega
          · omega
        · rw [hs'_ge i hge] at hh
          have hlt := hH'.lt hh
          have hq : rout[k.nin + (i - n)]? = some rout[k.nin + (i - n)] := by simp [hlt]
          obtain ⟨q', z1, z2⟩ := look2 (k.nin + (i - n)) _ (by omega) hq
          have : n + (k.nin + (i - n) - k.nin) = i := by omega
          rw [this, hr] at z2; cases z2
          exact ⟨_, _, hq, hh, z1, .inr ⟨by omega, by omega⟩⟩
    have T0 : Maps some rs (puts rs (ws ++ ws')) hs hs' → Back rs hs B k.nin n rout hout (puts rs (ws ++ ws')) hs' := by
      intro m
      refine ⟨?_, ?_, ?_, ?_, m, ?_, ?_⟩
      · intro j b h hj hb hh
        obtain ⟨h', x1, x2⟩ := D.hb j b hb
        rw [hhout j hj, x1] at hh; cases hh
        exact x2
      · intro j hj
        have hb : j < B.length := by rw [D.blen]; exact hj
        exact ⟨B[j], by simp [hb]⟩
      · intro j kk off hj hb q hq
        obtain ⟨h, e1, _⟩ := D.hb j _ hb
        have hlt : j < rin0.length := by rw [D.len]; exact hj
        have hj' : j < k.isr.length := hj
        have hs1 : k.isr[j]? = some k.isr[j] := by simp [hj']
        have hst := List.all_eq_true.1 hown _ (List.mem_of_getElem? hs1)
        obtain ⟨fr, _⟩ := D.slot j rin0[j] _ _ h (by simp [hlt]) hs1 hb e1 (ownIn_stay hst)
        refine fr.pt kk off rfl ?_ q hq
        revert hst
        cases k.isr[j] <;> simp [ownIn, notArr]
      · intro i h hi
        rcases Nat.lt_or_ge i n with hlt | hge
        · rw [hs'_lt i hlt]; exact hi
        · rw [hn i hge] at hi; cases hi
      · intro j h hj hh
        rw [hs'_ge _ (by omega)]
        have : k.nin + (n + (j - k.nin) - n) = j := by omega
        rw [this]; exact hh
      · intro j h r' m' hj hh hr hm
        have hlt := hH'.lt hh
        obtain ⟨q', z1, z2⟩ := look2 j rout[j] hj (by simp [hlt])
        rw [hr] at z2; cases z2
        refine ⟨rout[j], by simp [hlt], ?_⟩
        have e : r'.len = rout[j].len := by
          cases hq : rout[j] <;> rw [hq] at z1 <;> simp only [bkR] at z1 <;> first | (cases z1; done) | (cases z1; rfl) | skip
          split at z1 <;> cases z1
          rfl
        rw [← e]; exact hm
    have ownEq : ∀ {q r' : Res} {h : Value}, bkR B k.nin n q = some r' → r'.own h = q.own h ∧ r'.reads h = none ∧ r'.len = q.len := by
      intro q r' h hb
      cases q <;> simp only [bkR] at hb <;> first | (cases hb; done) | (cases hb; exact ⟨rfl, rfl, rfl⟩) | skip
      split at hb <;> cases hb
      exact ⟨rfl, rfl, rfl⟩
    have F := hH'.frame
    have T : Turn w0 M rs hs w (fun i => i ∈ ownBs k.isr B ∨ rs.length ≤ i ∨ n ≤ i) (puts rs (ws ++ ws')) hs' w' := by
      refine ⟨F.os, F.tape, F.output, F.size, ?_, ?_, ?_, ?_, ?_, ?_, ?_, ?_, ?_⟩
      · intro i h hi
        rcases Nat.lt_or_ge i n with hlt | hge
        · rw [hs'_lt i hlt]; exact hi
        · rw [hn i hge] at hi; cases hi
      · intro i hi
        simp only [not_or, Nat.not_le] at hi
        refine ⟨(look3 i hi.1 (.inl hi.2.2)).resolve_right (fun h => by omega), hs'_lt i hi.2.2⟩
      · intro i hi
        rcases Nat.lt_or_ge i n with hlt | hge
        · rw [hs'_lt i hlt]
          exact H.fresh i (Nat.le_trans puts_length hi)
        · rw [hs'_ge i hge]
          cases hh : hout (k.nin + (i - n)) with
          | none => rfl
          | some h =>
            have hlt := hH'.lt hh
            obtain ⟨q', z1, z2⟩ := look2 (k.nin + (i - n)) rout[k.nin + (i - n)] (by omega) (by simp [hlt])
            have e : n + (k.nin + (i - n) - k.nin) = i := by omega
            rw [e] at z2
            have := (List.getElem?_eq_some_iff.1 z2).1
            omega
      · intro b hb hall
        refine F.block b hb fun hm => ?_
        obtain ⟨kk, q, g, x1, x2, x3, x4⟩ := passM_mem.1 hm
        exact hall kk q g (.inl x1) x2 x3 x4
      · intro i r' h m hc hh hr hm
        have hlt : i < n := by
          rcases Nat.lt_or_ge i n with h | h
          · exact h
          · rw [hn i h] at hh; cases hh
        obtain ⟨j, q, x1, x2, x3, x4⟩ := chRes i r' h hc hr (by rw [hs'_lt i hlt]; exact hh)
        rcases x4 with ⟨s, b, y1, y2, y3⟩ | ⟨y1, y2⟩
        · obtain ⟨g, z1, z2, z3, z4, q0, z5, z6⟩ := hkk j i s b y1 y2 y3
          have ho : j < k.osr.length := Nat.lt_of_lt_of_le z4 o1
          obtain ⟨w1, w2⟩ := o2 j s k.osr[j] y1 (by simp [ho])
          have hkq := (r2 j k.osr[j] q (by simp [ho]) x1).1
          have hqh := hH'.holds j q h x1 x2
          rw [hh] at z2; cases z2
          rw [(ownEq (h := h) x3).2.2] at hm
          cases s <;> first | (exact z6.elim) | skip
          · rcases w1 _ _ rfl with ⟨E', k', e⟩ | e
            · rw [e] at hkq
              obtain ⟨l, rfl⟩ := hkq
              obtain ⟨l0, rfl⟩ := z6
              cases hm
              obtain ⟨g1, c1, rfl, _⟩ := hqh
              obtain ⟨g2, c2, e2, _⟩ := H.holds i _ _ z5 hh
              simp only [Value.slice.injEq] at e2
              exact ⟨_, z5, by simp [Res.len, e2.2.1]⟩
            · rw [e] at hkq
              have : q = .dead := hkq
              subst this; cases hm
          · have := List.all_eq_true.1 hown _ (List.mem_of_getElem? y1)
            cases this
          · rcases w2 _ _ rfl with ⟨E', k', e⟩ | e
            · rw [e] at hkq
              obtain ⟨l, rfl⟩ := hkq
              cases hm
            · rw [e] at hkq
              have : q = .dead := hkq
              subst this; cases hm
        · omega
      · intro m i r' h hc hr hh
        obtain ⟨j, q, x1, x2, x3, x4⟩ := chRes i r' h hc hr hh
        exact (bkR_ok (T0 m) (hH'.holds j q h x1 x2) x3).1
      · intro i r' h blk hc hr hh ho
        obtain ⟨j, q, x1, x2, x3, x4⟩ := chRes i r' h hc hr hh
        rw [(ownEq (h := h) x3).1] at ho
        rcases hH'.new j q h blk x1 x2 ho with h1 | h1
        · exact .inl h1
        · obtain ⟨kk, q0, g, y1, y2, y3, y4⟩ := passM_mem.1 h1
          exact .inr ⟨kk, q0, g, .inl y1, y2, y3, y4⟩
      · intro i r' h blk hc hr hh ho
        obtain ⟨j, q, x1, x2, x3, x4⟩ := chRes i r' h hc hr hh
        rw [(ownEq (h := h) x3).2.1] at ho; cases ho
      · intro i i' r q h g blk hc hc' hr hh hq hg h1 h2
        obtain ⟨j, q1, x1, x2, x3, x4⟩ := chRes i r h hc hr hh
        obtain ⟨j', q2, y1, y2, y3, y4⟩ := chRes i' q g hc' hq hg
        rw [(ownEq (h := h) x3).1] at h1
        rw [(ownEq (h := g) y3).1] at h2
        have hjj := hH'.sep j j' q1 q2 h g blk x1 x2 y1 y2 h1 h2
        subst hjj
        rcases x4 with ⟨s, b, a1, a2, a3⟩ | ⟨a1, a2⟩ <;> rcases y4 with ⟨s', b', b1, b2, b3⟩ | ⟨b1, b2⟩
        · rw [a1] at b1; cases b1
          rw [a2] at b2; cases b2
          cases s <;> cases b <;> simp [ownB] at a3 b3 <;> rw [a3, b3]
        · have := (List.getElem?_eq_some_iff.1 a1).1
          have : j < k.nin := this
          omega
        · have := (List.getElem?_eq_some_iff.1 b1).1
          have : j < k.nin := this
          omega
        · omega
    refine ⟨c', ws ++ ws', hs', hK, bk2_ok (T0 T.maps) hv hc', H.turn T, T.maps, hs'_lt, fun p hp => ?_⟩
    rcases List.mem_append.1 hp with h | h
    · exact .inl (wsKey p h).1
    · exact .inr (ws'Key p h)

end
end Go.K
