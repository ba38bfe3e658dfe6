/- Shapes: what is taken out and put back is the same state. -/
import Derived.Test.YtblejagpndbicaaK13
set_option linter.unusedSimpArgs false
set_option linter.unusedVariables false
namespace Go.K
open Go.RowKit

structure Occ where
  j : Nat
  b : Bnd
  h : Value
def Occ.key (o : Occ) : Nat × Bnd := (o.j, o.b)

/-- the handle that a binding gives -/
def HB (rs : List Res) (hs : Hs) (b : Bnd) (h : Value) : Prop :=
  match b with
  | .nil => h = .slice none 0 0
  | .sl k off n q => VR0 rs hs h (.slice (some ⟨k, off, none⟩) n q)
  | .pt k off => ∃ g a, hs k = some g ∧ baseOf g = some a ∧ h = .pointer (some (a.add off))
  | .mp k => hs k = some h

/-- the new state has it so -/
def Fit (rs rin : List Res) (hin : Hs) (ln : Nat → Nat) (o : Occ) : Prop :=
  hin o.j = some o.h ∧ match o.b with
  | .nil => ∃ oa cap, o.h = .slice oa (ln o.j) cap ∧ ln o.j ≤ cap ∧ ∀ r m, rin[o.j]? = some r → r.len = some m → ln o.j = m
  | .sl _ _ _ _ => ∃ oa cap, o.h = .slice oa (ln o.j) cap ∧ ln o.j ≤ cap ∧ ∀ r m, rin[o.j]? = some r → r.len = some m → ln o.j = m
  | .pt k off => ∀ r n, rin[o.j]? = some r → r.len = some n → off = 0 ∧ ∃ r0, rs[k]? = some r0 ∧ r0.len = some n
  | .mp _ => True

section
variable {w0 w : World} {M : List Nat} {rs : List Res} {hs : Hs}

/-- what decoding gives: the occurrences of slots; Q: what then is put back -/
def DOK (rs : List Res) (hs : Hs) (bs : List (Nat × Bnd)) (Q : (Nat → Nat) → List LV → (List Res → Hs → Prop) → Prop) : Prop :=
  ∃ occ : List Occ, occ.map Occ.key = bs ∧ (∀ o, o ∈ occ → HB rs hs o.b o.h) ∧ ∀ ln rest, Q ln rest fun rin hin => ∀ o, o ∈ occ → Fit rs rin hin ln o

abbrev VOK (e : (Nat → Nat) → List LV → Option (Value × List LV)) (R : List Res → Hs → Value → Value → Prop) (v : Value) (lv : List LV) : (Nat → Nat) → List LV → (List Res → Hs → Prop) → Prop :=
  fun ln rest F => ∃ c, e ln (lv ++ rest) = some (c, rest) ∧ ∀ rin hin, F rin hin → R rin hin v c
abbrev LOK (e : (Nat → Nat) → List LV → Option (List Value × List LV)) (R : List Res → Hs → Value → Value → Prop) (vs : List Value) (lv : List LV) : (Nat → Nat) → List LV → (List Res → Hs → Prop) → Prop :=
  fun ln rest F => ∃ cs, e ln (lv ++ rest) = some (cs, rest) ∧ ∀ rin hin, F rin hin → LR (R rin hin) vs cs

theorem d0_ok {s : S0} {v c : Value} {lv : List LV} {bs : List (Nat × Bnd)} (hv : VR0 rs hs v c) (h : d0 s c = some (lv, bs)) : DOK rs hs bs (VOK (fun ln => e0 ln s) VR0 v lv) := by
  cases s <;> simp only [d0] at h
  case int k =>
    split at h <;> first | (cases h; done) | skip
    split at h <;> cases h
    rename_i e; subst e
    exact ⟨[], rfl, by simp, fun ln rest => ⟨_, rfl, fun _ _ _ => hv⟩⟩
  case bool =>
    split at h <;> cases h
    exact ⟨[], rfl, by simp, fun ln rest => ⟨_, rfl, fun _ _ _ => hv⟩⟩
  case flt k =>
    split at h <;> first | (cases h; done) | skip
    split at h <;> cases h
    rename_i e; subst e
    exact ⟨[], rfl, by simp, fun ln rest => ⟨_, rfl, fun _ _ _ => hv⟩⟩
  case cpx k =>
    split at h <;> first | (cases h; done) | skip
    split at h <;> cases h
    rename_i e; subst e
    exact ⟨[], rfl, by simp, fun ln rest => ⟨_, rfl, fun _ _ _ => hv⟩⟩
  case sl j =>
    split at h <;> first | (cases h; done) | skip
    rename_i p n q
    split at h <;> cases h
    · obtain ⟨rfl, rfl⟩ := hv
      refine ⟨[⟨j, .nil, .slice none 0 0⟩], rfl, by simp [HB], fun ln rest => ⟨_, rfl, fun rin hin F => ?_⟩⟩
      obtain ⟨f1, oa, cap, f2, f3, f4⟩ := F _ (List.mem_singleton.2 rfl)
      exact ⟨f1, ⟨oa, cap, f2, f3⟩, f4⟩
    · rename_i p
      refine ⟨[⟨j, .sl p.block (sOff p q) n q, v⟩], rfl, ?_, fun ln rest => ⟨_, rfl, fun rin hin F => ?_⟩⟩
      · intro o ho
        rw [List.mem_singleton.1 ho]
        cases q with
        | zero => exact hv
        | succ q => exact hv
      · obtain ⟨f1, oa, cap, f2, f3, f4⟩ := F _ (List.mem_singleton.2 rfl)
        exact ⟨f1, ⟨oa, cap, f2, f3⟩, f4⟩
  case pt j off =>
    split at h <;> first | (cases h; done) | skip
    split at h <;> first | (cases h; done) | skip
    rename_i p
    split at h <;> cases h
    rename_i hle
    have hle' := Nat.le_of_ble_eq_true hle
    obtain ⟨⟨g, a, h1, h2, rfl⟩, h3⟩ := hv
    refine ⟨[⟨j, .pt p.block (p.off - off), .pointer (some (a.add (p.off - off)))⟩], rfl, ?_, fun ln rest => ⟨_, rfl, fun rin hin F => ?_⟩⟩
    · intro o ho
      rw [List.mem_singleton.1 ho]
      exact ⟨g, a, h1, h2, rfl⟩
    · obtain ⟨f1, f2⟩ := F _ (List.mem_singleton.2 rfl)
      refine ⟨⟨_, _, f1, rfl, ?_⟩, fun r n hr hn => ?_⟩
      · rw [Addr.add_add]; have : p.off - off + off = p.off := by omega
        rw [this]
      · obtain ⟨e1, r0, e2, e3⟩ := f2 r n hr hn
        have := h3 r0 n e2 e3
        show off < n
        omega
  case mp j =>
    split at h <;> first | (cases h; done) | skip
    split at h <;> cases h
    rename_i k
    refine ⟨[⟨j, .mp k, v⟩], rfl, ?_, fun ln rest => ⟨_, rfl, fun rin hin F => (F _ (List.mem_singleton.2 rfl)).1⟩⟩
    intro o ho
    rw [List.mem_singleton.1 ho]
    exact hv
  case nilp =>
    split at h <;> first | (cases h; done) | skip
    split at h <;> cases h
    exact ⟨[], rfl, by simp, fun ln rest => ⟨_, rfl, fun _ _ _ => hv⟩⟩
  case nilf =>
    split at h <;> cases h
    exact ⟨[], rfl, by simp, fun ln rest => ⟨_, rfl, fun _ _ _ => hv⟩⟩
  case any =>
    cases h
    exact ⟨[], rfl, by simp, fun ln rest => ⟨_, rfl, fun _ _ _ => trivial⟩⟩

theorem cat_ok {a b : DR} {lv : List LV} {bs : List (Nat × Bnd)} (h : cat a b = some (lv, bs)) : ∃ l m l' m', a = some (l, m) ∧ b = some (l', m') ∧ lv = l ++ l' ∧ bs = m ++ m' := by
  unfold cat at h
  split at h
  · split at h
    · cases h; exact ⟨_, _, _, _, rfl, rfl, rfl, rfl⟩
    · cases h
  · cases h

theorem DOK.cons {R : List Res → Hs → Value → Value → Prop} {e : (Nat → Nat) → List LV → Option (Value × List LV)} {es et : (Nat → Nat) → List LV → Option (List Value × List LV)} {v : Value} {vs : List Value} {l l' : List LV} {m m' : List (Nat × Bnd)}
    (h1 : DOK rs hs m (VOK e R v l)) (h2 : DOK rs hs m' (LOK es R vs l')) (he : ∀ ln x c y cs z, e ln x = some (c, y) → es ln y = some (cs, z) → et ln x = some (c :: cs, z)) :
    DOK rs hs (m ++ m') (LOK et R (v :: vs) (l ++ l')) := by
  obtain ⟨o1, a1, b1, c1⟩ := h1
  obtain ⟨o2, a2, b2, c2⟩ := h2
  refine ⟨o1 ++ o2, by simp [a1, a2], fun o ho => ?_, fun ln rest => ?_⟩
  · rcases List.mem_append.1 ho with h | h
    · exact b1 o h
    · exact b2 o h
  · obtain ⟨c, e1, f1⟩ := c1 ln (l' ++ rest)
    obtain ⟨cs, e2, f2⟩ := c2 ln rest
    refine ⟨c :: cs, ?_, fun rin hin F => LR.cons (f1 rin hin fun o ho => F o (by simp [ho])) (f2 rin hin fun o ho => F o (by simp [ho]))⟩
    rw [List.append_assoc]
    exact he _ _ _ _ _ _ e1 e2

theorem dL_ok : ∀ {ss : List S0} {vs cs : List Value} {lv : List LV} {bs : List (Nat × Bnd)}, LR (VR0 rs hs) vs cs → dL ss cs = some (lv, bs) → DOK rs hs bs (LOK (fun ln => eL ln ss) VR0 vs lv)
  | [], vs, cs, lv, bs, hl, h => by
    simp only [dL] at h
    split at h <;> cases h
    obtain rfl := hl.nil_right
    exact ⟨[], rfl, by simp, fun ln rest => ⟨[], rfl, fun _ _ _ => LR.nil⟩⟩
  | s :: r, vs, cs, lv, bs, hl, h => by
    simp only [dL] at h
    split at h
    · cases h
    · obtain ⟨l, m, l', m', h1, h2, rfl, rfl⟩ := cat_ok h
      obtain ⟨v, vs', rfl, hv, hl'⟩ := hl.cons_right
      refine (d0_ok hv h1).cons (dL_ok hl' h2) fun ln x c y cs z e1 e2 => ?_
      simp only [eL, e1, e2]

theorem dA_ok {s : SA} {v c : Value} {lv : List LV} {bs : List (Nat × Bnd)} (hv : VRa rs hs v c) (h : dA s c = some (lv, bs)) : DOK rs hs bs (VOK (fun ln => eA ln s) VRa v lv) := by
  cases s with
  | one s =>
    simp only [dA] at h
    rcases hv.parts with ⟨cs, ds, rfl, rfl, hl⟩ | ⟨_, hv⟩
    · cases s <;> simp only [d0] at h <;> first | (cases h; done) | skip
      cases h
      exact ⟨[], rfl, by simp, fun ln rest => ⟨_, rfl, fun _ _ _ => VRa.of0 trivial⟩⟩
    · obtain ⟨occ, a, b, c⟩ := d0_ok hv h
      exact ⟨occ, a, b, fun ln rest => let ⟨c, e, f⟩ := c ln rest; ⟨c, e, fun rin hin F => VRa.of0 (f rin hin F)⟩⟩
  | agg ss =>
    simp only [dA] at h
    split at h
    · rename_i cs
      obtain ⟨ds, rfl, hl⟩ := hv
      obtain ⟨occ, a, b, c⟩ := dL_ok hl h
      refine ⟨occ, a, b, fun ln rest => ?_⟩
      obtain ⟨cs', e, f⟩ := c ln rest
      refine ⟨.agg cs'.toArray, by simp only [eA, e], fun rin hin F => ⟨ds, rfl, by simpa using f rin hin F⟩⟩
    · cases h
theorem dAL_ok : ∀ {ss : List SA} {vs cs : List Value} {lv : List LV} {bs : List (Nat × Bnd)}, LR (VRa rs hs) vs cs → dAL ss cs = some (lv, bs) → DOK rs hs bs (LOK (fun ln => eAL ln ss) VRa vs lv)
  | [], vs, cs, lv, bs, hl, h => by
    simp only [dAL] at h
    split at h <;> cases h
    obtain rfl := hl.nil_right
    exact ⟨[], rfl, by simp, fun ln rest => ⟨[], rfl, fun _ _ _ => LR.nil⟩⟩
  | s :: r, vs, cs, lv, bs, hl, h => by
    simp only [dAL] at h
    split at h
    · cases h
    · obtain ⟨l, m, l', m', h1, h2, rfl, rfl⟩ := cat_ok h
      obtain ⟨v, vs', rfl, hv, hl'⟩ := hl.cons_right
      refine (dA_ok hv h1).cons (dAL_ok hl' h2) fun ln x c y cs z e1 e2 => ?_
      simp only [eAL, e1, e2]

theorem d1_ok {s : S1} {v c : Value} {lv : List LV} {bs : List (Nat × Bnd)} (hv : VR1 rs hs v c) (h : d1 s c = some (lv, bs)) : DOK rs hs bs (VOK (fun ln => e1 ln s) VR1 v lv) := by
  cases s with
  | a s =>
    simp only [d1] at h
    rcases hv.parts with ⟨f, cf, cc, fs, ds, rfl, rfl, hl⟩ | ⟨_, hv⟩
    · cases s with
      | one s =>
        cases s <;> simp only [dA, d0] at h <;> first | (cases h; done) | skip
        cases h
        exact ⟨[], rfl, by simp, fun ln rest => ⟨_, rfl, fun _ _ _ => VR1.ofa (VRa.of0 trivial)⟩⟩
      | agg ss => simp [dA] at h
    · obtain ⟨occ, a, b, c⟩ := dA_ok hv h
      exact ⟨occ, a, b, fun ln rest => let ⟨c, e, f⟩ := c ln rest; ⟨c, e, fun rin hin F => VR1.ofa (f rin hin F)⟩⟩
  | fn f first caps =>
    simp only [d1] at h
    split at h
    · rename_i g a b
      split at h
      · rename_i g
        split at h
        · rename_i hg
          obtain rfl := Nat.eq_of_beq_eq_true hg
          obtain ⟨l, m, l', m', h1, h2, rfl, rfl⟩ := cat_ok h
          obtain ⟨fs, ds, rfl, hl1, hl2⟩ := hv
          obtain ⟨o1, a1, b1, c1⟩ := dAL_ok hl1 h1
          obtain ⟨o2, a2, b2, c2⟩ := dAL_ok hl2 h2
          refine ⟨o1 ++ o2, by simp [a1, a2], fun o ho => ?_, fun ln rest => ?_⟩
          · rcases List.mem_append.1 ho with h | h
            · exact b1 o h
            · exact b2 o h
          · obtain ⟨c, x1, f1⟩ := c1 ln (l' ++ rest)
            obtain ⟨cs, x2, f2⟩ := c2 ln rest
            refine ⟨.func (.func g) c.toArray cs.toArray, ?_, fun rin hin F => ⟨fs, ds, rfl, by simpa using f1 rin hin fun o ho => F o (by simp [ho]), by simpa using f2 rin hin fun o ho => F o (by simp [ho])⟩⟩
            rw [List.append_assoc]
            simp only [e1, x1, x2]
        · cases h
      · cases h
    · cases h
theorem d1L_ok : ∀ {ss : List S1} {vs cs : List Value} {lv : List LV} {bs : List (Nat × Bnd)}, LR (VR1 rs hs) vs cs → d1L ss cs = some (lv, bs) → DOK rs hs bs (LOK (fun ln => e1L ln ss) VR1 vs lv)
  | [], vs, cs, lv, bs, hl, h => by
    simp only [d1L] at h
    split at h <;> cases h
    obtain rfl := hl.nil_right
    exact ⟨[], rfl, by simp, fun ln rest => ⟨[], rfl, fun _ _ _ => LR.nil⟩⟩
  | s :: r, vs, cs, lv, bs, hl, h => by
    simp only [d1L] at h
    split at h
    · cases h
    · obtain ⟨l, m, l', m', h1, h2, rfl, rfl⟩ := cat_ok h
      obtain ⟨v, vs', rfl, hv, hl'⟩ := hl.cons_right
      refine (d1_ok hv h1).cons (d1L_ok hl' h2) fun ln x c y cs z e1 e2 => ?_
      simp only [e1L, e1, e2]

theorem d2_ok {s : S2} {v c : Value} {lv : List LV} {bs : List (Nat × Bnd)} (hv : VR2 rs hs v c) (h : d2 s c = some (lv, bs)) : DOK rs hs bs (VOK (fun ln => e2 ln s) VR2 v lv) := by
  cases s with
  | v s =>
    simp only [d2] at h
    rcases hv.parts with ⟨cs, ds, rfl, rfl, hl⟩ | ⟨_, hv⟩
    · cases s with
      | a s => cases s with
        | one s =>
          cases s <;> simp only [d1, dA, d0] at h <;> first | (cases h; done) | skip
          cases h
          exact ⟨[], rfl, by simp, fun ln rest => ⟨_, rfl, fun _ _ _ => VR0.two trivial⟩⟩
        | agg ss => simp [d1, dA] at h
      | fn f a b => simp [d1] at h
    · obtain ⟨occ, a, b, c⟩ := d1_ok hv h
      exact ⟨occ, a, b, fun ln rest => let ⟨c, e, f⟩ := c ln rest; ⟨c, e, fun rin hin F => VR1.two (f rin hin F)⟩⟩
  | tup ss =>
    simp only [d2] at h
    split at h
    · rename_i cs
      obtain ⟨ds, rfl, hl⟩ := hv
      obtain ⟨occ, a, b, c⟩ := d1L_ok hl h
      refine ⟨occ, a, b, fun ln rest => ?_⟩
      obtain ⟨cs', e, f⟩ := c ln rest
      refine ⟨.tuple cs'.toArray, by simp only [e2, e], fun rin hin F => ⟨ds, rfl, by simpa using f rin hin F⟩⟩
    · cases h
theorem d2L_ok : ∀ {ss : List S2} {vs cs : List Value} {lv : List LV} {bs : List (Nat × Bnd)}, LR (VR2 rs hs) vs cs → d2L ss cs = some (lv, bs) → DOK rs hs bs (LOK (fun ln => e2L ln ss) VR2 vs lv)
  | [], vs, cs, lv, bs, hl, h => by
    simp only [d2L] at h
    split at h <;> cases h
    obtain rfl := hl.nil_right
    exact ⟨[], rfl, by simp, fun ln rest => ⟨[], rfl, fun _ _ _ => LR.nil⟩⟩
  | s :: r, vs, cs, lv, bs, hl, h => by
    simp only [d2L] at h
    split at h
    · cases h
    · obtain ⟨l, m, l', m', h1, h2, rfl, rfl⟩ := cat_ok h
      obtain ⟨v, vs', rfl, hv, hl'⟩ := hl.cons_right
      refine (d2_ok hv h1).cons (d2L_ok hl' h2) fun ln x c y cs z e1 e2 => ?_
      simp only [e2L, e1, e2]

/-! ### slots -/
def wholeOK (s : SR) (q : Res) : Prop :=
  match s with
  | .row E _ => ∃ l, q = .row E l
  | .box T _ => ∃ cs, q = .box T cs
  | .arr T _ => ∃ l, q = .arr T l
  | _ => False
def notArr (s : SR) : Prop :=
  match s with
  | .arr _ _ => False
  | _ => True
/-- whose the blocks are -/
structure From (rs : List Res) (hs : Hs) (s : SR) (b : Bnd) (r : Res) (h : Value) : Prop where
  own : ∀ blk, r.own h = some blk → ∃ k q g, k ∈ ownB s b ∧ rs[k]? = some q ∧ hs k = some g ∧ q.own g = some blk
  reads : ∀ blk, r.reads h = some blk → ∃ k q g, k ∈ readB s b ∧ rs[k]? = some q ∧ hs k = some g ∧ (q.own g = some blk ∨ q.reads g = some blk)
  len : ∀ n, r.len = some n → match b with
    | .sl k _ _ q => q = 0 → ∃ r0, rs[k]? = some r0 ∧ r0.len = some n
    | .pt k _ => ∃ r0, rs[k]? = some r0 ∧ r0.len = some n
    | .mp _ => False
    | .nil => True
  whole : ∀ k, k ∈ ownB s b → hs k = some h ∧ ∃ q, rs[k]? = some q ∧ wholeOK s q
  pt : ∀ k off, b = .pt k off → notArr s → ∀ q, rs[k]? = some q → q.len = none

/-- of which length it is -/
def Long (rs : List Res) (b : Bnd) (r : Res) (h : Value) : Prop :=
  match b with
  | .nil => ∃ oa n cap, h = .slice oa n cap ∧ n ≤ cap ∧ r.len = some n
  | .sl _ _ _ _ => ∃ oa n cap, h = .slice oa n cap ∧ n ≤ cap ∧ r.len = some n
  | .pt k off => ∀ n, r.len = some n → off = 0 ∧ ∃ r0, rs[k]? = some r0 ∧ r0.len = some n
  | .mp _ => True

def isStay : SR → Bool
  | .keep => true
  | .dead => true
  | _ => false

theorem leafR_ok {k : Lk} {l : Lst} {lv : List LV} {more : List (Nat × Bnd)} (h : leafR k l = some (lv, more)) : ∃ v, lv = [v] ∧ more = [] ∧ k.mk v = some l := by
  unfold leafR at h
  split at h
  · rename_i v hv; cases h; exact ⟨v, rfl, rfl, (Lk.leaf_ok hv).1⟩
  · cases h

theorem row_nil (E : TypeId) {l : Lst} (hl : l.length = 0) (rin : List Res) (hin : Hs) : (Res.row E l).holds rin hin w (.slice none 0 0) := ⟨none, 0, by rw [hl], .inl ⟨rfl, hl⟩⟩
theorem ro_nil {l : Lst} (hl : l.length = 0) (rin : List Res) (hin : Hs) : (Res.ro l).holds rin hin w (.slice none 0 0) := ⟨none, 0, by rw [hl], by omega, .inl hl⟩

abbrev ROK (FR : List Res) (w : World) (rs : List Res) (hs : Hs) (s : SR) (b : Bnd) (h : Value) (lv : List LV) : (Nat → Nat) → List LV → (List Res → Hs → Prop) → Prop :=
  fun ln rest F => ∀ j, ∃ r, eR FR ln j s (lv ++ rest) = some (r, rest) ∧ From rs hs s b r h ∧ Long rs b r h ∧ ∀ rin hin, F rin hin → r.holds rin hin w h

theorem dR_ok (FR : List Res) (H : Heap w0 M rs hs w) {s : SR} {b : Bnd} {h : Value} {lv : List LV} {more : List (Nat × Bnd)} (hb : HB rs hs b h) (hns : isStay s = false) (hd : dR rs s b = some (lv, more)) :
    DOK rs hs more (ROK FR w rs hs s b h lv) := by
  cases s <;> simp only [dR] at hd <;> first | (cases hns; done) | skip
  case row E k =>
    split at hd <;> first | (cases hd; done) | skip
    · cases hd
      obtain ⟨l, h1, h2, h3⟩ := k.none_ok
      have hh : h = .slice none 0 0 := hb
      subst hh
      refine ⟨[], rfl, by simp, fun ln rest j => ⟨.row E l, by simp [eR, lstR, h1], ⟨fun blk hk => by simp [Res.own] at hk, fun blk hk => (by cases hk), fun n _ => trivial, fun _ h => (by cases h), fun _ _ e => (by cases e)⟩, ⟨none, 0, 0, rfl, by omega, by simp [Res.len, h2]⟩, fun rin hin _ => row_nil E h2 rin hin⟩⟩
    · rename_i kk off n q
      split at hd <;> first | (cases hd; done) | skip
      split at hd <;> first | (cases hd; done) | skip
      rename_i r hr
      split at hd <;> first | (cases hd; done) | skip
      rename_i E' l
      split at hd <;> first | (cases hd; done) | skip
      rename_i hE
      obtain rfl := Nat.eq_of_beq_eq_true hE
      obtain ⟨v, rfl, rfl, hm⟩ := leafR_ok hd
      obtain ⟨hk, ⟨oa, cap, rfl, hcap⟩, hlen⟩ := hb
      have hh := H.holds _ _ _ hr hk
      refine ⟨[], rfl, by simp, fun ln rest j => ⟨.row E' l, by simp [eR, lstR, hm], ⟨fun blk ho => ⟨kk, _, _, by simp [ownB], hr, hk, ho⟩, fun blk hk => (by cases hk), fun n hn _ => ⟨_, hr, hn⟩, fun k' hk' => (by simp [ownB] at hk'; subst hk'; exact ⟨hk, _, hr, _, rfl⟩), fun _ _ e => (by cases e)⟩, ⟨oa, n, cap, rfl, hcap, ?_⟩, fun rin hin _ => ?_⟩⟩
      · rw [hlen _ _ hr rfl]; rfl
      · obtain ⟨g, cap', h1, h2⟩ := hh; exact ⟨g, cap', h1, h2⟩
  case rd k =>
    split at hd <;> first | (cases hd; done) | skip
    · cases hd
      obtain ⟨l, h1, h2, h3⟩ := k.none_ok
      have hh : h = .slice none 0 0 := hb
      subst hh
      refine ⟨[], rfl, by simp, fun ln rest j => ⟨.ro l, by simp [eR, lstR, h1], ⟨fun blk hk => (by cases hk), fun blk hk => (by simp [Res.reads, h2] at hk), fun n _ => trivial, fun _ h => (by cases h), fun _ _ e => (by cases e)⟩, ⟨none, 0, 0, rfl, by omega, by simp [Res.len, h2]⟩, fun rin hin _ => ro_nil h2 rin hin⟩⟩
    · rename_i kk off n q
      split at hd <;> first | (cases hd; done) | skip
      rename_i r hr
      split at hd <;> first | (cases hd; done) | skip
      rename_i l hl
      obtain ⟨v, rfl, rfl, hm⟩ := leafR_ok hd
      have hb2 : VR2 rs hs h (.slice (some ⟨kk, off, none⟩) n q) := VR0.two hb
      have hsrc : srcLst rs (.B []) (.slice (some ⟨kk, off, none⟩) n q) = some (subL l ⟨kk, off, none⟩ n q) := by
        simp only [srcLst]; rw [hr]; simp only [hl]
      obtain ⟨oa, cap, rfl, hcap, hcells⟩ := srcLst_len H rfl hb2 hsrc
      obtain ⟨oa', cap', e1, _, h2⟩ := slice_of_VR H hb2 hr hl
      simp only [Value.slice.injEq] at e1
      obtain ⟨rfl, hn, rfl⟩ := e1
      generalize hsub : subL l ⟨kk, off, none⟩ n q = m at *
      refine ⟨[], rfl, by simp, fun ln rest j => ⟨.ro m, by simp [eR, lstR, hm], ⟨fun blk ho => (by cases ho), fun blk ho => ?_, fun n hn hq => ⟨r, hr, by subst hq; rw [sliceLst_len hl]; rw [← hsub] at hn; exact hn⟩, fun _ h => (by cases h), fun _ _ e => (by cases e)⟩, ⟨oa, _, cap, rfl, hcap, rfl⟩, fun rin hin _ => ?_⟩⟩
      · simp only [Res.reads] at ho
        split at ho
        · cases ho
        · rename_i hne
          rcases h2 with h2 | ⟨g, a, h3, h4, rfl, h6⟩
          · omega
          · simp only [baseOf, Option.map_some, Option.some.injEq, Addr.add_block] at ho
            refine ⟨kk, r, g, by simp [readB], hr, h3, ?_⟩
            have hh := H.holds _ _ _ hr h3
            cases r <;> simp only [sliceLst] at hl <;> cases hl
            · obtain ⟨g', c', e1, h7⟩ := hh
              subst e1
              rcases h7 with ⟨_, h7⟩ | ⟨bb, ds, e2, h8, _⟩
              · omega
              · subst e2
                cases h4
                left
                simp only [Res.own]
                rw [if_neg (by omega)]
                exact congrArg some ho
            · obtain ⟨g', c', e1, _, h7⟩ := hh
              subst e1
              right
              simp only [Res.reads]
              rw [if_neg (by omega), h4]
              exact congrArg some ho
      · refine ⟨oa, cap, rfl, hcap, ?_⟩
        rcases hcells with h3 | ⟨a, h3, h4⟩
        · exact .inl h3
        · exact .inr ⟨a, h3, h4⟩
  case arr T k =>
    split at hd <;> first | (cases hd; done) | skip
    rename_i kk off
    split at hd <;> first | (cases hd; done) | skip
    split at hd <;> first | (cases hd; done) | skip
    rename_i r hr
    split at hd <;> first | (cases hd; done) | skip
    rename_i T' l
    split at hd <;> first | (cases hd; done) | skip
    rename_i hT
    obtain rfl := Nat.eq_of_beq_eq_true hT
    obtain ⟨v, rfl, rfl, hm⟩ := leafR_ok hd
    obtain ⟨g, a, hk, hbase, rfl⟩ := hb
    have hh := H.holds _ _ _ hr hk
    obtain ⟨bb, ds, rfl, h1, h2⟩ := hh
    cases hbase
    refine ⟨[], rfl, by simp, fun ln rest j => ⟨.arr T' l, by simp [eR, lstR, hm], ⟨fun blk ho => ⟨kk, _, _, by simp [ownB], hr, hk, ho⟩, fun blk hk => (by cases hk), fun n hn => ⟨_, hr, hn⟩, fun k' hk' => (by simp [ownB] at hk'; subst hk'; exact ⟨hk, _, hr, _, rfl⟩), fun _ _ _ h => h.elim⟩, fun n hn => ⟨rfl, _, hr, hn⟩, fun rin hin _ => ⟨bb, ds, rfl, h1, h2⟩⟩⟩
  case box T ss =>
    split at hd <;> first | (cases hd; done) | skip
    rename_i kk off
    split at hd <;> first | (cases hd; done) | skip
    split at hd <;> first | (cases hd; done) | skip
    rename_i r hr
    split at hd <;> first | (cases hd; done) | skip
    rename_i T' cs
    split at hd <;> first | (cases hd; done) | skip
    rename_i hT
    obtain rfl := Nat.eq_of_beq_eq_true hT
    obtain ⟨g, a, hk, hbase, rfl⟩ := hb
    have hh := H.holds _ _ _ hr hk
    obtain ⟨bb, ds, rfl, h1, h2⟩ := hh
    cases hbase
    obtain ⟨occ, o1, o2, o3⟩ := dL_ok h2 hd
    refine ⟨occ, o1, o2, fun ln rest j => ?_⟩
    obtain ⟨cs', e1, f1⟩ := o3 ln rest
    refine ⟨.box T' cs', by simp [eR, e1], ⟨fun blk ho => ⟨kk, _, _, by simp [ownB], hr, hk, ho⟩, fun blk hk => (by cases hk), fun n hn => (by cases hn), fun k' hk' => (by simp [ownB] at hk'; subst hk'; exact ⟨hk, _, hr, _, rfl⟩), fun k' off e _ q hq => (by cases e; rw [hr] at hq; cases hq; rfl)⟩, fun n hn => (by cases hn), fun rin hin F => ⟨bb, ds, rfl, h1, f1 rin hin F⟩⟩
  case rdb ss =>
    split at hd <;> first | (cases hd; done) | skip
    rename_i kk off
    obtain ⟨g, a, hk, hbase, rfl⟩ := hb
    have fin : ∀ {r : Res} {cs : List Value}, rs[kk]? = some r → (∀ q, rs[kk]? = some q → q.len = none) → (∀ blk, a.block = blk → cs.length ≠ 0 → r.own g = some blk ∨ r.reads g = some blk) → (∀ j u, cs[j]? = some u → ∃ v, w.cell? (a.add j) = some v ∧ VR0 rs hs v u) →
        dL ss ((cs.drop off).take ss.length) = some (lv, more) → DOK rs hs more (ROK FR w rs hs (.rdb ss) (.pt kk off) (.pointer (some (a.add off))) lv) := by
      intro r cs hr hnolen hblk hcell hd
      obtain ⟨ds, hl, hds⟩ := cells_list (R := VR0 rs hs) w (a.add off) ((cs.drop off).take ss.length) fun j u hu => by
        rw [List.getElem?_take] at hu
        split at hu
        · rw [List.getElem?_drop] at hu
          rw [Addr.add_add]
          exact hcell _ u hu
        · cases hu
      obtain ⟨occ, o1, o2, o3⟩ := dL_ok hl hd
      refine ⟨occ, o1, o2, fun ln rest j => ?_⟩
      obtain ⟨cs', e1, f1⟩ := o3 ln rest
      refine ⟨.rob cs', by simp [eR, e1], ⟨fun blk ho => (by cases ho), fun blk ho => ?_, fun n hn => (by cases hn), fun _ h => (by cases h), fun k' off' e _ q hq => (by cases e; exact hnolen q hq)⟩, fun n hn => (by cases hn), fun rin hin F => ⟨a.add off, rfl, fun j u hu => ?_⟩⟩
      · simp only [Res.reads] at ho
        split at ho
        · cases ho
        · rename_i hne
          simp only [baseOf, Option.map_some, Option.some.injEq, Addr.add_block] at ho
          refine ⟨kk, r, g, by simp [readB], hr, hk, hblk blk ho ?_⟩
          intro h0
          have hlen : cs'.length = ss.length := by
            have : ∀ (ss : List S0) (l : List LV) (cs : List Value) (l' : List LV), eL ln ss l = some (cs, l') → cs.length = ss.length := by
              intro ss
              induction ss with
              | nil => intro l cs l' h; simp only [eL, Option.some.injEq, Prod.mk.injEq] at h; rw [← h.1]; rfl
              | cons s r ih =>
                intro l cs l' h
                simp only [eL] at h
                split at h
                · cases h
                · split at h
                  · cases h
                  · rename_i h2; cases h; simp [ih _ _ _ h2]
            exact this ss _ _ _ e1
          have hcs : cs = [] := List.eq_nil_of_length_eq_zero h0
          subst hcs
          cases ss with
          | nil => simp at hlen; exact hne (by simp [hlen])
          | cons s r => simp [dL] at hd
      · obtain ⟨v, hv, hvu⟩ := (f1 rin hin F).get hu
        exact ⟨v, hds j v hv, hvu⟩
    split at hd <;> first | (cases hd; done) | skip
    rename_i r hr
    have hh := H.holds _ _ _ hr hk
    split at hd <;> first | (cases hd; done) | skip
    · rename_i T' cs
      obtain ⟨a', e, hcell⟩ := box_cells hh
      rw [hbase] at e; cases e
      exact fin hr (fun q hq => by rw [hr] at hq; cases hq; rfl) (fun blk e _ => .inl (by simp [Res.own, hbase, e])) hcell hd
    · rename_i cs
      obtain ⟨a', e, hcell⟩ := rob_cells hh
      rw [hbase] at e; cases e
      exact fin hr (fun q hq => by rw [hr] at hq; cases hq; rfl) (fun blk e hne => .inr (by simp [Res.reads, hbase, e, hne])) hcell hd
  case snap k =>
    split at hd <;> first | (cases hd; done) | skip
    rename_i kk
    split at hd <;> first | (cases hd; done) | skip
    rename_i r hr
    split at hd <;> first | (cases hd; done) | skip
    rename_i l
    obtain ⟨v, rfl, rfl, hm⟩ := leafR_ok hd
    have hk : hs kk = some h := hb
    have hh := H.holds _ _ _ hr hk
    exact ⟨[], rfl, by simp, fun ln rest j => ⟨.snap l, by simp [eR, lstR, hm], ⟨fun blk ho => (by cases ho), fun blk hk => (by cases hk), fun n hn => (by cases hn), fun _ h => (by cases h), fun _ _ e => (by cases e)⟩, trivial, fun rin hin _ => hh⟩⟩

/-- the first occurrence -/
def pickO (j : Nat) : List Occ → Option Occ
  | [] => none
  | o :: r => match Nat.beq o.j j with
    | true => some o
    | false => pickO j r
theorem pickO_mem {j : Nat} : ∀ {l : List Occ} {o : Occ}, pickO j l = some o → o ∈ l ∧ o.j = j
  | [], o, h => by cases h
  | x :: r, o, h => by
    simp only [pickO] at h
    split at h
    · rename_i hb; cases h; exact ⟨by simp, Nat.eq_of_beq_eq_true hb⟩
    · obtain ⟨h1, h2⟩ := pickO_mem h; exact ⟨by simp [h1], h2⟩
theorem pickB_key {j : Nat} : ∀ {l : List Occ}, pickB j (l.map Occ.key) = (pickO j l).map (·.b)
  | [] => rfl
  | x :: r => by
    simp only [List.map_cons, pickB, pickO, Occ.key]
    split <;> simp_all [pickB_key (l := r)]
theorem pickO_append {j : Nat} {o : Occ} : ∀ {l m : List Occ}, pickO j l = some o → pickO j (l ++ m) = some o
  | [], m, h => by cases h
  | x :: r, m, h => by
    simp only [List.cons_append, pickO] at h ⊢
    split
    · rename_i hb; rw [hb] at h; exact h
    · rename_i hb; rw [hb] at h; exact pickO_append h
theorem countB_one {j : Nat} : ∀ {l : List Occ} {o o' : Occ}, countB j (l.map Occ.key) = 1 → o ∈ l → o.j = j → o' ∈ l → o'.j = j → o = o'
  | [], o, o', _, h, _, _, _ => by cases h
  | x :: r, o, o', h, h1, h2, h3, h4 => by
    have zero : ∀ {l : List Occ} {o : Occ}, countB j (l.map Occ.key) = 0 → o ∈ l → o.j = j → False := by
      intro l
      induction l with
      | nil => intro o _ h _; cases h
      | cons y t ih =>
        intro o h hm hj
        simp only [List.map_cons, countB, Occ.key] at h
        split at h
        · omega
        · rename_i hb
          rcases List.mem_cons.1 hm with rfl | hm
          · subst hj; simp at hb
          · exact ih h hm hj
    simp only [List.map_cons, countB, Occ.key] at h
    split at h
    · have hz : countB j (r.map Occ.key) = 0 := by omega
      rcases List.mem_cons.1 h1 with rfl | h1
      · rcases List.mem_cons.1 h3 with rfl | h3
        · rfl
        · exact (zero hz h3 h4).elim
      · exact (zero hz h1 h2).elim
    · rename_i hb
      have ne : ∀ {o : Occ}, o ∈ x :: r → o.j = j → o ∈ r := by
        intro o hm hj
        rcases List.mem_cons.1 hm with rfl | hm
        · subst hj; simp at hb
        · exact hm
      exact countB_one h (ne h1 h2) h2 (ne h3 h4) h4

/-- the length in a slot of the new state -/
def lenIs (FR : List Res) (j : Nat) (s : SR) (r : Res) (l : List LV) : Prop := ∀ n, r.len = some n → (match s with | .keep => ∃ m, FR[j]? = some (.ro m) | _ => True) → (lenR FR j s l).1 = n

theorem eL_drop (ln : Nat → Nat) : ∀ {ss : List S0} {l l' : List LV} {cs : List Value}, eL ln ss l = some (cs, l') → l' = l.drop (nL ss)
  | [], l, l', cs, h => by simp [eL] at h; simp [nL, h.2]
  | s :: r, l, l', cs, h => by
    simp only [eL] at h
    split at h
    · cases h
    · rename_i v l1 h1
      split at h
      · cases h
      · rename_i vs l2 h2
        cases h
        have e1 : l1 = l.drop (n0 s) := by
          cases s <;> simp only [e0] at h1
          all_goals first
            | (cases h1; rfl)
            | (split at h1 <;> cases h1; rfl)
        rw [eL_drop ln h2, e1, List.drop_drop]
        rfl

theorem eR_len (FR : List Res) (ln : Nat → Nat) {j : Nat} {s : SR} {l l' : List LV} {r : Res} (h : eR FR ln j s l = some (r, l')) : l' = l.drop (lenR FR j s l).2 ∧ lenIs FR j s r l := by
  have lst : ∀ {k : Lk} {f : Lst → Res}, lstR k f l = some (r, l') → ∃ v t m, l = v :: t ∧ l' = t ∧ k.mk v = some m ∧ r = f m := by
    intro k f h
    unfold lstR at h
    split at h
    · cases h
    · split at h
      · rename_i hm; cases h; exact ⟨_, _, _, rfl, rfl, hm, rfl⟩
      · cases h
  cases s <;> simp only [eR] at h
  case row E k => obtain ⟨v, t, m, rfl, rfl, h1, rfl⟩ := lst h; exact ⟨rfl, fun n hn _ => by cases hn; exact Lk.mk_len h1⟩
  case rd k => obtain ⟨v, t, m, rfl, rfl, h1, rfl⟩ := lst h; exact ⟨rfl, fun n hn _ => by cases hn; exact Lk.mk_len h1⟩
  case arr T k => obtain ⟨v, t, m, rfl, rfl, h1, rfl⟩ := lst h; exact ⟨rfl, fun n hn _ => by cases hn; exact Lk.mk_len h1⟩
  case snap k => obtain ⟨v, t, m, rfl, rfl, h1, rfl⟩ := lst h; exact ⟨rfl, fun n hn _ => by cases hn⟩
  case box T ss =>
    split at h <;> cases h
    rename_i h1
    exact ⟨eL_drop ln h1, fun n hn _ => by cases hn⟩
  case rdb ss =>
    split at h <;> cases h
    rename_i h1
    exact ⟨eL_drop ln h1, fun n hn _ => by cases hn⟩
  case keep =>
    split at h <;> cases h
    rename_i h1
    refine ⟨rfl, fun n hn hm => ?_⟩
    obtain ⟨m, hm⟩ := hm
    rw [h1] at hm
    cases hm
    cases hn
    simp only [lenR, h1]
  case dead => cases h; exact ⟨rfl, fun n hn _ => by cases hn⟩

theorem eRs_len (FR : List Res) (ln : Nat → Nat) : ∀ {sr : List SR} {j : Nat} {l l' : List LV} {rin : List Res}, eRs FR ln j sr l = some (rin, l') → rin.length = sr.length ∧
    ∀ i r s n, rin[i]? = some r → sr[i]? = some s → r.len = some n → (match s with | .keep => ∃ m, FR[j + i]? = some (.ro m) | _ => True) → lens FR j sr l i = n
  | [], j, l, l', rin, h => by simp only [eRs, Option.some.injEq, Prod.mk.injEq] at h; rw [← h.1]; exact ⟨rfl, by simp⟩
  | s :: t, j, l, l', rin, h => by
    simp only [eRs] at h
    split at h
    · cases h
    · rename_i r l1 h1
      split at h
      · cases h
      · rename_i rs' l2 h2
        cases h
        obtain ⟨e1, e2⟩ := eR_len FR ln h1
        obtain ⟨e3, e4⟩ := eRs_len FR ln h2
        refine ⟨by simp [e3], fun i q s' n hq hs hn hk => ?_⟩
        cases i with
        | zero =>
          simp at hq hs
          subst hq; subst hs
          simp only [lens]
          exact e2 n hn hk
        | succ i =>
          simp only [lens]
          rw [← e1]
          exact e4 i q s' n (by simpa using hq) (by simpa using hs) hn (by cases s' <;> simp only at hk ⊢; rwa [Nat.add_right_comm, Nat.add_assoc])

/-- the slots, one after another -/
theorem dRs_ok (FR : List Res) (H : Heap w0 M rs hs w) : ∀ {sr : List SR} {j : Nat} {occ : List Occ} {lv : List LV} {bs' : List (Nat × Bnd)} {B : List Bnd}, (∀ o, o ∈ occ → HB rs hs o.b o.h) → dRs rs sr j (occ.map Occ.key) = some (lv, bs', B) →
    (∀ i s, sr[i]? = some s → isStay s = true → s = .keep → ∃ r, FR[j + i]? = some r) →
    ∃ occ' : List Occ, bs' = (occ ++ occ').map Occ.key ∧ (∀ o, o ∈ occ ++ occ' → HB rs hs o.b o.h) ∧ B.length = sr.length ∧ (∀ i b, B[i]? = some b → ∃ o, pickO (j + i) (occ ++ occ') = some o ∧ o.b = b) ∧
      ∀ ln rest, ∃ rin, eRs FR ln j sr (lv ++ rest) = some (rin, rest) ∧ ∀ i r s b o, rin[i]? = some r → sr[i]? = some s → B[i]? = some b → pickO (j + i) (occ ++ occ') = some o →
        (s = .keep → FR[j + i]? = some r) ∧ (s = .dead → r = .dead) ∧ (isStay s = false → From rs hs s b r o.h ∧ Long rs b r o.h ∧ ∀ rin hin, (∀ o, o ∈ occ ++ occ' → Fit rs rin hin ln o) → r.holds rin hin w o.h)
  | [], j, occ, lv, bs', B, ho, h, _ => by
    simp only [dRs] at h
    cases h
    exact ⟨[], by simp, by simpa using ho, rfl, by simp, fun ln rest => ⟨[], rfl, by simp⟩⟩
  | s :: t, j, occ, lv, bs', B, ho, h, hkeep => by
    simp only [dRs] at h
    split at h
    · cases h
    rename_i b hb
    split at h
    · cases h
    rename_i lv1 more hd
    split at h
    · cases h
    rename_i lv2 bs2 B2 h2
    cases h
    rw [pickB_key] at hb
    cases hpick : pickO j occ with
    | none => rw [hpick] at hb; cases hb
    | some o =>
      rw [hpick] at hb
      have hob : o.b = b := by simpa using hb
      obtain ⟨hom, hoj⟩ := pickO_mem hpick
      have hbh : HB rs hs b o.h := by rw [← hob]; exact ho o hom
      have step : ∃ occ1 : List Occ, occ1.map Occ.key = more ∧ (∀ o, o ∈ occ1 → HB rs hs o.b o.h) ∧ ∀ ln rest, ∃ r, eR FR ln j s (lv1 ++ rest) = some (r, rest) ∧
          (s = .keep → FR[j]? = some r) ∧ (s = .dead → r = .dead) ∧ (isStay s = false → From rs hs s b r o.h ∧ Long rs b r o.h ∧ ∀ rin hin, (∀ o, o ∈ occ1 → Fit rs rin hin ln o) → r.holds rin hin w o.h) := by
        cases hst : isStay s with
        | false =>
          obtain ⟨occ1, a1, a2, a3⟩ := dR_ok FR H hbh hst hd
          refine ⟨occ1, a1, a2, fun ln rest => ?_⟩
          obtain ⟨r, b1, b2, b3, b4⟩ := a3 ln rest j
          exact ⟨r, b1, (by intro e; subst e; cases hst), (by intro e; subst e; cases hst), fun _ => ⟨b2, b3, b4⟩⟩
        | true =>
          have hd' : lv1 = [] ∧ more = [] := by
            cases s <;> first | (cases hst; done) | skip
            all_goals (simp only [dR] at hd; cases hd; exact ⟨rfl, rfl⟩)
          obtain ⟨rfl, rfl⟩ := hd'
          refine ⟨[], rfl, by simp, fun ln rest => ?_⟩
          cases s <;> first | (cases hst; done) | skip
          · obtain ⟨r, hr⟩ := hkeep 0 .keep rfl rfl rfl
            refine ⟨r, ?_, fun _ => hr, (by intro e; cases e), (by intro e; cases e)⟩
            have hr' : FR[j]? = some r := hr
            simp [eR, hr']
          · exact ⟨.dead, rfl, (by intro e; cases e), fun _ => rfl, (by intro e; cases e)⟩
      obtain ⟨occ1, a1, a2, a3⟩ := step
      have h2' : dRs rs t (j + 1) ((occ ++ occ1).map Occ.key) = some (lv2, bs', B2) := by rw [List.map_append, a1]; exact h2
      have ho1 : ∀ o, o ∈ occ ++ occ1 → HB rs hs o.b o.h := by
        intro o ho'
        rcases List.mem_append.1 ho' with h | h
        · exact ho o h
        · exact a2 o h
      obtain ⟨occ2, c1, c2, c3, c4, c5⟩ := dRs_ok FR H ho1 h2' (fun i s hs h1 h2 => by
        have := hkeep (i + 1) s (by simpa using hs) h1 h2
        rwa [Nat.add_assoc, Nat.add_comm 1 i])
      rw [List.append_assoc] at c1 c2 c4 c5
      refine ⟨occ1 ++ occ2, c1, c2, by simp [c3], ?_, fun ln rest => ?_⟩
      · intro i b' hb'
        cases i with
        | zero => simp at hb'; subst hb'; exact ⟨o, pickO_append hpick, hob⟩
        | succ i =>
          have := c4 i b' (by simpa using hb')
          rwa [Nat.add_assoc, Nat.add_comm 1 i] at this
      · obtain ⟨r, b1, b2, b3, b4⟩ := a3 ln (lv2 ++ rest)
        obtain ⟨rin, d1, d2⟩ := c5 ln rest
        refine ⟨r :: rin, ?_, ?_⟩
        · rw [List.append_assoc]
          simp only [eRs, b1, d1]
        · intro i q s' b' o' hq hs' hb' ho'
          cases i with
          | zero =>
            simp at hq hs' hb'
            subst hq; subst hs'; subst hb'
            have : o' = o := by
              have := pickO_append (m := occ1 ++ occ2) hpick
              rw [Nat.add_zero, this] at ho'
              exact (Option.some.inj ho').symm
            subst this
            exact ⟨b2, b3, fun hst => ⟨(b4 hst).1, (b4 hst).2.1, fun rin hin F => (b4 hst).2.2 rin hin fun o ho => F o (by simp [ho])⟩⟩
          | succ i =>
            have := d2 i q s' b' o' (by simpa using hq) (by simpa using hs') (by simpa using hb') (by rwa [Nat.add_assoc, Nat.add_comm 1 i])
            rwa [Nat.add_assoc, Nat.add_comm 1 i] at this

theorem HB.fun {b b' : Bnd} {h h' : Value} (hb : sameB b b' = true) (hs1 : simpleB b = true) (h1 : HB rs hs b h) (h2 : HB rs hs b' h') : h = h' := by
  cases b with
  | nil => cases b' <;> simp only [sameB] at hb <;> first | (cases hb; done) | exact (show h = _ from h1).trans (show h' = _ from h2).symm
  | sl k off n q =>
    cases b' <;> simp only [sameB] at hb <;> first | (cases hb; done) | skip
    rename_i k' off' n' q'
    simp only [Bool.and_eq_true] at hb
    obtain ⟨⟨hk, hq⟩, _⟩ := hb
    obtain rfl := Nat.eq_of_beq_eq_true hk
    obtain rfl := Nat.eq_of_beq_eq_true hq
    have hq : q = 0 := Nat.eq_of_beq_eq_true hs1
    subst hq
    have e1 := h1.1
    have e2 := h2.1
    rw [e1] at e2
    exact Option.some.inj e2
  | pt k off =>
    cases b' <;> simp only [sameB] at hb <;> first | (cases hb; done) | skip
    rename_i k' off'
    simp only [Bool.and_eq_true] at hb
    obtain ⟨hk, hq⟩ := hb
    obtain rfl := Nat.eq_of_beq_eq_true hk
    obtain rfl := Nat.eq_of_beq_eq_true hq
    obtain ⟨g, a, e1, e2, rfl⟩ := h1
    obtain ⟨g', a', e1', e2', rfl⟩ := h2
    rw [e1] at e1'; cases e1'
    rw [e2] at e2'; cases e2'
    rfl
  | mp k =>
    cases b' <;> simp only [sameB] at hb <;> first | (cases hb; done) | skip
    obtain rfl := Nat.eq_of_beq_eq_true hb
    have e1 : hs k = some h := h1
    have e2 : hs k = some h' := h2
    rw [e1] at e2
    exact Option.some.inj e2

/-- the handles of the new state -/
def hinOf (occ : List Occ) (m : Nat) : Hs := fun j => if j < m then (pickO j occ).map (·.h) else none

/-- what the new state is, slot by slot -/
structure Dec (FR : List Res) (w : World) (rs : List Res) (hs : Hs) (sr : List SR) (B : List Bnd) (rin : List Res) (hin : Hs) : Prop where
  len : rin.length = sr.length
  blen : B.length = sr.length
  fresh : ∀ j, sr.length ≤ j → hin j = none
  hb : ∀ (j : Nat) (b : Bnd), B[j]? = some b → ∃ h, hin j = some h ∧ HB rs hs b h
  keep : ∀ (j : Nat) (r : Res), rin[j]? = some r → sr[j]? = some SR.keep → FR[j]? = some r
  dead : ∀ (j : Nat) (r : Res), rin[j]? = some r → sr[j]? = some SR.dead → r = Res.dead
  slot : ∀ (j : Nat) (r : Res) (s : SR) (b : Bnd) (h : Value), rin[j]? = some r → sr[j]? = some s → B[j]? = some b → hin j = some h → isStay s = false → From rs hs s b r h ∧ r.holds rin hin w h

theorem dec_ok (FR : List Res) (H : Heap w0 M rs hs w) {base : List Occ} {sv : List S2} {sr : List SR} {vs vals : List Value} {lv : List LV} {B : List Bnd} (hl : LR (VR2 rs hs) vs vals)
    (h : dec FR rs (base.map Occ.key) sv sr vals = some (lv, B)) (hbase : ∀ o, o ∈ base → HB rs hs o.b o.h)
    (hkeep : ∀ i : Nat, sr[i]? = some SR.keep → ∃ r, FR[i]? = some r ∧ rs[i]? = some r) :
    ∃ vals' rin hin, emb FR sv sr lv = some (vals', rin) ∧ LR (VR2 rin hin) vs vals' ∧ Dec FR w rs hs sr B rin hin ∧ (∀ o, o ∈ base → hin o.j = some o.h ∧ ∃ b0, B[o.j]? = some b0 ∧ sameB b0 o.b = true) := by
  unfold dec at h
  split at h
  · cases h
  rename_i lvV bs hd2
  split at h
  · cases h
  rename_i lvR bs' B' hdR
  split at h
  case h_2 => cases h
  rename_i hchk
  cases h
  simp only [Bool.and_eq_true] at hchk
  obtain ⟨⟨hchk, _⟩, _⟩ := hchk
  obtain ⟨occV, a1, a2, a3⟩ := d2L_ok hl hd2
  rw [← a1, ← List.map_append] at hdR
  have hB : ∀ o, o ∈ base ++ occV → HB rs hs o.b o.h := by
    intro o ho
    rcases List.mem_append.1 ho with h | h
    · exact hbase o h
    · exact a2 o h
  obtain ⟨occ', c1, c2, c3, c4, c5⟩ := dRs_ok FR H hB hdR (fun i s hs' _ e => by
    subst e
    obtain ⟨r, hr, _⟩ := hkeep i hs'
    exact ⟨r, by rwa [Nat.zero_add]⟩)
  simp only [Nat.zero_add] at c4 c5
  generalize hocc : base ++ occV ++ occ' = occT at *
  obtain ⟨rin, d1, d2⟩ := c5 (lens FR 0 sr (lvR ++ lvV)) lvV
  obtain ⟨vals', v1, v2⟩ := a3 (lens FR 0 sr (lvR ++ lvV)) []
  rw [List.append_nil] at v1
  dsimp only at v1
  obtain ⟨l1, l2⟩ := eRs_len FR _ d1
  simp only [Nat.zero_add] at l2
  have hin_eq : ∀ j b, B[j]? = some b → ∃ o, pickO j occT = some o ∧ o.b = b ∧ hinOf occT sr.length j = some o.h := by
    intro j b hb
    obtain ⟨o, h1, h2⟩ := c4 j b hb
    have hlt : j < sr.length := by rw [← c3]; exact (List.getElem?_eq_some_iff.1 hb).1
    exact ⟨o, h1, h2, by simp [hinOf, hlt, h1]⟩
  have hbase' : ∀ o, o ∈ occT → ∃ b0 s r o0, B[o.j]? = some b0 ∧ sr[o.j]? = some s ∧ rin[o.j]? = some r ∧ pickO o.j occT = some o0 ∧ o0.b = b0 ∧ o0.h = o.h ∧ hinOf occT sr.length o.j = some o.h ∧ sameB b0 o.b = true ∧ slotB FR s o.j o.b = true := by
    intro o ho
    have hmem : o.key ∈ bs' := by rw [c1]; exact List.mem_map_of_mem ho
    have := List.all_eq_true.1 hchk _ hmem
    simp only [Occ.key] at this
    split at this
    case h_2 => cases this
    rename_i b0 hb0
    split at this
    case h_2 => cases this
    rename_i s hs'
    simp only [Bool.and_eq_true, Bool.or_eq_true] at this
    obtain ⟨h12, h3⟩ := this
    obtain ⟨o0, e1, e2, e3⟩ := hin_eq _ _ hb0
    obtain ⟨m1, m2⟩ := pickO_mem e1
    have hlt : o.j < rin.length := by rw [l1]; exact (List.getElem?_eq_some_iff.1 hs').1
    have hboth : o0.h = o.h ∧ sameB b0 o.b = true := by
      rcases h12 with h2 | ⟨h1, h2⟩
      · have hcnt := Nat.eq_of_beq_eq_true h2
        rw [c1] at hcnt
        have e0 := countB_one hcnt m1 m2 ho rfl
        subst e0
        exact ⟨rfl, by rw [← e2]; exact sameB_self _⟩
      · exact ⟨HB.fun h1 h2 (by rw [← e2]; exact c2 o0 m1) (c2 o ho), h1⟩
    obtain ⟨hh, h1⟩ := hboth
    exact ⟨b0, s, rin[o.j], o0, hb0, hs', by simp [hlt], e1, e2, hh, by rw [← hh]; exact e3, h1, h3⟩
  have F : ∀ o, o ∈ occT → Fit rs rin (hinOf occT sr.length) (lens FR 0 sr (lvR ++ lvV)) o := by
    intro o ho
    obtain ⟨b0, s, r, o0, hb0, hs', hr, hpick, hob, hh, hhin, hsame, hslot⟩ := hbase' o ho
    have D := d2 o.j r s b0 o0 hr hs' hb0 hpick
    refine ⟨hhin, ?_⟩
    have long : isStay s = false → (∃ oa n cap, o.h = .slice oa n cap ∧ n ≤ cap ∧ r.len = some n) → ∃ oa cap, o.h = .slice oa (lens FR 0 sr (lvR ++ lvV) o.j) cap ∧ lens FR 0 sr (lvR ++ lvV) o.j ≤ cap ∧
        ∀ r' m, rin[o.j]? = some r' → r'.len = some m → lens FR 0 sr (lvR ++ lvV) o.j = m := by
      rintro hst ⟨oa, n, cap, e1, e2, e3⟩
      have e4 := l2 o.j r s n hr hs' e3 (by cases s <;> first | trivial | cases hst)
      exact ⟨oa, cap, by rw [e4]; exact e1, by rw [e4]; exact e2, fun r' m hr' hm => by rw [hr] at hr'; cases hr'; rw [e3] at hm; cases hm; exact e4⟩
    rw [← hh] at long ⊢
    cases hb : o.b with
    | nil =>
      rw [hb] at hsame hslot
      have hb0' : b0 = .nil := by cases b0 <;> first | rfl | cases hsame
      subst hb0'
      have hst : isStay s = false := by cases s <;> first | rfl | cases hslot
      exact long hst (D.2.2 hst).2.1
    | sl k off n q =>
      rw [hb] at hsame hslot
      cases hst : isStay s with
      | false =>
        have L := (D.2.2 hst).2.1
        cases b0 <;> first | (cases hsame; done) | skip
        exact long hst L
      | true =>
        cases s <;> first | (cases hst; done) | skip
        · simp only [slotB] at hslot
          split at hslot
          case h_2 => cases hslot
          split at hslot
          case h_2 => cases hslot
          rename_i hk
          have hk := Nat.eq_of_beq_eq_true hk
          split at hslot
          case h_2 => cases hslot
          rename_i r1 hr1
          split at hslot
          case h_2 => cases hslot
          rename_i l
          have hrr := D.1 rfl
          rw [hr1] at hrr
          cases hrr
          obtain ⟨r2, hr2, hrs⟩ := hkeep o.j hs'
          rw [hr1] at hr2; cases hr2
          have hHB := c2 o ho
          rw [hb] at hHB
          have hk1 : hs k = some o.h := hHB.1
          rw [hk] at hk1
          obtain ⟨g, cap, e1, e2, _⟩ := H.holds _ _ _ hrs hk1
          have e4 := l2 o.j _ .keep l.length hr hs' rfl ⟨l, hr1⟩
          exact ⟨g, cap, by rw [e4, hh]; exact e1, by rw [e4]; exact e2, fun r' m hr' hm => by rw [hr] at hr'; cases hr'; cases hm; exact e4⟩
        · cases hslot
    | pt k off =>
      rw [hb] at hsame hslot
      intro r' n hr' hn
      rw [hr] at hr'; cases hr'
      cases hst : isStay s with
      | false =>
        have L := (D.2.2 hst).2.1
        cases b0 <;> simp only [sameB] at hsame <;> first | (cases hsame; done) | skip
        simp only [Bool.and_eq_true] at hsame
        obtain ⟨x1, x2⟩ := hsame
        obtain rfl := Nat.eq_of_beq_eq_true x1
        obtain rfl := Nat.eq_of_beq_eq_true x2
        exact L n hn
      | true =>
        cases s <;> first | (cases hst; done) | skip
        · simp only [slotB] at hslot
          split at hslot
          case h_2 => cases hslot
          split at hslot
          case h_2 => cases hslot
          rename_i r1 hr1
          split at hslot
          case h_2 => cases hslot
          have hrr := D.1 rfl
          rw [hr1] at hrr
          cases hrr
          cases hn
        · cases hslot
    | mp k => trivial
  refine ⟨vals', rin, hinOf occT sr.length, ?_, v2 rin _ fun o ho => F o (by rw [← hocc]; simp [ho]), ⟨l1, c3, ?_, ?_, ?_, ?_, ?_⟩, ?_⟩
  · unfold emb
    rw [d1]
    dsimp only
    rw [v1]
  · intro j hj
    have : ¬ j < sr.length := by omega
    simp [hinOf, this]
  · intro j b hb
    obtain ⟨o, h1, h2, h3⟩ := hin_eq j b hb
    exact ⟨o.h, h3, by rw [← h2]; exact c2 o (pickO_mem h1).1⟩
  · intro j r hr hs'
    have hlt : j < B.length := by rw [c3]; exact (List.getElem?_eq_some_iff.1 hs').1
    have hb : B[j]? = some B[j] := by simp [hlt]
    obtain ⟨o, h1, h2, h3⟩ := hin_eq j _ hb
    exact (d2 j r .keep _ o hr hs' hb h1).1 rfl
  · intro j r hr hs'
    have hlt : j < B.length := by rw [c3]; exact (List.getElem?_eq_some_iff.1 hs').1
    have hb : B[j]? = some B[j] := by simp [hlt]
    obtain ⟨o, h1, h2, h3⟩ := hin_eq j _ hb
    exact (d2 j r .dead _ o hr hs' hb h1).2.1 rfl
  · intro j r s b h hr hs' hb hh hst
    obtain ⟨o, h1, h2, h3⟩ := hin_eq j b hb
    rw [h3] at hh; cases hh
    obtain ⟨x1, x2, x3⟩ := (d2 j r s b o hr hs' hb h1).2.2 hst
    exact ⟨x1, x3 rin _ F⟩
  · intro o ho
    obtain ⟨b0, s, r, o0, hb0, hs', hr, hpick, hob, hh, hhin, hsame, _⟩ := hbase' o (by rw [← hocc]; simp [ho])
    exact ⟨hhin, b0, hb0, hsame⟩

end
end Go.K
