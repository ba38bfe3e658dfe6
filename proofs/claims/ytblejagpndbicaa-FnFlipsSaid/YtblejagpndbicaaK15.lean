/- A function's text: branches, joins, rounds. -/
import Derived.Test.YtblejagpndbicaaK14
set_option linter.unusedSimpArgs false
set_option linter.unusedVariables false
namespace Go.K
open Go.RowKit

theorem dec_checks {FR rs : List Res} {base : List (Nat × Bnd)} {sv : List S2} {sr : List SR} {vals : List Value} {lv : List LV} {B : List Bnd} (h : dec FR rs base sv sr vals = some (lv, B)) :
    (ownBs sr B).Nodup ∧ (∀ k, k ∈ readBs sr B → k ∈ ownBs sr B → False) := by
  unfold dec at h
  split at h
  · cases h
  split at h
  · cases h
  split at h
  · rename_i hc
    cases h
    simp only [Bool.and_eq_true] at hc
    exact ⟨nodupB_spec hc.1.2, fun k h1 h2 => disj_spec hc.2 k h1 h2⟩
  · cases h

theorem ownBs_mem : ∀ {sr : List SR} {B : List Bnd} {i : Nat} {s : SR} {b : Bnd} {k : Nat}, sr[i]? = some s → B[i]? = some b → k ∈ ownB s b → k ∈ ownBs sr B
  | [], B, i, s, b, k, h, _, _ => by simp at h
  | s :: r, [], i, _, b, k, _, h, _ => by simp at h
  | s :: r, b :: bs, i, s', b', k, h1, h2, h3 => by
    simp only [ownBs, List.mem_append]
    cases i with
    | zero => simp at h1 h2; subst h1; subst h2; exact .inl h3
    | succ i => exact .inr (ownBs_mem (i := i) (by simpa using h1) (by simpa using h2) h3)
theorem readBs_mem : ∀ {sr : List SR} {B : List Bnd} {i : Nat} {s : SR} {b : Bnd} {k : Nat}, sr[i]? = some s → B[i]? = some b → k ∈ readB s b → k ∈ readBs sr B
  | [], B, i, s, b, k, h, _, _ => by simp at h
  | s :: r, [], i, _, b, k, _, h, _ => by simp at h
  | s :: r, b :: bs, i, s', b', k, h1, h2, h3 => by
    simp only [readBs, List.mem_append]
    cases i with
    | zero => simp at h1 h2; subst h1; subst h2; exact .inl h3
    | succ i => exact .inr (readBs_mem (i := i) (by simpa using h1) (by simpa using h2) h3)
theorem ownBs_inj : ∀ {sr : List SR} {B : List Bnd} {i j : Nat} {s t : SR} {b c : Bnd} {k : Nat}, (ownBs sr B).Nodup → sr[i]? = some s → B[i]? = some b → k ∈ ownB s b → sr[j]? = some t → B[j]? = some c → k ∈ ownB t c → i = j
  | [], B, i, j, s, t, b, c, k, _, h, _, _, _, _, _ => by simp at h
  | s :: r, [], i, j, _, _, b, _, k, _, _, h, _, _, _, _ => by simp at h
  | s :: r, b :: bs, i, j, s', t', b', c', k, hnd, h1, h2, h3, h4, h5, h6 => by
    simp only [ownBs] at hnd
    obtain ⟨n1, n2, n3⟩ := List.nodup_append.1 hnd
    cases i with
    | zero =>
      simp at h1 h2; subst h1; subst h2
      cases j with
      | zero => rfl
      | succ j => exact absurd rfl (n3 k h3 k (ownBs_mem (i := j) (by simpa using h4) (by simpa using h5) h6))
    | succ i =>
      cases j with
      | zero =>
        simp at h4 h5; subst h4; subst h5
        exact absurd rfl (n3 k h6 k (ownBs_mem (i := i) (by simpa using h1) (by simpa using h2) h3))
      | succ j =>
        have := ownBs_inj (i := i) (j := j) n2 (by simpa using h1) (by simpa using h2) h3 (by simpa using h4) (by simpa using h5) h6
        omega

section
variable {w0 w : World} {M : List Nat} {rs : List Res} {hs : Hs} {FR : List Res} {sr : List SR} {B : List Bnd} {rin : List Res} {hin : Hs}

theorem Dec.shape (D : Dec FR w rs hs sr B rin hin) {j : Nat} {r : Res} (h : rin[j]? = some r) : ∃ s b, sr[j]? = some s ∧ B[j]? = some b := by
  have hlt : j < rin.length := (List.getElem?_eq_some_iff.1 h).1
  have h1 : j < sr.length := by rw [← D.len]; exact hlt
  have h2 : j < B.length := by rw [D.blen]; exact h1
  exact ⟨sr[j], B[j], by simp [h1], by simp [h2]⟩

/-- a resource that is only read -/
def isRead : Res → Bool
  | .ro _ => true
  | .rob _ => true
  | _ => false
theorem isRead_own {r : Res} {h : Value} (hr : isRead r = true) : r.own h = none := by cases r <;> first | rfl | cases hr

/-- the first n slots as they are -/
def below (n : Nat) (k : Nat) : Option Nat := match Nat.blt k n with
  | true => some k
  | false => none
theorem below_spec {n k i : Nat} (h : below n k = some i) : i = k ∧ k < n := by
  unfold below at h
  split at h
  · rename_i hb; cases h; exact ⟨rfl, by simpa [Nat.blt_eq] using hb⟩
  · cases h
theorem below_lt {n k : Nat} (h : Nat.blt k n = true) : below n k = some k := by unfold below; rw [h]

def under0 (n : Nat) (v : Value) : Bool :=
  match v with
  | .pointer a => match a with
    | none => true
    | some p => Nat.blt p.block n
  | .slice a _ _ => match a with
    | none => true
    | some p => Nat.blt p.block n
  | .map r => match r with
    | none => true
    | some k => Nat.blt k n
  | .tuple _ => false
  | _ => true
def underL (n : Nat) : List Value → Bool
  | [] => true
  | v :: r => match under0 n v with
    | true => underL n r
    | false => false
def underA (n : Nat) (v : Value) : Bool :=
  match v with
  | .agg cs => underL n cs.toList
  | _ => under0 n v
def underAL (n : Nat) : List Value → Bool
  | [] => true
  | v :: r => match underA n v with
    | true => underAL n r
    | false => false
def under1 (n : Nat) (v : Value) : Bool :=
  match v with
  | .func _ a b => underAL n a.toList && underAL n b.toList
  | _ => underA n v
def underF (n : Nat) : Env → Bool
  | [] => true
  | p :: r => match under1 n p.2 with
    | true => underF n r
    | false => false
def underR (n : Nat) (r : Res) : Bool :=
  match r with
  | .box _ cs => underL n cs
  | .rob cs => underL n cs
  | _ => true
def underRs (n : Nat) : List Res → Bool
  | [] => true
  | r :: t => match underR n r with
    | true => underRs n t
    | false => false

theorem under0_ok {n : Nat} {v : Value} (h : under0 n v = true) : ren0 (below n) v = v := by
  cases v with
  | pointer a => cases a with
    | none => rfl
    | some p => simp only [ren0, below_lt (show Nat.blt p.block n = true from h)]
  | slice a m q => cases a with
    | none => rfl
    | some p => simp only [ren0, below_lt (show Nat.blt p.block n = true from h)]
  | map r => cases r with
    | none => rfl
    | some k => simp only [ren0, below_lt (show Nat.blt k n = true from h)]
  | _ => rfl
theorem underL_ok {n : Nat} : ∀ {l : List Value}, underL n l = true → l.map (ren0 (below n)) = l
  | [], _ => rfl
  | v :: r, h => by
    simp only [underL] at h
    split at h
    · rename_i h1; rw [List.map_cons, under0_ok h1, underL_ok h]
    · cases h
theorem underA_ok {n : Nat} {v : Value} (h : underA n v = true) : renA (below n) v = v := by
  cases v <;> simp only [underA] at h <;> simp only [renA] <;> first | exact under0_ok h | skip
  rw [underL_ok h]
theorem underAL_ok {n : Nat} : ∀ {l : List Value}, underAL n l = true → l.map (renA (below n)) = l
  | [], _ => rfl
  | v :: r, h => by
    simp only [underAL] at h
    split at h
    · rename_i h1; rw [List.map_cons, underA_ok h1, underAL_ok h]
    · cases h
theorem under1_ok {n : Nat} {v : Value} (h : under1 n v = true) : ren1 (below n) v = v := by
  cases v <;> simp only [under1] at h <;> simp only [ren1] <;> first | exact underA_ok h | skip
  simp only [Bool.and_eq_true] at h
  rw [underAL_ok h.1, underAL_ok h.2]
theorem under2_ok {n : Nat} {v : Value} (h : under1 n v = true) : ren2 (below n) v = v := by
  rw [ren2_ne (fun cs e => by subst e; cases h)]; exact under1_ok h
theorem underF_ok {n t : Nat} {c : Value} : ∀ {F : Env}, underF n F = true → look F t = some c → ren2 (below n) c = c
  | [], _, h => by cases h
  | p :: r, hu, h => by
    simp only [underF] at hu
    split at hu
    · rename_i h1
      simp only [look] at h
      split at h
      · cases h; exact under2_ok h1
      · exact underF_ok hu h
    · cases hu
theorem underR_ok {n : Nat} {r : Res} (h : underR n r = true) : r.ren (below n) = r := by
  cases r <;> simp only [underR] at h <;> simp only [Res.ren] <;> rw [underL_ok h]
theorem underRs_ok {n : Nat} : ∀ {l : List Res} {i : Nat} {r : Res}, underRs n l = true → l[i]? = some r → r.ren (below n) = r
  | [], i, r, _, h => by simp at h
  | x :: t, i, r, h, hi => by
    simp only [underRs] at h
    split at h
    · rename_i h1
      cases i with
      | zero => simp at hi; subst hi; exact underR_ok h1
      | succ i => exact underRs_ok h (by simpa using hi)
    · cases h

def noRd : SR → Bool
  | .rd _ => false
  | .rdb _ => false
  | _ => true

/-- the slots that stay: what they are of -/
structure Kept (nin : Nat) (rs : List Res) (hs : Hs) (FR : List Res) (sr : List SR) (rin : List Res) (hin : Hs) : Prop where
  keep : ∀ j : Nat, sr[j]? = some SR.keep → ∃ r, FR[j]? = some r ∧ rs[j]? = some r ∧ isRead r = true ∧ hin j = hs j ∧ r.ren (below nin) = r
  maps : Maps (below nin) rs rin hs hin

/-- in a round, at a join: the same frame -/
theorem Dec.heap (H : Heap w0 M rs hs w) (D : Dec FR w rs hs sr B rin hin) (hnd : (ownBs sr B).Nodup) {nin : Nat} (hk : Kept nin rs hs FR sr rin hin) (hrd : ∀ s, s ∈ sr → noRd s = true) : Heap w0 M rin hin w := by
  have cases : ∀ (j : Nat) (r : Res) (h : Value), rin[j]? = some r → hin j = some h →
      (rs[j]? = some r ∧ hs j = some h ∧ isRead r = true ∧ r.ren (below nin) = r) ∨ r = .dead ∨ ∃ s b, sr[j]? = some s ∧ B[j]? = some b ∧ isStay s = false ∧ From rs hs s b r h ∧ r.holds rin hin w h := by
    intro j r h hr hh
    obtain ⟨s, b, hs', hb⟩ := D.shape hr
    cases hst : isStay s with
    | false => obtain ⟨h1, h2⟩ := D.slot j r s b h hr hs' hb hh hst; exact .inr (.inr ⟨s, b, hs', hb, hst, h1, h2⟩)
    | true =>
      cases s <;> first | (cases hst; done) | skip
      · obtain ⟨r', e1, e2, e3, e4, e5⟩ := hk.keep j hs'
        have := D.keep j r hr hs'
        rw [e1] at this; cases this
        exact .inl ⟨e2, by rw [← e4]; exact hh, e3, e5⟩
      · exact .inr (.inl (D.dead j r hr hs'))
  have own : ∀ (j : Nat) (r : Res) (h : Value) (blk : Nat), rin[j]? = some r → hin j = some h → r.own h = some blk → ∃ s b k q g, sr[j]? = some s ∧ B[j]? = some b ∧ k ∈ ownB s b ∧ rs[k]? = some q ∧ hs k = some g ∧ q.own g = some blk := by
    intro j r h blk hr hh ho
    rcases cases j r h hr hh with ⟨_, _, h3, _⟩ | rfl | ⟨s, b, h1, h2, _, h4, _⟩
    · rw [isRead_own h3] at ho; cases ho
    · cases ho
    · obtain ⟨k, q, g, e1, e2, e3, e4⟩ := h4.own blk ho
      exact ⟨s, b, k, q, g, h1, h2, e1, e2, e3, e4⟩
  refine ⟨?_, ?_, ?_, ?_, fun i hi => D.fresh i (by rw [← D.len]; exact hi), H.free, H.frame⟩
  · intro j r h hr hh
    rcases cases j r h hr hh with ⟨h1, h2, h3, h6⟩ | rfl | ⟨s, b, h1, h2, h3, h4, h5⟩
    · have := Res.holds_ren hk.maps (H.holds j r h h1 h2)
      rwa [h6] at this
    · trivial
    · exact h5
  · intro i j r q h g blk hr hh hq hg h1 h2
    obtain ⟨s, b, k, q1, g1, a1, a2, a3, a4, a5, a6⟩ := own i r h blk hr hh h1
    obtain ⟨s', b', k', q1', g1', b1, b2, b3, b4, b5, b6⟩ := own j q g blk hq hg h2
    have := H.sep k k' q1 q1' g1 g1' blk a4 a5 b4 b5 a6 b6
    subst this
    exact ownBs_inj hnd a1 a2 a3 b1 b2 b3
  · intro j r h blk hr hh ho
    obtain ⟨s, b, k, q1, g1, a1, a2, a3, a4, a5, a6⟩ := own j r h blk hr hh ho
    exact H.new k q1 g1 blk a4 a5 a6
  · intro j r h blk hr hh ho
    rcases cases j r h hr hh with ⟨h1, h2, h3, _⟩ | rfl | ⟨s, b, h1, h2, h3, h4, h5⟩
    · exact H.old j r h blk h1 h2 ho
    · cases ho
    · obtain ⟨k, q, g, e1, _⟩ := h4.reads blk ho
      have := hrd s (List.mem_of_getElem? h1)
      cases s <;> first | (cases this; done) | (cases e1; done)

/-! ### the slots of the call's arguments -/
def baseB (rs : List Res) (sr : List SR) (j : Nat) : Bnd :=
  match sr[j]? with
  | some .dead => .mp j
  | _ => match rs[j]? with
    | some r => match r with
      | .ro l => .sl j 0 l.length 0
      | .row _ l => .sl j 0 l.length 0
      | .arr _ _ => .pt j 0
      | .box _ _ => .pt j 0
      | .rob _ => .pt j 0
      | .snap _ => .mp j
      | .dead => .mp j
    | none => .mp j
def baseL (rs : List Res) (sr : List SR) : Nat → Nat → List (Nat × Bnd)
  | _, 0 => []
  | j, n + 1 => (j, baseB rs sr j) :: baseL rs sr (j + 1) n

theorem baseB_ok (H : Heap w0 M rs hs w) {j : Nat} {h : Value} (hj : hs j = some h) : HB rs hs (baseB rs sr j) h := by
  unfold baseB
  split
  · exact hj
  · split
    · rename_i r hr
      have hh := H.holds j r h hr hj
      split
      · obtain ⟨g, cap, rfl, h1, _⟩ := hh
        exact ⟨hj, ⟨g, cap, rfl, h1⟩, fun r m hr' hm => by rw [hr] at hr'; cases hr'; cases hm; rfl⟩
      · obtain ⟨g, cap, rfl, h1⟩ := hh
        refine ⟨hj, ⟨g, cap, rfl, ?_⟩, fun r m hr' hm => by rw [hr] at hr'; cases hr'; cases hm; rfl⟩
        rcases h1 with ⟨_, h1⟩ | ⟨_, _, _, _, _, h1, _⟩ <;> omega
      · obtain ⟨b, ds, rfl, _⟩ := hh; exact ⟨_, _, hj, rfl, rfl⟩
      · obtain ⟨b, ds, rfl, _⟩ := hh; exact ⟨_, _, hj, rfl, rfl⟩
      · obtain ⟨a, rfl, _⟩ := hh; exact ⟨_, _, hj, rfl, rfl⟩
      · exact hj
      · exact hj
    · exact hj

theorem baseL_ok (H : Heap w0 M rs hs w) : ∀ (n j : Nat), (∀ i, j ≤ i → i < j + n → ∃ h, hs i = some h) →
    ∃ base : List Occ, base.map Occ.key = baseL rs sr j n ∧ (∀ o, o ∈ base → HB rs hs o.b o.h) ∧ (∀ i, j ≤ i → i < j + n → ∃ o, o ∈ base ∧ o.j = i ∧ hs i = some o.h ∧ o.b = baseB rs sr i)
  | 0, j, _ => ⟨[], rfl, by simp, fun i h1 h2 => by omega⟩
  | n + 1, j, h => by
    obtain ⟨base, h1, h2, h3⟩ := baseL_ok H n (j + 1) fun i a b => h i (by omega) (by omega)
    obtain ⟨v, hv⟩ := h j (Nat.le_refl _) (by omega)
    refine ⟨⟨j, baseB rs sr j, v⟩ :: base, by simp [baseL, h1, Occ.key], fun o ho => ?_, fun i a b => ?_⟩
    · rcases List.mem_cons.1 ho with rfl | ho
      · exact baseB_ok H hv
      · exact h2 o ho
    · by_cases e : i = j
      · subst e; exact ⟨⟨i, baseB rs sr i, v⟩, by simp, rfl, hv, rfl⟩
      · obtain ⟨o, o1, o2⟩ := h3 i (by omega) (by omega)
        exact ⟨o, by simp [o1], o2⟩

/-- the shape of a state -/
structure Sh where
  ts : List Nat
  tys : List LT
  sv : List S2
  sr : List SR

def looks : List Nat → Env → Option (List Value)
  | [], _ => some []
  | t :: r, L => match look L t with
    | some v => match looks r L with
      | some vs => some (v :: vs)
      | none => none
    | none => none
def zipE : List Nat → List Value → Env → Env
  | [], _, F => F
  | t :: r, l, F => match l with
    | [] => F
    | v :: vs => (t, v) :: zipE r vs F

/-- which slots stay, is known; none is read that is of the call's own -/
def shOK (X : VX) (sh : Sh) : Bool :=
  sh.sr.all noRd && (sh.ts.all fun t => !(memF t X.F)) && (idx 0 sh.sr).all fun p => match p.2 with
    | .keep => memN p.1 X.fr && Nat.blt p.1 X.nin
    | _ => true
/-- all the slots that stay are kept -/
def frOK (X : VX) (sh : Sh) : Bool := (X.fr.all fun k => match sh.sr[k]? with
  | some .keep => true
  | _ => false) && Nat.ble X.nin sh.sr.length

/-- the state, said by its leaves -/
def getS (X : VX) (sh : Sh) (k : List LV → Prop) (rs : List Res) (L : Env) : Prop :=
  match looks sh.ts L with
  | none => False
  | some vals => match shOK X sh && frOK X sh with
    | false => False
    | true => match dec X.FR rs (baseL rs sh.sr 0 X.nin) sh.sv sh.sr vals with
      | none => False
      | some (lv, _) => k lv
/-- the state that has these leaves -/
def putS (X : VX) (sh : Sh) (k : List Res → Env → Prop) (lv : List LV) : Prop :=
  match emb X.FR sh.sv sh.sr lv with
  | none => False
  | some (vals, rs) => k rs (zipE sh.ts vals X.F)

/-- what is known of a function's walk, once for all -/
structure XOK (X : VX) (hs0 : Hs) : Prop where
  h0 : ∀ i, i < X.nin → ∃ h, hs0 i = some h
  fr : ∀ k, memN k X.fr = true → k < X.nin
  frR : ∀ (k : Nat) (r : Res), memN k X.fr = true → X.FR[k]? = some r → isRead r = true
  frE : ∀ k, memN k X.fr = true → ∃ r, X.FR[k]? = some r
  FR : underRs X.nin X.FR = true
  F : ∀ t c, look X.F t = some c → ren2 (below X.nin) c = c

end

section
variable {X : VX} {w0 w : World} {M : List Nat} {hs0 : Hs} {rs : List Res} {L : Env} {a : Act}

theorem looks_ok : ∀ {ts : List Nat} {vals : List Value}, looks ts L = some vals → vals.length = ts.length ∧ ∀ i t : Nat, ts[i]? = some t → ∃ c, vals[i]? = some c ∧ look L t = some c
  | [], vals, h => by simp [looks] at h; subst h; exact ⟨rfl, by simp⟩
  | t :: r, vals, h => by
    simp only [looks] at h
    split at h
    · rename_i v hv
      split at h
      · rename_i vs hvs
        cases h
        obtain ⟨h1, h2⟩ := looks_ok hvs
        refine ⟨by simp [h1], fun i t' ht => ?_⟩
        cases i with
        | zero => simp at ht; subst ht; exact ⟨v, rfl, hv⟩
        | succ i => exact h2 i t' (by simpa using ht)
      · cases h
    · cases h

theorem look_zipE {F : Env} {t : Nat} {c : Value} : ∀ {ts : List Nat} {vals : List Value}, look (zipE ts vals F) t = some c → (∃ i : Nat, ts[i]? = some t ∧ vals[i]? = some c) ∨ look F t = some c
  | [], vals, h => .inr h
  | x :: r, [], h => .inr h
  | x :: r, v :: vs, h => by
    simp only [zipE, look] at h
    split at h
    · rename_i hb
      cases h
      left
      exact ⟨0, by simp [Nat.eq_of_beq_eq_true hb], rfl⟩
    · rcases look_zipE h with ⟨i, h1, h2⟩ | h1
      · exact .inl ⟨i + 1, by simpa using h1, by simpa using h2⟩
      · exact .inr h1
theorem look_zipE_F {F : Env} {t : Nat} : ∀ {ts : List Nat} {vals : List Value}, (∀ x, x ∈ ts → x ≠ t) → look (zipE ts vals F) t = look F t
  | [], vals, _ => rfl
  | x :: r, [], _ => rfl
  | x :: r, v :: vs, h => by
    simp only [zipE, look]
    split
    · rename_i hb; exact absurd (Nat.eq_of_beq_eq_true hb) (h x (by simp))
    · exact look_zipE_F fun y hy => h y (by simp [hy])

theorem idx_all {α : Type} {p : Nat × α → Bool} : ∀ {l : List α} {k i : Nat} {x : α}, (idx k l).all p = true → l[i]? = some x → p (k + i, x) = true
  | [], k, i, x, _, h => by simp at h
  | y :: r, k, i, x, h, hi => by
    simp only [idx, List.all_cons, Bool.and_eq_true] at h
    cases i with
    | zero => simp at hi; subst hi; exact h.1
    | succ i =>
      have := idx_all h.2 (by simpa using hi : r[i]? = some x)
      rwa [Nat.add_assoc, Nat.add_comm 1 i] at this

/-- the state, from its leaves -/
theorem decS_ok (XO : XOK X hs0) {hs : Hs} (H : Heap w0 M rs hs w) (h0 : ∀ i, i < X.nin → hs i = hs0 i) (hres : ∀ k, memN k X.fr = true → rs[k]? = X.FR[k]?) {sh : Sh} {vs vals : List Value} {lv : List LV} {B : List Bnd}
    (hvs : LR (VR2 rs hs) vs vals) (hok : (shOK X sh && frOK X sh) = true) (hdec : dec X.FR rs (baseL rs sh.sr 0 X.nin) sh.sv sh.sr vals = some (lv, B)) :
    ∃ vals' rin hin, emb X.FR sh.sv sh.sr lv = some (vals', rin) ∧ LR (VR2 rin hin) vs vals' ∧ Heap w0 M rin hin w ∧ (∀ i, i < X.nin → hin i = hs0 i) ∧ Maps (below X.nin) rs rin hs hin ∧
      (∀ k, memN k X.fr = true → rin[k]? = X.FR[k]?) ∧ X.nin ≤ rin.length ∧ (∀ x, x ∈ sh.ts → memF x X.F = false) := by
  simp only [Bool.and_eq_true] at hok
  obtain ⟨hsh, hfr⟩ := hok
  have hh : ∀ i, 0 ≤ i → i < 0 + X.nin → ∃ h, hs i = some h := fun i _ hi => by
    obtain ⟨v, hv⟩ := XO.h0 i (by omega)
    exact ⟨v, by rw [h0 i (by omega)]; exact hv⟩
  obtain ⟨base, b1, b2, b3⟩ := baseL_ok (sr := sh.sr) H X.nin 0 hh
  rw [← b1] at hdec
  simp only [shOK, Bool.and_eq_true] at hsh
  obtain ⟨⟨hno, hts⟩, hkp⟩ := hsh
  have hkeepj : ∀ j : Nat, sh.sr[j]? = some SR.keep → memN j X.fr = true ∧ j < X.nin := by
    intro j hj
    have := idx_all hkp hj
    simp only [Nat.zero_add, Bool.and_eq_true] at this
    exact ⟨this.1, by simpa [Nat.blt_eq] using this.2⟩
  have hkeepR : ∀ i : Nat, sh.sr[i]? = some SR.keep → ∃ r, X.FR[i]? = some r ∧ rs[i]? = some r := by
    intro i hi
    obtain ⟨m1, m2⟩ := hkeepj i hi
    obtain ⟨r, hr⟩ := XO.frE i m1
    exact ⟨r, hr, by rw [hres i m1]; exact hr⟩
  obtain ⟨vals', rin, hin, e1, e2, D, e3⟩ := dec_ok X.FR H hvs hdec b2 hkeepR
  obtain ⟨hnd, _⟩ := dec_checks hdec
  have hbase : ∀ j, j < X.nin → ∃ v, hs j = some v ∧ hin j = some v ∧ ∃ b0, B[j]? = some b0 ∧ sameB b0 (baseB rs sh.sr j) = true := by
    intro j hj
    obtain ⟨o, o1, o2, o3, o4⟩ := b3 j (by omega) (by omega)
    obtain ⟨x1, b0, x2, x3⟩ := e3 o o1
    rw [o2] at x1 x2
    rw [o4] at x3
    exact ⟨o.h, o3, x1, b0, x2, x3⟩
  have hmaps : Maps (below X.nin) rs rin hs hin := by
    intro k k' v hk hv
    obtain ⟨rfl, hlt⟩ := below_spec hk
    obtain ⟨v', y1, y2, b0, y3, y4⟩ := hbase k' hlt
    rw [hv] at y1; cases y1
    refine ⟨y2, fun r' n hr' hn => ?_⟩
    obtain ⟨s, b, z1, z2⟩ := D.shape hr'
    rw [y3] at z2; cases z2
    cases hst : isStay s with
    | true =>
      cases s <;> first | (cases hst; done) | skip
      · obtain ⟨r, q1, q2⟩ := hkeepR k' z1
        have := D.keep k' r' hr' z1
        rw [q1] at this; cases this
        exact ⟨_, q2, hn⟩
      · rw [D.dead k' r' hr' z1] at hn; cases hn
    | false =>
      have Fm := (D.slot k' r' s b0 v hr' z1 y3 y2 hst).1.len n hn
      unfold baseB at y4
      rw [z1] at y4
      have fin : ∀ (bb : Bnd), sameB b0 bb = true → (bb = .mp k' ∨ bb = .pt k' 0 ∨ ∃ m, bb = .sl k' 0 m 0) → ∃ r, rs[k']? = some r ∧ r.len = some n := by
        intro bb hsame hbb
        cases b0 <;> cases bb <;> simp only [sameB] at hsame <;> first | (cases hsame; done) | skip
        · simp at hbb
        · simp only [Bool.and_eq_true] at hsame
          obtain ⟨⟨w1, w2⟩, _⟩ := hsame
          obtain rfl := Nat.eq_of_beq_eq_true w1
          obtain rfl := Nat.eq_of_beq_eq_true w2
          simp at hbb
          obtain ⟨rfl, rfl, rfl⟩ := hbb
          exact Fm rfl
        · simp only [Bool.and_eq_true] at hsame
          obtain ⟨w1, w2⟩ := hsame
          obtain rfl := Nat.eq_of_beq_eq_true w1
          simp at hbb
          obtain ⟨rfl, _⟩ := hbb
          exact Fm
        · exact Fm.elim
      cases s <;> first | (cases hst; done) | skip
      all_goals
        dsimp only at y4
        split at y4
        · rename_i r hr
          split at y4
          · exact fin _ y4 (.inr (.inr ⟨_, rfl⟩))
          · exact fin _ y4 (.inr (.inr ⟨_, rfl⟩))
          · exact fin _ y4 (.inr (.inl rfl))
          · exact fin _ y4 (.inr (.inl rfl))
          · exact fin _ y4 (.inr (.inl rfl))
          · exact fin _ y4 (.inl rfl)
          · exact fin _ y4 (.inl rfl)
        · exact fin _ y4 (.inl rfl)
  have hkept : Kept X.nin rs hs X.FR sh.sr rin hin := by
    refine ⟨fun j hj => ?_, hmaps⟩
    obtain ⟨m1, m2⟩ := hkeepj j hj
    obtain ⟨r, q1, q2⟩ := hkeepR j hj
    obtain ⟨v, y1, y2, _⟩ := hbase j m2
    exact ⟨r, q1, q2, XO.frR j r m1 q1, y2.trans y1.symm, underRs_ok XO.FR q1⟩
  have hH := D.heap H hnd hkept (List.all_eq_true.1 hno)
  simp only [frOK, Bool.and_eq_true] at hfr
  obtain ⟨hfr1, hfr2⟩ := hfr
  refine ⟨vals', rin, hin, e1, e2, hH, ?_, hmaps, ?_, ?_, ?_⟩
  · intro i hi
    obtain ⟨v, y1, y2, _⟩ := hbase i hi
    rw [y2, ← y1]; exact h0 i hi
  · intro j hj
    have := List.all_eq_true.1 hfr1 j (memN_iff.1 hj)
    split at this
    · rename_i hk
      have hlt : j < rin.length := by rw [D.len]; exact (List.getElem?_eq_some_iff.1 hk).1
      have hr : rin[j]? = some rin[j] := by simp [hlt]
      rw [D.keep j _ hr hk]; exact hr
    · cases this
  · rw [D.len]; exact Nat.le_of_ble_eq_true hfr2
  · intro x hx
    simpa using List.all_eq_true.1 hts x hx

/-- a join: the state is one of the shape -/
theorem getS_ok (XO : XOK X hs0) {sh : Sh} {k : List LV → Prop} (h : getS X sh k rs L) (S : St X w0 M hs0 rs L a w) :
    ∃ lv vals rin, k lv ∧ emb X.FR sh.sv sh.sr lv = some (vals, rin) ∧ St X w0 M hs0 rin (zipE sh.ts vals X.F) a w := by
  unfold getS at h
  split at h
  · exact h.elim
  rename_i vals hlooks
  split at h
  · exact h.elim
  rename_i hok
  split at h
  · exact h.elim
  rename_i lv B hdec
  obtain ⟨hs, H, hL, h0⟩ := S.ex
  obtain ⟨hl1, hl2⟩ := looks_ok hlooks
  have hvs : LR (VR2 rs hs) (sh.ts.map fun t => a.tmps.getD t undef) vals := by
    refine ⟨by simp [hl1], fun i v u hv hu => ?_⟩
    rw [List.getElem?_map] at hv
    cases ht : sh.ts[i]? with
    | none => rw [ht] at hv; cases hv
    | some t =>
      rw [ht] at hv
      obtain ⟨c, e1, e2⟩ := hl2 i t ht
      rw [e1] at hu; cases hu
      cases hv
      exact hL t u e2
  obtain ⟨vals', rin, hin, e1, e2, hH, h1, hmaps, h2, h3, h4⟩ := decS_ok XO H h0 S.stay.res hvs hok hdec
  refine ⟨lv, vals', rin, h, e1, ⟨⟨hin, hH, ?_, h1⟩, ⟨fun t ht => ?_, h2, h3⟩, S.size, S.defers⟩⟩
  · intro t c ht
    rcases look_zipE ht with ⟨i, h1, h2⟩ | h1
    · exact e2.2 i _ c (by rw [List.getElem?_map, h1]; rfl) h2
    · have hm : memF t X.F = true := by
        have : ∀ (F : Env), look F t = some c → memF t F = true := by
          intro F
          induction F with
          | nil => intro h; cases h
          | cons p r ih =>
            intro h
            simp only [look] at h
            simp only [memF]
            split
            · rfl
            · rename_i hb; rw [hb] at h; exact ih h
        exact this _ h1
      have h2 := hL t c (by rw [S.stay.env t hm]; exact h1)
      have := h2.ren hmaps
      rwa [XO.F t c h1] at this
  · refine look_zipE_F fun x hx e => ?_
    subst e
    rw [h4 x hx] at ht; cases ht

end
end Go.K
