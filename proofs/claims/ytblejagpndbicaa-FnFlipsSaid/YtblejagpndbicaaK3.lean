/- Laws on symbolic values and heaps. -/
import Derived.Test.YtblejagpndbicaaK2
namespace Go.K
open Go.RowKit

theorem LR.mono {R R' : Value → Value → Prop} {as bs : List Value} (h : LR R as bs) (m : ∀ v u, u ∈ bs → R v u → R' v u) : LR R' as bs :=
  ⟨h.1, fun i v u hv hu => m v u (List.mem_of_getElem? hu) (h.2 i v u hv hu)⟩
theorem LR.get {R : Value → Value → Prop} {as bs : List Value} (h : LR R as bs) {i : Nat} {u : Value} (hu : bs[i]? = some u) : ∃ v, as[i]? = some v ∧ R v u := by
  have hi : i < bs.length := (List.getElem?_eq_some_iff.1 hu).1
  have hi' : i < as.length := by rw [h.1]; exact hi
  exact ⟨as[i], by simp [hi'], h.2 i _ u (by simp [hi']) hu⟩
theorem LR.nil {R : Value → Value → Prop} : LR R [] [] := ⟨rfl, by simp⟩
theorem LR.cons {R : Value → Value → Prop} {a b : Value} {as bs : List Value} (h : R a b) (t : LR R as bs) : LR R (a :: as) (b :: bs) := by
  refine ⟨by simp [t.1], fun i v u hv hu => ?_⟩
  cases i with
  | zero => simp at hv hu; subst hv; subst hu; exact h
  | succ i => simp at hv hu; exact t.2 i v u hv hu
theorem LR.head {R : Value → Value → Prop} {a b : Value} {as bs : List Value} (h : LR R (a :: as) (b :: bs)) : R a b := h.2 0 a b rfl rfl
theorem LR.tail {R : Value → Value → Prop} {a b : Value} {as bs : List Value} (h : LR R (a :: as) (b :: bs)) : LR R as bs :=
  ⟨by simpa using h.1, fun i v u hv hu => h.2 (i + 1) v u (by simpa using hv) (by simpa using hu)⟩
theorem LR.nil_right {R : Value → Value → Prop} {as : List Value} (h : LR R as []) : as = [] := List.eq_nil_of_length_eq_zero (by simpa using h.1)
theorem LR.cons_right {R : Value → Value → Prop} {as bs : List Value} {b : Value} (h : LR R as (b :: bs)) : ∃ a as', as = a :: as' ∧ R a b ∧ LR R as' bs := by
  cases as with
  | nil => have := h.1; simp at this
  | cons a as' => exact ⟨a, as', rfl, h.head, h.tail⟩
theorem LR.append {R : Value → Value → Prop} {as bs cs ds : List Value} (h : LR R as bs) (k : LR R cs ds) : LR R (as ++ cs) (bs ++ ds) := by
  refine ⟨by simp [h.1, k.1], fun i v u hv hu => ?_⟩
  rcases Nat.lt_or_ge i as.length with hi | hi
  · rw [List.getElem?_append_left hi] at hv
    rw [List.getElem?_append_left (by rw [← h.1]; exact hi)] at hu
    exact h.2 i v u hv hu
  · rw [List.getElem?_append_right hi] at hv
    rw [List.getElem?_append_right (by rw [← h.1]; exact hi)] at hu
    rw [← h.1] at hu
    exact k.2 _ v u hv hu
theorem LR.take {R : Value → Value → Prop} {as bs : List Value} (h : LR R as bs) (n : Nat) : LR R (as.take n) (bs.take n) := by
  refine ⟨by simp [h.1], fun i v u hv hu => ?_⟩
  rw [List.getElem?_take] at hv hu
  split at hv
  · rename_i hi; rw [if_pos hi] at hu; exact h.2 i v u hv hu
  · cases hv
theorem LR.drop {R : Value → Value → Prop} {as bs : List Value} (h : LR R as bs) (n : Nat) : LR R (as.drop n) (bs.drop n) := by
  refine ⟨by simp [h.1], fun i v u hv hu => ?_⟩
  rw [List.getElem?_drop] at hv hu
  exact h.2 _ v u hv hu
theorem LR.set {R : Value → Value → Prop} {as bs : List Value} (h : LR R as bs) (n : Nat) {v u : Value} (hr : R v u) : LR R (as.set n v) (bs.set n u) := by
  refine ⟨by simp [h.1], fun i x y hx hy => ?_⟩
  rw [List.getElem?_set] at hx hy
  split at hx
  · rename_i e
    subst e
    simp at hy
    split at hx
    · rename_i hn
      cases hx
      have : n < bs.length := by rw [← h.1]; exact hn
      simp [this] at hy
      subst hy
      exact hr
    · cases hx
  · rename_i e
    rw [if_neg e] at hy
    exact h.2 i x y hx hy
theorem LR.replicate {R : Value → Value → Prop} {v u : Value} (h : R v u) (n : Nat) : LR R (List.replicate n v) (List.replicate n u) := by
  refine ⟨by simp, fun i x y hx hy => ?_⟩
  rw [List.getElem?_replicate] at hx hy
  split at hx <;> simp_all
theorem LR.map {R : Value → Value → Prop} {as : List Value} {f : Value → Value} (h : ∀ v, v ∈ as → R v (f v)) : LR R as (as.map f) := by
  refine ⟨by simp, fun i v u hv hu => ?_⟩
  rw [List.getElem?_map, hv] at hu
  simp at hu
  subst hu
  exact h v (List.mem_of_getElem? hv)
theorem LR.map_left {R : Value → Value → Prop} {as bs : List Value} {f : Value → Value} (h : LR R as bs) (R' : Value → Value → Prop) (m : ∀ v u, R v u → R' v (f u)) : LR R' as (bs.map f) := by
  refine ⟨by simp [h.1], fun i v u hv hu => ?_⟩
  rw [List.getElem?_map] at hu
  cases hb : bs[i]? with
  | none => simp [hb] at hu
  | some b => simp [hb] at hu; subst hu; exact m _ _ (h.2 i v b hv hb)

/-! ### renaming slots -/
def ren0 (μ : Nat → Option Nat) (v : Value) : Value :=
  match v with
  | .pointer a => match a with
    | none => v
    | some p => match μ p.block with
      | some k => .pointer (some { p with block := k })
      | none => .chan none
  | .slice a n c => match a with
    | none => v
    | some p => match μ p.block with
      | some k => .slice (some { p with block := k }) n c
      | none => .chan none
  | .map r => match r with
    | none => v
    | some k => match μ k with
      | some k' => .map (some k')
      | none => .chan none
  | _ => v
def renA (μ : Nat → Option Nat) (v : Value) : Value :=
  match v with
  | .agg cs => .agg (cs.toList.map (ren0 μ)).toArray
  | _ => ren0 μ v
def ren1 (μ : Nat → Option Nat) (v : Value) : Value :=
  match v with
  | .func f a b => .func f (a.toList.map (renA μ)).toArray (b.toList.map (renA μ)).toArray
  | _ => renA μ v
def ren2 (μ : Nat → Option Nat) (v : Value) : Value :=
  match v with
  | .tuple cs => .tuple (cs.toList.map (ren1 μ)).toArray
  | _ => ren1 μ v
def Res.ren (μ : Nat → Option Nat) : Res → Res
  | .box T cs => .box T (cs.map (ren0 μ))
  | .rob cs => .rob (cs.map (ren0 μ))
  | r => r

theorem Res.ren_len (μ : Nat → Option Nat) (r : Res) : (r.ren μ).len = r.len := by cases r <;> rfl
theorem Res.ren_own (μ : Nat → Option Nat) (r : Res) (h : Value) : (r.ren μ).own h = r.own h := by cases r <;> rfl
theorem Res.ren_reads (μ : Nat → Option Nat) (r : Res) (h : Value) : (r.ren μ).reads h = r.reads h := by cases r <;> simp [Res.ren, Res.reads]

/-- the slot k is k' now, with the handle that it had and, if it has one, with the length that it had -/
def Maps (μ : Nat → Option Nat) (rs rs' : List Res) (hs hs' : Hs) : Prop :=
  ∀ (k k' : Nat) (h : Value), μ k = some k' → hs k = some h → hs' k' = some h ∧
    ∀ (r' : Res) (n : Nat), rs'[k']? = some r' → r'.len = some n → ∃ r, rs[k]? = some r ∧ r.len = some n

theorem VR0.ren {μ : Nat → Option Nat} {rs rs' : List Res} {hs hs' : Hs} {v c : Value} (m : Maps μ rs rs' hs hs') (h : VR0 rs hs v c) : VR0 rs' hs' v (ren0 μ c) := by
  cases c with
  | pointer a =>
    cases a with
    | none => exact h
    | some p =>
      obtain ⟨⟨h1, a, h2, h3, h4⟩, h5⟩ := h
      simp only [ren0]
      cases hm : μ p.block with
      | none => trivial
      | some k =>
        obtain ⟨m1, m2⟩ := m _ _ _ hm h2
        refine ⟨⟨h1, a, m1, h3, h4⟩, fun r n hr hn => ?_⟩
        obtain ⟨r0, hr0, hn0⟩ := m2 r n hr hn
        exact h5 r0 n hr0 hn0
  | slice a n q =>
    cases a with
    | none => exact h
    | some p =>
      simp only [ren0]
      cases hm : μ p.block with
      | none => trivial
      | some k =>
        cases q with
        | zero =>
          obtain ⟨h1, h2, h3⟩ := h
          obtain ⟨m1, m2⟩ := m _ _ _ hm h1
          refine ⟨m1, h2, fun r q hr hq => ?_⟩
          obtain ⟨r0, hr0, hq0⟩ := m2 r q hr hq
          exact h3 r0 q hr0 hq0
        | succ q =>
          obtain ⟨oa, cap, h1, h1', h2⟩ := h
          refine ⟨oa, cap, h1, h1', h2.imp id ?_⟩
          rintro ⟨h, a, h3, h4, h5, h6⟩
          obtain ⟨m1, m2⟩ := m _ _ _ hm h3
          refine ⟨h, a, m1, h4, h5, fun r x hr hx => ?_⟩
          obtain ⟨r0, hr0, hx0⟩ := m2 r x hr hx
          exact h6 r0 x hr0 hx0
  | map r =>
    cases r with
    | none => exact h
    | some k =>
      simp only [ren0]
      cases hm : μ k with
      | none => trivial
      | some k' => exact (m _ _ _ hm h).1
  | _ => exact h

theorem LR.ren {μ : Nat → Option Nat} {rs rs' : List Res} {hs hs' : Hs} {as bs : List Value} (m : Maps μ rs rs' hs hs') (h : LR (VR0 rs hs) as bs) :
    LR (VR0 rs' hs') as (bs.map (ren0 μ)) := h.map_left _ fun _ _ => VR0.ren m

theorem VRa.of0 {rs : List Res} {hs : Hs} {v c : Value} (h : VR0 rs hs v c) : VRa rs hs v c := by
  cases c with
  | agg cs => exact (h : False).elim
  | _ => exact h
theorem VR1.ofa {rs : List Res} {hs : Hs} {v c : Value} (h : VRa rs hs v c) : VR1 rs hs v c := by
  cases c with
  | func f a b => exact (h : False).elim
  | _ => exact h
theorem VR1.two {rs : List Res} {hs : Hs} {v c : Value} (h : VR1 rs hs v c) : VR2 rs hs v c := by
  cases c with
  | tuple cs => exact (h : False).elim
  | _ => exact h
theorem VR0.one {rs : List Res} {hs : Hs} {v c : Value} (h : VR0 rs hs v c) : VR1 rs hs v c := VR1.ofa (VRa.of0 h)
theorem VR0.two {rs : List Res} {hs : Hs} {v c : Value} (h : VR0 rs hs v c) : VR2 rs hs v c := h.one.two

theorem VRa.parts {rs : List Res} {hs : Hs} {v c : Value} (h : VRa rs hs v c) : (∃ cs ds, c = .agg cs ∧ v = .agg ds ∧ LR (VR0 rs hs) ds.toList cs.toList) ∨ ((∀ cs, c ≠ .agg cs) ∧ VR0 rs hs v c) := by
  cases c with
  | agg cs => obtain ⟨ds, e, h⟩ := h; exact .inl ⟨cs, ds, rfl, e, h⟩
  | _ => exact .inr ⟨by simp, h⟩
theorem VR1.parts {rs : List Res} {hs : Hs} {v c : Value} (h : VR1 rs hs v c) :
    (∃ f cf cc fs ds, c = .func f cf cc ∧ v = .func f fs ds ∧ LR (VRa rs hs) fs.toList cf.toList ∧ LR (VRa rs hs) ds.toList cc.toList) ∨ ((∀ f a b, c ≠ .func f a b) ∧ VRa rs hs v c) := by
  cases c with
  | func f a b => obtain ⟨fs, ds, e, h1, h2⟩ := h; exact .inl ⟨f, a, b, fs, ds, rfl, e, h1, h2⟩
  | _ => exact .inr ⟨by simp, h⟩
theorem VR2.parts {rs : List Res} {hs : Hs} {v c : Value} (h : VR2 rs hs v c) : (∃ cs ds, c = .tuple cs ∧ v = .tuple ds ∧ LR (VR1 rs hs) ds.toList cs.toList) ∨ ((∀ cs, c ≠ .tuple cs) ∧ VR1 rs hs v c) := by
  cases c with
  | tuple cs => obtain ⟨ds, e, h⟩ := h; exact .inl ⟨cs, ds, rfl, e, h⟩
  | _ => exact .inr ⟨by simp, h⟩
theorem renA_ne {μ : Nat → Option Nat} {c : Value} (h : ∀ cs, c ≠ .agg cs) : renA μ c = ren0 μ c := by
  cases c <;> first | rfl | exact absurd rfl (h _)
theorem ren1_ne {μ : Nat → Option Nat} {c : Value} (h : ∀ f a b, c ≠ .func f a b) : ren1 μ c = renA μ c := by
  cases c <;> first | rfl | exact absurd rfl (h _ _ _)
theorem ren2_ne {μ : Nat → Option Nat} {c : Value} (h : ∀ cs, c ≠ .tuple cs) : ren2 μ c = ren1 μ c := by
  cases c <;> first | rfl | exact absurd rfl (h _)

theorem VRa.ren {μ : Nat → Option Nat} {rs rs' : List Res} {hs hs' : Hs} {v c : Value} (m : Maps μ rs rs' hs hs') (h : VRa rs hs v c) : VRa rs' hs' v (renA μ c) := by
  rcases h.parts with ⟨cs, ds, rfl, e, h⟩ | ⟨hn, h⟩
  · exact ⟨ds, e, by simpa using h.ren m⟩
  · rw [renA_ne hn]; exact VRa.of0 (h.ren m)
theorem VR1.ren {μ : Nat → Option Nat} {rs rs' : List Res} {hs hs' : Hs} {v c : Value} (m : Maps μ rs rs' hs hs') (h : VR1 rs hs v c) : VR1 rs' hs' v (ren1 μ c) := by
  rcases h.parts with ⟨f, a, b, fs, ds, rfl, e, h1, h2⟩ | ⟨hn, h⟩
  · exact ⟨fs, ds, e, by simpa using h1.map_left (VRa rs' hs') fun _ _ => VRa.ren m, by simpa using h2.map_left (VRa rs' hs') fun _ _ => VRa.ren m⟩
  · rw [ren1_ne hn]; exact VR1.ofa (h.ren m)
theorem VR2.ren {μ : Nat → Option Nat} {rs rs' : List Res} {hs hs' : Hs} {v c : Value} (m : Maps μ rs rs' hs hs') (h : VR2 rs hs v c) : VR2 rs' hs' v (ren2 μ c) := by
  rcases h.parts with ⟨cs, ds, rfl, e, h⟩ | ⟨hn, h⟩
  · exact ⟨ds, e, by simpa using h.map_left (VR1 rs' hs') fun _ _ => VR1.ren m⟩
  · rw [ren2_ne hn]; exact VR1.two (h.ren m)

theorem ren0_id (v : Value) : ren0 some v = v := by
  cases v with
  | pointer a => cases a <;> rfl
  | slice a n q => cases a <;> rfl
  | map r => cases r <;> rfl
  | _ => rfl
theorem map_ren0_id (l : List Value) : l.map (ren0 some) = l := by
  have : ren0 some = id := funext ren0_id
  rw [this, List.map_id]
theorem renA_id (v : Value) : renA some v = v := by
  cases v <;> simp [renA, map_ren0_id, ren0_id]
theorem map_renA_id (l : List Value) : l.map (renA some) = l := by
  have : renA some = id := funext renA_id
  rw [this, List.map_id]
theorem ren1_id (v : Value) : ren1 some v = v := by
  cases v <;> simp [ren1, map_renA_id, renA_id]
theorem ren2_id (v : Value) : ren2 some v = v := by
  have : ren1 some = id := funext ren1_id
  cases v <;> simp [ren2, this]

theorem VR0.grow {rs rs' : List Res} {hs hs' : Hs} {v c : Value} (m : Maps some rs rs' hs hs') (h : VR0 rs hs v c) : VR0 rs' hs' v c := by
  have := h.ren m; rwa [ren0_id] at this
theorem VRa.grow {rs rs' : List Res} {hs hs' : Hs} {v c : Value} (m : Maps some rs rs' hs hs') (h : VRa rs hs v c) : VRa rs' hs' v c := by
  have := h.ren m; rwa [renA_id] at this
theorem VR1.grow {rs rs' : List Res} {hs hs' : Hs} {v c : Value} (m : Maps some rs rs' hs hs') (h : VR1 rs hs v c) : VR1 rs' hs' v c := by
  have := h.ren m; rwa [ren1_id] at this
theorem VR2.grow {rs rs' : List Res} {hs hs' : Hs} {v c : Value} (m : Maps some rs rs' hs hs') (h : VR2 rs hs v c) : VR2 rs' hs' v c := by
  have := h.ren m; rwa [ren2_id] at this

/-- what names no slot holds of whatever slots -/
theorem VR0.nil {rs' : List Res} {hs' : Hs} {v c : Value} (h : VR0 [] (fun _ => none) v c) : VR0 rs' hs' v c :=
  h.grow (fun _ _ _ _ hk => by cases hk)

/-! ### heaps -/
section
variable {w0 w : World} {M : List Nat} {rs : List Res} {hs : Hs}

theorem cell_block {w w' : World} {a : Addr} (h : w'.heap[a.block]? = w.heap[a.block]?) : w'.cell? a = w.cell? a := World.cell?_of_block h

theorem Res.holds_world {w' : World} {r : Res} {h : Value} (hr : r.holds rs hs w h)
    (ho : ∀ b, r.own h = some b → w'.heap[b]? = w.heap[b]?) (hd : ∀ b, r.reads h = some b → w'.heap[b]? = w.heap[b]?) : r.holds rs hs w' h := by
  cases r with
  | box T cs =>
    obtain ⟨b, ds, e, h1, h2⟩ := hr
    subst e
    exact ⟨b, ds, rfl, by rw [ho b rfl]; exact h1, h2⟩
  | arr T l =>
    obtain ⟨b, ds, e, h1, h2⟩ := hr
    subst e
    exact ⟨b, ds, rfl, by rw [ho b rfl]; exact h1, h2⟩
  | row E l =>
    obtain ⟨g, cap, e, h1⟩ := hr
    refine ⟨g, cap, e, h1.imp id ?_⟩
    rintro ⟨b, ds, e2, h2, h3, h4⟩
    subst e2; subst e
    exact ⟨b, ds, rfl, h2, by rw [ho b (by simp [Res.own]; omega)]; exact h3, h4⟩
  | ro l =>
    obtain ⟨g, cap, e, h1', h1⟩ := hr
    refine ⟨g, cap, e, h1', ?_⟩
    by_cases hz : l.length = 0
    · exact .inl hz
    · rcases h1 with h1 | ⟨a, e2, h2⟩
      · exact absurd h1 hz
      · subst e2; subst e
        refine .inr ⟨a, rfl, fun j u hu => ?_⟩
        obtain ⟨v, hv, hvu⟩ := h2 j u hu
        refine ⟨v, ?_, hvu⟩
        have : (a.add j).block = a.block := by unfold Addr.add; split <;> rfl
        rw [cell_block (w := w) (by rw [this]; exact hd _ (by simp [Res.reads, hz, baseOf]))]
        exact hv
  | rob cs =>
    obtain ⟨a, e, h1⟩ := hr
    subst e
    refine ⟨a, rfl, fun j u hu => ?_⟩
    obtain ⟨v, hv, hvu⟩ := h1 j u hu
    refine ⟨v, ?_, hvu⟩
    have : (a.add j).block = a.block := by unfold Addr.add; split <;> rfl
    have hne : cs.length ≠ 0 := by
      intro h0
      have := (List.getElem?_eq_some_iff.1 hu).1
      omega
    rw [cell_block (w := w) (by rw [this]; exact hd _ (by simp [Res.reads, hne, baseOf]))]
    exact hv
  | snap l => exact hr
  | dead => trivial

theorem Res.holds_ren {μ : Nat → Option Nat} {rs' : List Res} {hs' : Hs} {r : Res} {h : Value} (m : Maps μ rs rs' hs hs') (hr : r.holds rs hs w h) :
    (r.ren μ).holds rs' hs' w h := by
  cases r with
  | box T cs =>
    obtain ⟨b, ds, e, h1, h2⟩ := hr
    exact ⟨b, ds, e, h1, h2.ren m⟩
  | rob cs =>
    obtain ⟨a, e, h1⟩ := hr
    refine ⟨a, e, fun j u hu => ?_⟩
    rw [List.getElem?_map] at hu
    cases hc : cs[j]? with
    | none => simp [hc] at hu
    | some c =>
      simp [hc] at hu
      subst hu
      obtain ⟨v, hv, hvu⟩ := h1 j c hc
      exact ⟨v, hv, hvu.ren m⟩
  | _ => exact hr

theorem Res.ren_id (r : Res) : r.ren some = r := by cases r <;> simp [Res.ren, map_ren0_id]

theorem Res.holds_grow {rs' : List Res} {hs' : Hs} {r : Res} {h : Value} (m : Maps some rs rs' hs hs') (hr : r.holds rs hs w h) :
    r.holds rs' hs' w h := by
  have := Res.holds_ren m hr; rwa [Res.ren_id] at this

theorem Res.own_lt {r : Res} {h : Value} {b : Nat} (hr : r.holds rs hs w h) (ho : r.own h = some b) : b < w.heap.size := by
  cases r with
  | box T cs =>
    obtain ⟨b', ds, e, h1, h2⟩ := hr
    subst e
    simp [Res.own, baseOf] at ho
    subst ho
    exact (Array.getElem?_eq_some_iff.1 h1).1
  | arr T l =>
    obtain ⟨b', ds, e, h1, h2⟩ := hr
    subst e
    simp [Res.own, baseOf] at ho
    subst ho
    exact (Array.getElem?_eq_some_iff.1 h1).1
  | row E l =>
    obtain ⟨g, cap, e, h1⟩ := hr
    rcases h1 with ⟨h1, _⟩ | ⟨b', ds, e2, h2, h3, _⟩
    · subst e; subst h1
      cases g <;> simp [Res.own] at ho
    · subst e; subst e2
      simp [Res.own] at ho
      rw [← ho.2]
      exact (Array.getElem?_eq_some_iff.1 h3).1
  | _ => simp [Res.own] at ho

theorem Heap.drewN (H : Heap w0 M rs hs w) (n : Nat) : Heap w0 M rs hs (w.drewN n) where
  holds i r h hr hh := Res.holds_world (H.holds i r h hr hh) (fun _ _ => rfl) (fun _ _ => rfl)
  sep := H.sep
  new := H.new
  old := H.old
  fresh := H.fresh
  free := H.free
  frame := H.frame.drewN n

theorem Heap.size (H : Heap w0 M rs hs w) : w0.heap.size ≤ w.heap.size := H.frame.size
theorem Heap.lt (H : Heap w0 M rs hs w) {i : Nat} {h : Value} (hi : hs i = some h) : i < rs.length := by
  rcases Nat.lt_or_ge i rs.length with h1 | h1
  · exact h1
  · rw [H.fresh i h1] at hi; cases hi

/-- a step: the slots of ch turn -/
structure Turn (w0 : World) (M : List Nat) (rs : List Res) (hs : Hs) (w : World) (ch : Nat → Prop) (rs' : List Res) (hs' : Hs) (w' : World) : Prop where
  os : w'.os = w.os
  tape : w'.tape = w.tape
  output : w'.output = w.output
  size : w.heap.size ≤ w'.heap.size
  mono : ∀ k h, hs k = some h → hs' k = some h
  same : ∀ i, ¬ ch i → rs'[i]? = rs[i]? ∧ hs' i = hs i
  fresh : ∀ i, rs'.length ≤ i → hs' i = none
  block : ∀ b, b < w.heap.size → (∀ (i : Nat) (r : Res) (h : Value), ch i → rs[i]? = some r → hs i = some h → r.own h ≠ some b) → w'.heap[b]? = w.heap[b]?
  len : ∀ (i : Nat) (r' : Res) (h : Value) (n : Nat), ch i → hs i = some h → rs'[i]? = some r' → r'.len = some n → ∃ r, rs[i]? = some r ∧ r.len = some n
  holds : Maps some rs rs' hs hs' → ∀ (i : Nat) (r' : Res) (h : Value), ch i → rs'[i]? = some r' → hs' i = some h → r'.holds rs' hs' w' h
  own : ∀ (i : Nat) (r' : Res) (h : Value) (b : Nat), ch i → rs'[i]? = some r' → hs' i = some h → r'.own h = some b →
    w.heap.size ≤ b ∨ ∃ j q g, ch j ∧ rs[j]? = some q ∧ hs j = some g ∧ q.own g = some b
  reads : ∀ (i : Nat) (r' : Res) (h : Value) (b : Nat), ch i → rs'[i]? = some r' → hs' i = some h → r'.reads h = some b → b < w0.heap.size ∧ b ∉ M
  sep : ∀ (i j : Nat) (r q : Res) (h g : Value) (b : Nat), ch i → ch j → rs'[i]? = some r → hs' i = some h → rs'[j]? = some q → hs' j = some g → r.own h = some b → q.own g = some b → i = j

theorem Turn.maps {w' : World} {ch : Nat → Prop} {rs' : List Res} {hs' : Hs} (T : Turn w0 M rs hs w ch rs' hs' w') : Maps some rs rs' hs hs' := by
  intro k k' h e hk
  cases e
  refine ⟨T.mono k h hk, fun r' n hr hn => ?_⟩
  by_cases hc : ch k
  · exact T.len k r' h n hc hk hr hn
  · rw [(T.same k hc).1] at hr; exact ⟨r', hr, hn⟩

theorem Heap.turn (H : Heap w0 M rs hs w) {w' : World} {ch : Nat → Prop} {rs' : List Res} {hs' : Hs} (T : Turn w0 M rs hs w ch rs' hs' w') : Heap w0 M rs' hs' w' := by
  have m := T.maps
  have keep : ∀ (i : Nat) (r : Res) (h : Value), ¬ ch i → rs[i]? = some r → hs i = some h → r.holds rs' hs' w' h := by
    intro i r h hc hr hh
    have h1 := H.holds i r h hr hh
    refine Res.holds_grow m (Res.holds_world h1 (fun b hb => T.block b (Res.own_lt h1 hb) ?_) (fun b hb => ?_))
    · intro j q g hj hq hg ho
      exact hc (H.sep i j r q h g b hr hh hq hg hb ho ▸ hj)
    · have ho := H.old i r h b hr hh hb
      refine T.block b (Nat.lt_of_lt_of_le ho.1 H.size) fun j q g hj hq hg hown => ?_
      rcases H.new j q g b hq hg hown with h2 | h2
      · omega
      · exact ho.2 h2
  have ownNew : ∀ (i : Nat) (r' : Res) (h : Value) (b : Nat), ch i → rs'[i]? = some r' → hs' i = some h → r'.own h = some b → ∀ (j : Nat) (q : Res) (g : Value), ¬ ch j → rs[j]? = some q → hs j = some g → q.own g ≠ some b := by
    intro i r' h b hc hr hh ho j q g hj hq hg ho'
    rcases T.own i r' h b hc hr hh ho with h1 | ⟨k, p, f, hk, hp, hf, h1⟩
    · have := Res.own_lt (H.holds j q g hq hg) ho'; omega
    · exact hj (H.sep k j p q f g b hp hf hq hg h1 ho' ▸ hk)
  refine ⟨?_, ?_, ?_, ?_, T.fresh, H.free, ?_⟩
  · intro i r h hr hh
    by_cases hc : ch i
    · exact T.holds m i r h hc hr hh
    · obtain ⟨e1, e2⟩ := T.same i hc
      exact keep i r h hc (by rw [← e1]; exact hr) (by rw [← e2]; exact hh)
  · intro i j r q h g b hr hh hq hg h1 h2
    by_cases hi : ch i <;> by_cases hj : ch j
    · exact T.sep i j r q h g b hi hj hr hh hq hg h1 h2
    · obtain ⟨e1, e2⟩ := T.same j hj
      exact absurd h2 (ownNew i r h b hi hr hh h1 j q g hj (by rw [← e1]; exact hq) (by rw [← e2]; exact hg))
    · obtain ⟨e1, e2⟩ := T.same i hi
      exact absurd h1 (ownNew j q g b hj hq hg h2 i r h hi (by rw [← e1]; exact hr) (by rw [← e2]; exact hh))
    · obtain ⟨e1, e2⟩ := T.same i hi
      obtain ⟨e3, e4⟩ := T.same j hj
      exact H.sep i j r q h g b (by rw [← e1]; exact hr) (by rw [← e2]; exact hh) (by rw [← e3]; exact hq) (by rw [← e4]; exact hg) h1 h2
  · intro i r h b hr hh ho
    by_cases hc : ch i
    · rcases T.own i r h b hc hr hh ho with h1 | ⟨j, q, g, _, hq, hg, h1⟩
      · exact .inl (Nat.le_trans H.size h1)
      · exact H.new j q g b hq hg h1
    · obtain ⟨e1, e2⟩ := T.same i hc
      exact H.new i r h b (by rw [← e1]; exact hr) (by rw [← e2]; exact hh) ho
  · intro i r h b hr hh ho
    by_cases hc : ch i
    · exact T.reads i r h b hc hr hh ho
    · obtain ⟨e1, e2⟩ := T.same i hc
      exact H.old i r h b (by rw [← e1]; exact hr) (by rw [← e2]; exact hh) ho
  · refine ⟨T.os.trans H.frame.os, T.tape.trans H.frame.tape, T.output.trans H.frame.output, Nat.le_trans H.size T.size, fun k hk hM => ?_⟩
    refine (T.block k (Nat.lt_of_lt_of_le hk H.size) fun j q g hj hq hg hown => ?_).trans (H.frame.block k hk hM)
    rcases H.new j q g k hq hg hown with h2 | h2
    · omega
    · exact hM h2

end

end Go.K
