/- Slots that turn: the laws of one slot. -/
import Derived.Test.YtblejagpndbicaaK6
namespace Go.K
open Go.RowKit

/-- the slot k holds r now -/
def put : List Res → Nat → Res → List Res
  | [], 0, r => [r]
  | [], k + 1, r => .dead :: put [] k r
  | _ :: l, 0, r => r :: l
  | a :: l, k + 1, r => a :: put l k r

theorem put_length : ∀ (l : List Res) (k : Nat) (r : Res), (put l k r).length = max l.length (k + 1)
  | [], 0, r => rfl
  | [], k + 1, r => by simp [put, put_length [] k r]
  | a :: l, 0, r => by simp [put]
  | a :: l, k + 1, r => by simp [put, put_length l k r]
theorem put_same : ∀ (l : List Res) (k : Nat) (r : Res), (put l k r)[k]? = some r
  | [], 0, r => rfl
  | [], k + 1, r => by simp [put, put_same [] k r]
  | a :: l, 0, r => rfl
  | a :: l, k + 1, r => by simp [put, put_same l k r]
theorem put_ne : ∀ (l : List Res) (k : Nat) (r : Res) (i : Nat), i ≠ k → (put l k r)[i]? = l[i]? ∨ ((put l k r)[i]? = some .dead ∧ l.length ≤ i ∧ i < k)
  | [], 0, r, 0, h => absurd rfl h
  | [], 0, r, i + 1, h => .inl rfl
  | [], k + 1, r, 0, h => .inr ⟨rfl, by simp, by omega⟩
  | [], k + 1, r, i + 1, h => by
    rcases put_ne [] k r i (by omega) with h1 | ⟨h1, _, h2⟩
    · left; simpa [put] using h1
    · right; exact ⟨by simpa [put] using h1, by simp, by omega⟩
  | a :: l, 0, r, i, h => by
    left
    cases i with
    | zero => exact absurd rfl h
    | succ i => rfl
  | a :: l, k + 1, r, 0, h => by left; rfl
  | a :: l, k + 1, r, i + 1, h => by
    rcases put_ne l k r i (by omega) with h1 | ⟨h1, h2, h3⟩
    · left; simpa [put] using h1
    · right; exact ⟨by simpa [put] using h1, by simp; omega, by omega⟩
theorem put_lt {l : List Res} {k : Nat} {r : Res} (hk : k < l.length) {i : Nat} (h : i ≠ k) : (put l k r)[i]? = l[i]? := by
  rcases put_ne l k r i h with h1 | ⟨_, h2, h3⟩
  · exact h1
  · omega

/-- the slot k has the handle h now -/
def upd (hs : Hs) (k : Nat) (h : Value) : Hs := fun i => if i = k then some h else hs i
theorem upd_same (hs : Hs) (k : Nat) (h : Value) : upd hs k h k = some h := by simp [upd]
theorem upd_ne (hs : Hs) (k : Nat) (h : Value) {i : Nat} (hi : i ≠ k) : upd hs k h i = hs i := by simp [upd, hi]

/-- the slot that is used up -/
def killO (rs : List Res) : Option Nat → List Res
  | none => rs
  | some k => put rs k .dead

section
variable {w0 w : World} {M : List Nat} {rs : List Res} {hs : Hs}

/-- a slot of its own for what is new; what the slot k owned may pass to it -/
theorem Heap.put1 (H : Heap w0 M rs hs w) {w' : World} {n : Nat} {r : Res} {h : Value} (hn : hs n = none) (src : Option Nat)
    (hsrc : ∀ k, src = some k → k ≠ n ∧ k < rs.length)
    (os : w'.os = w.os) (tape : w'.tape = w.tape) (output : w'.output = w.output) (size : w.heap.size ≤ w'.heap.size)
    (block : ∀ b, b < w.heap.size → (∀ (k : Nat) (q : Res) (g : Value), src = some k → rs[k]? = some q → hs k = some g → q.own g ≠ some b) → w'.heap[b]? = w.heap[b]?)
    (hh : Maps some rs (put (killO rs src) n r) hs (upd hs n h) →
      r.holds (put (killO rs src) n r) (upd hs n h) w' h)
    (own : ∀ b, r.own h = some b → w.heap.size ≤ b ∨ ∃ k q g, src = some k ∧ rs[k]? = some q ∧ hs k = some g ∧ q.own g = some b)
    (reads : ∀ b, r.reads h = some b → b < w0.heap.size ∧ b ∉ M) :
    Heap w0 M (put (killO rs src) n r) (upd hs n h) w' ∧
      Maps some rs (put (killO rs src) n r) hs (upd hs n h) := by
  generalize hrs' : put (killO rs src) n r = rs' at *
  have hlen : rs.length ≤ rs'.length ∧ n < rs'.length := by
    rw [← hrs', put_length]
    cases src with
    | none => simp [killO]; omega
    | some k => simp [killO, put_length]; have := hsrc k rfl; omega
  have hN : rs'[n]? = some r := by rw [← hrs']; exact put_same _ _ _
  have hK : ∀ k, src = some k → rs'[k]? = some .dead := by
    intro k e
    have := hsrc k e
    rw [← hrs', e]
    simp only [killO]
    rw [put_ne _ _ _ _ this.1 |>.resolve_right (by intro h1; have h2 := h1.2.1; rw [put_length] at h2; omega)]
    exact put_same _ _ _
  have hO : ∀ i, i ≠ n → src ≠ some i → i < rs.length → rs'[i]? = rs[i]? := by
    intro i h1 h2 h3
    rw [← hrs']
    cases src with
    | none => simp only [killO]; exact (put_ne _ _ _ _ h1).resolve_right (by omega)
    | some k =>
      simp only [killO]
      have hk := hsrc k rfl
      have hik : i ≠ k := fun e => h2 (by rw [e])
      rw [(put_ne _ _ _ _ h1).resolve_right (by rw [put_length]; omega)]
      exact put_lt hk.2 hik
  have hP : ∀ i, i ≠ n → rs.length ≤ i → ∀ q, rs'[i]? = some q → q = .dead := by
    intro i h1 h2 q hq
    rw [← hrs'] at hq
    rcases put_ne (killO rs src) n r i h1 with h3 | ⟨h3, _⟩
    · rw [h3] at hq
      have := (List.getElem?_eq_some_iff.1 hq).1
      cases src with
      | none => simp only [killO] at this; omega
      | some k => have := hsrc k rfl; simp only [killO, put_length] at *; omega
    · rw [h3] at hq; cases hq; rfl
  have key : ∀ i q g, i = n ∨ src = some i ∨ rs.length ≤ i → rs'[i]? = some q → upd hs n h i = some g → (i = n ∧ q = r ∧ g = h) ∨ q = .dead := by
    intro i q g hc hq hg
    by_cases hi : i = n
    · subst hi; rw [hN] at hq; rw [upd_same] at hg; cases hq; cases hg; exact .inl ⟨rfl, rfl, rfl⟩
    · right
      rcases hc with hc | hc | hc
      · exact absurd hc hi
      · rw [hK i hc] at hq; cases hq; rfl
      · exact hP i hi hc q hq
  have T : Turn w0 M rs hs w (fun i => i = n ∨ src = some i ∨ rs.length ≤ i) rs' (upd hs n h) w' := by
    refine ⟨os, tape, output, size, ?_, ?_, ?_, ?_, ?_, ?_, ?_, ?_, ?_⟩
    · intro k g hk
      have : k ≠ n := by intro e; rw [e, hn] at hk; cases hk
      rw [upd_ne _ _ _ this]; exact hk
    · intro i hi
      simp only [not_or, Nat.not_le] at hi
      exact ⟨hO i hi.1 hi.2.1 hi.2.2, upd_ne _ _ _ hi.1⟩
    · intro i hi
      have : i ≠ n := by omega
      rw [upd_ne _ _ _ this]; exact H.fresh i (by omega)
    · intro b hb hall
      exact block b hb fun k q g e hq hg => hall k q g (.inr (.inl e)) hq hg
    · intro i r' g m hc hg hr' hm
      have : i ≠ n := by intro e; rw [e, hn] at hg; cases hg
      rcases key i r' g hc hr' (by rw [upd_ne _ _ _ this]; exact hg) with ⟨h1, _⟩ | rfl
      · exact absurd h1 this
      · cases hm
    · intro m i r' g hc hr' hg
      rcases key i r' g hc hr' hg with ⟨_, rfl, rfl⟩ | rfl
      · exact hh m
      · trivial
    · intro i r' g b hc hr' hg ho
      rcases key i r' g hc hr' hg with ⟨_, rfl, rfl⟩ | rfl
      · rcases own b ho with h1 | ⟨k, q, f, e, hq, hf, h1⟩
        · exact .inl h1
        · exact .inr ⟨k, q, f, .inr (.inl e), hq, hf, h1⟩
      · cases ho
    · intro i r' g b hc hr' hg ho
      rcases key i r' g hc hr' hg with ⟨_, rfl, rfl⟩ | rfl
      · exact reads b ho
      · cases ho
    · intro i j q p g f b hi hj hq hg hp hf h1 h2
      rcases key i q g hi hq hg with ⟨e1, _⟩ | rfl
      · rcases key j p f hj hp hf with ⟨e2, _⟩ | rfl
        · rw [e1, e2]
        · cases h2
      · cases h1
  exact ⟨H.turn T, T.maps⟩

/-- what the slot k owns is written; its handle and its length stay -/
theorem Heap.mod1 (H : Heap w0 M rs hs w) {w' : World} {k : Nat} {r r' : Res} {h : Value} (hk : rs[k]? = some r) (hh : hs k = some h)
    (os : w'.os = w.os) (tape : w'.tape = w.tape) (output : w'.output = w.output) (size : w.heap.size ≤ w'.heap.size)
    (block : ∀ b, b < w.heap.size → r.own h ≠ some b → w'.heap[b]? = w.heap[b]?)
    (hold : Maps some rs (put rs k r') hs hs → r'.holds (put rs k r') hs w' h) (own : ∀ b, r'.own h = some b → r.own h = some b) (len : ∀ n, r'.len = some n → r.len = some n) (reads : r'.reads h = none) :
    Heap w0 M (put rs k r') hs w' ∧ Maps some rs (put rs k r') hs hs := by
  have hlt : k < rs.length := (List.getElem?_eq_some_iff.1 hk).1
  have T : Turn w0 M rs hs w (fun i => i = k) (put rs k r') hs w' := by
    refine ⟨os, tape, output, size, fun _ _ h => h, ?_, ?_, ?_, ?_, ?_, ?_, ?_, ?_⟩
    · intro i hi; exact ⟨put_lt hlt hi, rfl⟩
    · intro i hi; rw [put_length] at hi; exact H.fresh i (by omega)
    · intro b hb hall; exact block b hb fun ho => hall k r h rfl hk hh ho
    · intro i q g n hi hg hq hn
      subst hi
      rw [put_same] at hq; cases hq
      exact ⟨r, hk, len n hn⟩
    · intro m i q g hi hq hg
      subst hi
      rw [put_same] at hq; cases hq
      rw [hh] at hg; cases hg
      exact hold m
    · intro i q g b hi hq hg ho
      subst hi
      rw [put_same] at hq; cases hq
      rw [hh] at hg; cases hg
      exact .inr ⟨i, r, h, rfl, hk, hh, own b ho⟩
    · intro i q g b hi hq hg ho
      subst hi
      rw [put_same] at hq; cases hq
      rw [hh] at hg; cases hg
      rw [reads] at ho; cases ho
    · intro i j q p g f b hi hj _ _ _ _ _ _; rw [hi, hj]
  exact ⟨H.turn T, T.maps⟩

/-- a new block -/
theorem Fr.alloc (M : List Nat) (w : World) (o : Obj) : Fr M w (w.alloc o) :=
  ⟨rfl, rfl, rfl, by show _ ≤ (w.heap.push o).size; simp, fun k hk _ => by
    show (w.heap.push o)[k]? = _
    simp [Array.getElem?_push, Nat.ne_of_lt hk]⟩
theorem alloc_new (w : World) (o : Obj) : (w.alloc o).heap[w.heap.size]? = some o := by
  show (w.heap.push o)[w.heap.size]? = _
  simp

end
end Go.K
