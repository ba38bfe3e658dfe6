/- A region that draws the order of its operations: whatever the order, it comes to the same. -/
import Derived.Test.YtblejagpndbicaaK11
set_option linter.unusedSimpArgs false
set_option linter.unusedVariables false
namespace Go.K
open Go.RowKit

theorem put_comm : ∀ (l : List Res) (k m : Nat) (a b : Res), k ≠ m → put (put l k a) m b = put (put l m b) k a
  | [], 0, 0, _, _, h => absurd rfl h
  | [], 0, m + 1, a, b, _ => rfl
  | [], k + 1, 0, a, b, _ => rfl
  | [], k + 1, m + 1, a, b, h => by simp [put, put_comm [] k m a b (by omega)]
  | x :: l, 0, 0, _, _, h => absurd rfl h
  | x :: l, 0, m + 1, a, b, _ => rfl
  | x :: l, k + 1, 0, a, b, _ => rfl
  | x :: l, k + 1, m + 1, a, b, h => by simp [put, put_comm l k m a b (by omega)]
theorem puts_put_comm : ∀ (ws : List (Nat × Res)) (l : List Res) (k : Nat) (a : Res), (∀ p, p ∈ ws → p.1 ≠ k) → puts (put l k a) ws = put (puts l ws) k a
  | [], _, _, _, _ => rfl
  | (j, r) :: t, l, k, a, h => by
    simp only [puts]
    rw [put_comm l k j a r (fun e => h (j, r) (by simp) e.symm)]
    exact puts_put_comm t _ k a fun p hp => h p (by simp [hp])
theorem puts_comm : ∀ (u ws : List (Nat × Res)) (l : List Res), (∀ p, p ∈ ws → ∀ q, q ∈ u → p.1 ≠ q.1) → puts (puts l u) ws = puts (puts l ws) u
  | [], _, _, _ => rfl
  | (j, r) :: t, ws, l, h => by
    simp only [puts]
    rw [puts_comm t ws (put l j r) fun p hp q hq => h p hp q (by simp [hq])]
    rw [puts_put_comm ws l j r fun p hp => h p hp (j, r) (by simp)]

theorem Same.put {rs rs' : List Res} {k j : Nat} {r : Res} (h : Same rs rs' k) : Same (Go.K.put rs j r) (Go.K.put rs' j r) k := by
  by_cases e : k = j
  · subst e; exact .inl (by rw [put_same, put_same])
  · have aux : ∀ l : List Res, Same (Go.K.put l j r) l k := by
      intro l
      rcases put_ne l j r k e with h1 | ⟨h1, h2, _⟩
      · exact .inl h1
      · exact .inr ⟨by rw [h1]; rfl, by rw [List.getElem?_eq_none h2]; rfl⟩
    exact (aux rs).trans (h.trans (aux rs').symm)
theorem Same.puts : ∀ {ws : List (Nat × Res)} {rs rs' : List Res} {k : Nat}, Same rs rs' k → Same (Go.K.puts rs ws) (Go.K.puts rs' ws) k
  | [], _, _, _, h => h
  | (j, r) :: t, _, _, _, h => Same.puts (ws := t) h.put
theorem Same.puts_off : ∀ {ws : List (Nat × Res)} {rs : List Res} {k : Nat}, (∀ p, p ∈ ws → p.1 ≠ k) → Same (Go.K.puts rs ws) rs k
  | [], rs, k, _ => .inl rfl
  | (j, r) :: t, rs, k, h => by
    have h1 : Same (Go.K.put rs j r) rs k := by
      rcases put_ne rs j r k (fun e => h (j, r) (by simp) e.symm) with h1 | ⟨h1, h2, _⟩
      · exact .inl h1
      · exact .inr ⟨by rw [h1]; rfl, by rw [List.getElem?_eq_none h2]; rfl⟩
    exact (Same.puts_off (ws := t) fun p hp => h p (by simp [hp])).trans h1

/-- what the operations come to -/
def rsOf : List Rec → List Res → List Res
  | [], rs => rs
  | r :: t, rs => rsOf t (puts rs r.ws)
def LOf : List Rec → Env → Env
  | [], L => L
  | r :: t, L => LOf t (bindD r.dst r.val L)
theorem rsOf_append : ∀ (A B : List Rec) (rs : List Res), rsOf (A ++ B) rs = rsOf B (rsOf A rs)
  | [], _, _ => rfl
  | r :: t, B, rs => rsOf_append t B _
theorem LOf_append : ∀ (A B : List Rec) (L : Env), LOf (A ++ B) L = LOf B (LOf A L)
  | [], _, _ => rfl
  | r :: t, B, L => LOf_append t B _

/-- slot k: those that are left out do not turn it -/
theorem rsOf_filter {S : Rec → Bool} {k : Nat} : ∀ {A : List Rec} {rs rs' : List Res}, Same rs rs' k → (∀ q, q ∈ A → S q = false → ∀ p, p ∈ q.ws → p.1 ≠ k) → Same (rsOf (A.filter S) rs) (rsOf A rs') k
  | [], _, _, h, _ => h
  | q :: t, rs, rs', h, hA => by
    simp only [List.filter_cons]
    cases hq : S q
    · refine (rsOf_filter (A := t) (h.trans (Same.puts_off (hA q (by simp) hq)).symm) fun q' h' => hA q' (by simp [h']))
    · exact rsOf_filter (A := t) h.puts fun q' h' => hA q' (by simp [h'])
theorem rsOf_off {k : Nat} : ∀ {A : List Rec} {rs : List Res}, (∀ q, q ∈ A → ∀ p, p ∈ q.ws → p.1 ≠ k) → Same (rsOf A rs) rs k
  | [], rs, _ => .inl rfl
  | q :: t, rs, h => (rsOf_off (A := t) fun q' h' => h q' (by simp [h'])).trans (Same.puts_off (h q (by simp)))
theorem LOf_filter {S : Rec → Bool} {k : Nat} : ∀ {A : List Rec} {L L' : Env}, look L k = look L' k → (∀ q, q ∈ A → S q = false → q.dst ≠ some k) → look (LOf (A.filter S) L) k = look (LOf A L') k
  | [], _, _, h, _ => h
  | q :: t, L, L', h, hA => by
    simp only [List.filter_cons]
    cases hq : S q
    · refine LOf_filter (A := t) ?_ fun q' h' => hA q' (by simp [h'])
      rw [look_bindD, if_neg (hA q (by simp) hq)]; exact h
    · refine LOf_filter (A := t) ?_ fun q' h' => hA q' (by simp [h'])
      rw [look_bindD, look_bindD, h]
theorem LOf_off {k : Nat} : ∀ {A : List Rec} {L : Env}, (∀ q, q ∈ A → q.dst ≠ some k) → look (LOf A L) k = look L k
  | [], L, _ => rfl
  | q :: t, L, h => by
    simp only [LOf]
    rw [LOf_off (A := t) fun q' h' => h q' (by simp [h']), look_bindD, if_neg (h q (by simp))]
/-- an operation that was carried out later turns what it turns anyhow -/
theorem rsOf_late : ∀ {A : List Rec} {rs : List Res} {ws : List (Nat × Res)}, (∀ q, q ∈ A → ∀ p, p ∈ q.ws → ∀ p', p' ∈ ws → p.1 ≠ p'.1) → rsOf A (puts rs ws) = puts (rsOf A rs) ws
  | [], _, _, _ => rfl
  | q :: t, rs, ws, h => by
    simp only [rsOf]
    rw [puts_comm ws q.ws rs fun p hp p' hp' => h q (by simp) p hp p' hp']
    exact rsOf_late (A := t) fun q' h' => h q' (by simp [h'])
theorem LOf_late {k : Nat} {dst : Option Nat} {v : Value} : ∀ {A : List Rec} {L : Env}, (∀ q, q ∈ A → ∀ d, dst = some d → q.dst ≠ some d) → look (LOf A (bindD dst v L)) k = look (bindD dst v (LOf A L)) k := by
  intro A L h
  rw [look_bindD]
  by_cases e : dst = some k
  · rw [if_pos e, LOf_off fun q hq => h q hq k e, look_bindD, if_pos e]
  · rw [if_neg e]
    have aux : ∀ (A : List Rec) (L L' : Env), look L k = look L' k → look (LOf A L) k = look (LOf A L') k := by
      intro A
      induction A with
      | nil => exact fun _ _ h => h
      | cons q t ih => intro L L' h; exact ih _ _ (by rw [look_bindD, look_bindD, h])
    exact aux A _ _ (by rw [look_bindD, if_neg e])

theorem noConf_spec {d d' : Option Nat} {u t w u' t' w' : List Nat} (h : noConf d u t w d' u' t' w' = true) :
    (∀ k, d = some k → k ∉ u') ∧ (∀ k, d' = some k → k ∉ u) ∧ (∀ k, d = some k → d' ≠ some k) ∧ (∀ k, k ∈ w → k ∉ t') ∧ (∀ k, k ∈ w' → k ∉ t) ∧ (∀ k, k ∈ w → k ∉ w') := by
  simp only [noConf, Bool.and_eq_true] at h
  obtain ⟨⟨⟨⟨⟨h1, h2⟩, h3⟩, h4⟩, h5⟩, h6⟩ := h
  refine ⟨fun k e hk => ?_, fun k e hk => ?_, fun k e e' => ?_, fun k hk hk' => disj_spec h4 k hk hk', fun k hk hk' => disj_spec h5 k hk hk', fun k hk hk' => disj_spec h6 k hk hk'⟩
  · subst e; exact disj_spec h1 k (by simp [optN]) hk
  · subst e; exact disj_spec h2 k (by simp [optN]) hk
  · subst e; subst e'; exact disj_spec h3 k (by simp [optN]) (by simp [optN])

/-- of two operations, the former in the walk's order: they do not meddle, or the one comes first in every order -/
def Pair (an : List Nat) (q r : Rec) : Prop :=
  (((∀ k, q.dst = some k → k ∉ r.uses) ∧ (∀ k, r.dst = some k → k ∉ q.uses) ∧ (∀ k, q.dst = some k → r.dst ≠ some k) ∧
    (∀ p, p ∈ q.ws → p.1 ∉ r.tch) ∧ (∀ p, p ∈ r.ws → p.1 ∉ q.tch) ∧ (∀ p, p ∈ q.ws → ∀ p', p' ∈ r.ws → p.1 ≠ p'.1)) ∨ ancB an r.i q.i = true) ∧ (∀ n, q.nw = some n → r.nw ≠ some n)

theorem okPair_spec {an : List Nat} {q r : Rec} (h : okPair an q r = true) : Pair an q r := by
  simp only [okPair, Bool.and_eq_true, Bool.or_eq_true] at h
  obtain ⟨h1, h2⟩ := h
  refine ⟨h1.imp (fun h => ?_) id, fun n e e' => disj_spec h2 n (by rw [e]; simp [optN]) (by rw [e']; simp [optN])⟩
  obtain ⟨a, b, c, d, e, f⟩ := noConf_spec h
  exact ⟨a, b, c, fun p hp => d p.1 (List.mem_map_of_mem hp), fun p hp => e p.1 (List.mem_map_of_mem hp), fun p hp p' hp' e' => f p.1 (List.mem_map_of_mem hp) (by rw [e']; exact List.mem_map_of_mem hp')⟩

/-- the record says what the operation comes to -/
def Valid (X : VX) (ops : List Oper) (r : Rec) (rs : List Res) (L : Env) : Prop :=
  dstOK X r.dst = true ∧ wsOK X r.ws = true ∧ (r.call = false → ∃ o, ops[r.i]? = some o ∧ r.dst = o.dst ∧ r.uses = usesT ops o ∧
    ((guardIs ops L o = some false ∧ r.val = .tuple #[] ∧ r.ws = [] ∧ r.nw = none) ∨
     (guardIs ops L o = some true ∧ r.tch = touch (opnd L) o.op ∧
      ((∃ ob, qop X.P X.exts rs (opnd L) o.op = some (ob, r.val) ∧ holdsOb ob ∧ r.ws = [] ∧ r.nw = none) ∨
       (qop X.P X.exts rs (opnd L) o.op = none ∧ ∃ ob, eop X.P rs (opnd L) rs.length o.op = some (ob, r.val, r.ws) ∧ holdsOb ob ∧ r.nw = newN o.op rs.length)))))

/-- what is known of the walk -/
structure GI (X : VX) (ops : List Oper) (an : List Nat) (rs0 : List Res) (L0 : Env) (K : List Res → Env → Prop) (R : List Rec) (rest : List Nat) : Prop where
  all : ∀ i, i < ops.length → i ∈ R.map (·.i) ∨ i ∈ rest
  nd : (R.map (·.i) ++ rest).Nodup
  valid : ∀ pre r post, R = pre ++ r :: post → Valid X ops r (rsOf pre rs0) (LOf pre L0) ∧ ∀ q, q ∈ pre → Pair an q r
  pend : vcO X ops an rest R (rsOf R rs0) (LOf R L0) K
  lenR : rs0.length ≤ (rsOf R rs0).length

theorem GI.snoc {X : VX} {ops : List Oper} {an : List Nat} {rs0 : List Res} {L0 : Env} {K : List Res → Env → Prop} {R : List Rec} {i : Nat} {rest : List Nat} {r : Rec} (G : GI X ops an rs0 L0 K R (i :: rest)) (hi : r.i = i)
    (hv : Valid X ops r (rsOf R rs0) (LOf R L0)) (hp : ∀ q, q ∈ R → Pair an q r) (h : vcO X ops an rest (R ++ [r]) (puts (rsOf R rs0) r.ws) (bindD r.dst r.val (LOf R L0)) K) : GI X ops an rs0 L0 K (R ++ [r]) rest := by
  refine ⟨fun j hj => ?_, ?_, ?_, ?_, ?_⟩
  · rcases G.all j hj with h1 | h1
    · left; simp only [List.map_append, List.mem_append]; exact .inl h1
    · rcases List.mem_cons.1 h1 with rfl | h1
      · left; simp [hi]
      · exact .inr h1
  · have := G.nd
    simpa [hi] using this
  · intro pre r' post e
    rcases List.eq_nil_or_concat post with rfl | ⟨post', x, rfl⟩
    · have e' : R ++ [r] = pre ++ [r'] := by simpa using e
      obtain ⟨rfl, h2⟩ := List.append_inj' e' rfl
      cases h2
      exact ⟨hv, hp⟩
    · have e' : R ++ [r] = (pre ++ r' :: post') ++ [x] := by simpa using e
      obtain ⟨h1, _⟩ := List.append_inj' e' rfl
      exact G.valid pre r' post' h1
  · rw [rsOf_append, LOf_append]; exact h
  · rw [rsOf_append]; exact Nat.le_trans G.lenR puts_length

/-- the next operation is a call, or there is none -/
def Head (X : VX) (ops : List Oper) (an : List Nat) (rs : List Res) (L : Env) (K : List Res → Env → Prop) (R : List Rec) : List Nat → Prop
  | [] => K rs L
  | i :: rest => ∃ o ci, ops[i]? = some o ∧ dstOK X o.dst = true ∧ guardIs ops L o = some true ∧ X.cop rs (opnd L) rs.length o.op = some ci ∧ callOK an R rest i rs.length o.dst (usesT ops o) ci = true ∧
      ci.sp fun v ws => match wsOK X ws with
        | true => vcO X ops an rest (R ++ [⟨i, o.dst, v, ws, usesT ops o, ci.tch, none, true⟩]) (puts rs ws) (bindD o.dst v L) K
        | false => False

theorem addR_ok {an : List Nat} {R : List Rec} {r : Rec} {k : List Rec → Prop} (h : addR an R r k) : (∀ q, q ∈ R → Pair an q r) ∧ k (R ++ [r]) := by
  unfold addR at h
  split at h
  · rename_i h1; exact ⟨fun q hq => okPair_spec (List.all_eq_true.1 h1 q hq), h⟩
  · exact h.elim

/-- on to the next call -/
theorem GI.advance {X : VX} {ops : List Oper} {an : List Nat} {rs0 : List Res} {L0 : Env} {K : List Res → Env → Prop} : ∀ {rest : List Nat} {R : List Rec}, GI X ops an rs0 L0 K R rest →
    ∃ R2 rest2, GI X ops an rs0 L0 K (R ++ R2) rest2 ∧ Head X ops an (rsOf (R ++ R2) rs0) (LOf (R ++ R2) L0) K (R ++ R2) rest2 ∧ (∀ r, r ∈ R2 → r.call = false ∧ r.i ∈ rest) ∧ (∀ i, i ∈ rest2 → i ∈ rest)
      ∧ ∀ r, r ∈ R2 → ∀ n, r.nw = some n → (rsOf R rs0).length ≤ n
  | [], R, G => ⟨[], [], by simpa using G, by simpa [Head, vcO] using G.pend, by simp, by simp, by simp⟩
  | i :: rest, R, G => by
    have h := G.pend
    simp only [vcO] at h
    have next : ∀ {r : Rec}, r.i = i → r.call = false → (∀ n, r.nw = some n → (rsOf R rs0).length ≤ n) → Valid X ops r (rsOf R rs0) (LOf R L0) → (∀ q, q ∈ R → Pair an q r) → vcO X ops an rest (R ++ [r]) (puts (rsOf R rs0) r.ws) (bindD r.dst r.val (LOf R L0)) K →
        ∃ R2 rest2, GI X ops an rs0 L0 K (R ++ R2) rest2 ∧ Head X ops an (rsOf (R ++ R2) rs0) (LOf (R ++ R2) L0) K (R ++ R2) rest2 ∧ (∀ r, r ∈ R2 → r.call = false ∧ r.i ∈ i :: rest) ∧ (∀ j, j ∈ rest2 → j ∈ i :: rest)
          ∧ ∀ r, r ∈ R2 → ∀ n, r.nw = some n → (rsOf R rs0).length ≤ n := by
      intro r hi hc hn hv hp hk
      obtain ⟨R2, rest2, h1, h2, h3, h4, h5⟩ := (G.snoc hi hv hp hk).advance
      refine ⟨r :: R2, rest2, by simpa using h1, by simpa using h2, ?_, fun j hj => by simp [h4 j hj], ?_⟩
      · intro q hq
        rcases List.mem_cons.1 hq with rfl | hq
        · exact ⟨hc, by simp [hi]⟩
        · exact ⟨(h3 q hq).1, by simp [(h3 q hq).2]⟩
      · intro q hq n hqn
        rcases List.mem_cons.1 hq with rfl | hq
        · exact hn n hqn
        · have := h5 q hq n hqn
          rw [rsOf_append] at this
          exact Nat.le_trans (puts_length (ws := r.ws)) this
    split at h
    · exact h.elim
    rename_i o ho
    split at h
    · exact h.elim
    rename_i hd
    split at h
    · exact h.elim
    · rename_i hg
      obtain ⟨hp, h⟩ := addR_ok h
      exact next (r := ⟨i, o.dst, .tuple #[], [], usesT ops o, [], none, false⟩) rfl rfl (by simp) ⟨hd, rfl, fun _ => ⟨o, ho, rfl, rfl, .inl ⟨hg, rfl, rfl, rfl⟩⟩⟩ hp h
    · rename_i hg
      split at h
      · rename_i ob v hq
        obtain ⟨hob, h⟩ := obP_ok h
        obtain ⟨hp, h⟩ := addR_ok (splitB_ok h)
        exact next (r := ⟨i, o.dst, v, [], usesT ops o, touch (opnd (LOf R L0)) o.op, none, false⟩) rfl rfl (by simp) ⟨hd, rfl, fun _ => ⟨o, ho, rfl, rfl, .inr ⟨hg, rfl, .inl ⟨ob, hq, hob, rfl, rfl⟩⟩⟩⟩ hp h
      · rename_i hqn
        split at h
        · rename_i ob v ws hq
          split at h
          · rename_i hw
            obtain ⟨hob, h⟩ := obP_ok h
            obtain ⟨hp, h⟩ := addR_ok h
            refine next (r := ⟨i, o.dst, v, ws, usesT ops o, touch (opnd (LOf R L0)) o.op, newN o.op (rsOf R rs0).length, false⟩) rfl rfl ?_ ⟨hd, hw, fun _ => ⟨o, ho, rfl, rfl, .inr ⟨hg, rfl, .inr ⟨hqn, ob, hq, hob, rfl⟩⟩⟩⟩ hp h
            intro n hn
            simp only [newN] at hn
            split at hn <;> cases hn
            exact Nat.le_refl _
          · exact h.elim
        · split at h
          · rename_i ci hc
            split at h
            · rename_i hok
              exact ⟨[], i :: rest, by simpa using G, by simp only [List.append_nil]; exact ⟨o, ci, ho, hd, hg, hc, hok, h⟩, by simp, by simp, by simp⟩
            · exact h.elim
          · exact h.elim


theorem opnd_congr {ops : List Oper} {o : Oper} {L L' : Env} (h : ∀ t, t ∈ usesT ops o → look L t = look L' t) : ∀ x, x ∈ o.op.operands.toList → opnd L x = opnd L' x := by
  intro x hx
  cases x with
  | tmp t =>
    refine h t (List.mem_append_left _ ?_)
    generalize o.op.operands.toList = l at hx
    induction l with
    | nil => cases hx
    | cons y r ih =>
      rcases List.mem_cons.1 hx with rfl | hx'
      · simp [tmpsO]
      · have := ih hx'
        cases y <;> simp [tmpsO, this]
  | _ => rfl
theorem guardIs_congr {ops : List Oper} {o : Oper} {L L' : Env} (h : ∀ t, t ∈ usesT ops o → look L t = look L' t) : guardIs ops L o = guardIs ops L' o := by
  unfold guardIs
  split
  · rfl
  · rename_i g want hg
    split
    · rename_i og hog
      split
      · rename_i t ht
        rw [h t (List.mem_append_right _ (by simp [guardT, hg, hog, ht, optN]))]
      · rfl
    · rfl

section
variable {X : VX} {ops : Array Oper} {w0 : World} {M : List Nat} {hs0 : Hs} {Q : Exit → Act → World → Prop} {rs0 : List Res} {L0 : Env} {K : List Res → Env → Prop} {an : List Nat}

def inS (listed : Array Bool) (r : Rec) : Bool := listed.getD r.i false

/-- the machine's state, when the operations of 'listed' have been carried out -/
structure GS (X : VX) (w0 : World) (M : List Nat) (hs0 : Hs) (rs0 : List Res) (L0 : Env) (R : List Rec) (listed : Array Bool) (a : Act) (w : World) : Prop where
  ex : ∃ hs, Heap w0 M (rsOf (R.filter (inS listed)) rs0) hs w ∧ (∀ t c, look (LOf (R.filter (inS listed)) L0) t = some c → VR2 (rsOf (R.filter (inS listed)) rs0) hs (a.tmps.getD t undef) c) ∧
    (∀ i, i < X.nin → hs i = hs0 i) ∧ (∀ r, r ∈ R → inS listed r = false → ∀ n, r.nw = some n → hs n = none)
  size : a.tmps.size = X.nt
  defers : a.defers = []

theorem getD_set {listed : Array Bool} {i j : Nat} (h : i < listed.size) : (listed.setIfInBounds i true).getD j false = (if i = j then true else listed.getD j false) := by
  simp only [Array.getD_eq_getD_getElem?, Array.getElem?_setIfInBounds]
  split
  · rename_i e; subst e; simp [h]
  · rfl

theorem filter_set {listed : Array Bool} {pre post : List Rec} {r : Rec} (hlt : r.i < listed.size) (hnd : ((pre ++ r :: post).map (·.i)).Nodup) (hr : inS listed r = false) :
    (pre ++ r :: post).filter (inS (listed.setIfInBounds r.i true)) = pre.filter (inS listed) ++ r :: post.filter (inS listed) ∧ (pre ++ r :: post).filter (inS listed) = pre.filter (inS listed) ++ post.filter (inS listed) := by
  have hne : ∀ q, q ∈ pre ∨ q ∈ post → inS (listed.setIfInBounds r.i true) q = inS listed q := by
    intro q hq
    unfold inS
    rw [getD_set hlt]
    rw [if_neg]
    intro e
    rw [List.map_append, List.map_cons] at hnd
    rcases hq with hq | hq
    · exact (List.nodup_append.1 hnd).2.2 q.i (List.mem_map_of_mem hq) r.i (by simp) e.symm
    · exact (List.nodup_cons.1 (List.nodup_append.1 hnd).2.1).1 (by rw [e]; exact List.mem_map_of_mem hq)
  have hrr : inS (listed.setIfInBounds r.i true) r = true := by unfold inS; rw [getD_set hlt]; simp
  rw [List.filter_append, List.filter_append, List.filter_cons, List.filter_cons, hrr, hr]
  simp only [if_true, Bool.false_eq_true, if_false]
  rw [List.filter_congr (l := pre) fun q hq => hne q (.inl hq), List.filter_congr (l := post) fun q hq => hne q (.inr hq)]
  exact ⟨rfl, trivial⟩

theorem mem_split {r : Rec} {R : List Rec} (h : r ∈ R) : ∃ pre post, R = pre ++ r :: post := List.append_of_mem h

theorem put_mono {l l' : List Res} (k : Nat) (r : Res) (h : l.length ≤ l'.length) : (put l k r).length ≤ (put l' k r).length := by rw [put_length, put_length]; omega
theorem puts_mono : ∀ {ws : List (Nat × Res)} {l l' : List Res}, l.length ≤ l'.length → (puts l ws).length ≤ (puts l' ws).length
  | [], _, _, h => h
  | (k, r) :: t, l, l', h => puts_mono (ws := t) (put_mono k r h)
theorem rsOf_filter_length {S : Rec → Bool} : ∀ {A : List Rec} {l l' : List Res}, l.length ≤ l'.length → (rsOf (A.filter S) l).length ≤ (rsOf A l').length
  | [], _, _, h => h
  | q :: t, l, l', h => by
    simp only [List.filter_cons]
    cases S q
    · exact rsOf_filter_length (A := t) (Nat.le_trans h puts_length)
    · exact rsOf_filter_length (A := t) (puts_mono h)

theorem countP_lt {p q : Nat → Bool} : ∀ {l : List Nat}, (∀ x, x ∈ l → q x = true → p x = true) → ∀ i, i ∈ l → p i = true → q i = false → l.countP q < l.countP p
  | [], _, i, hi, _, _ => by cases hi
  | x :: t, h, i, hi, hp, hq => by
    have mono : t.countP q ≤ t.countP p := List.countP_mono_left fun y hy => h y (by simp [hy])
    rw [List.countP_cons, List.countP_cons]
    rcases List.mem_cons.1 hi with rfl | hi
    · rw [if_neg (by rw [hq]; exact Bool.false_ne_true), if_pos hp]; omega
    · have := countP_lt (l := t) (fun y hy => h y (by simp [hy])) i hi hp hq
      have hx := h x (by simp)
      by_cases hqx : q x = true
      · rw [if_pos hqx, if_pos (hx hqx)]; omega
      · rw [if_neg hqx]; omega

theorem belowN_spec {n : Nat} {l : List Nat} (h : belowN n l = true) : ∀ k, k ∈ l → k < n := by
  intro k hk
  have := List.all_eq_true.1 h k hk
  simpa [Nat.blt_eq] using this

/-- the walk's end -/
theorem G_end {R : List Rec} {listed : Array Bool} {a : Act} {w : World} (hfr : ∀ k, memN k X.fr = true → k < X.nin) (St0 : Stay X rs0 L0) (G : GI X ops.toList an rs0 L0 K R []) (S : GS X w0 M hs0 rs0 L0 R listed a w)
    (hall : ∀ i, i < ops.size → listed.getD i false = true) (hlt : ∀ r, r ∈ R → r.i < ops.size) (hK : ∀ rs L a w, K rs L → St X w0 M hs0 rs L a w → Q .normal a w) : Q .normal a w := by
  have hf : R.filter (inS listed) = R := List.filter_eq_self.2 fun r hr => hall r.i (hlt r hr)
  obtain ⟨hs, H, hL, h0, _⟩ := S.ex
  rw [hf] at H hL
  have stay : ∀ (n : Nat) (A B : List Rec), A.length = n → R = A ++ B → Stay X (rsOf A rs0) (LOf A L0) := by
    intro n
    induction n with
    | zero => intro A B hn _; rw [List.eq_nil_of_length_eq_zero hn]; exact St0
    | succ n ih =>
      intro A B hn e
      rcases List.eq_nil_or_concat A with rfl | ⟨A', r, rfl⟩
      · simp at hn
      · have hv := (G.valid A' r B (by simpa using e)).1
        rw [List.concat_eq_append, rsOf_append, LOf_append]
        exact (ih A' (r :: B) (by simpa using hn) (by simpa using e)).step hfr hv.1 hv.2.1
  refine hK _ _ a w G.pend ⟨⟨hs, H, hL, h0⟩, stay _ R [] rfl (by simp), S.size, S.defers⟩

theorem drawn_ok (C : CopOK X) (hfr : ∀ k, memN k X.fr = true → k < X.nin) (hA : AncOK ops.toList an) (htopo : ∀ i o, ops[i]? = some o → ∀ e, e ∈ o.after.toList → bindsB e = true → e.on < i) (St0 : Stay X rs0 L0)
    (hK : ∀ rs L a w, K rs L → St X w0 M hs0 rs L a w → Q .normal a w) :
    ∀ (fuel : Nat) (listed : Array Bool) (R : List Rec) (rest : List Nat) (a : Act) (w : World),
      GI X ops.toList an rs0 L0 K R rest → Head X ops.toList an (rsOf R rs0) (LOf R L0) K R rest → GS X w0 M hs0 rs0 L0 R listed a w → listed.size = ops.size →
      (∀ r, r ∈ R → r.i < ops.size) → (∀ i, i ∈ rest → i < ops.size ∧ listed.getD i false = false) → (∀ r, r ∈ R → r.call = true → inS listed r = true) →
      (∀ i o, listed.getD i false = true → ops.toList[i]? = some o → ∀ e, e ∈ o.after.toList → bindsB e = true → listed.getD e.on false = true) →
      ((List.range ops.size).countP fun i => !(listed.getD i false)) ≤ fuel →
      wpAny X.P .any ops Q fuel listed a w := by
  have done : ∀ (listed : Array Bool) (R : List Rec) (rest : List Nat) (a : Act) (w : World),
      GI X ops.toList an rs0 L0 K R rest → GS X w0 M hs0 rs0 L0 R listed a w → (∀ r, r ∈ R → r.i < ops.size) → (∀ i, i ∈ rest → i < ops.size ∧ listed.getD i false = false) → (∀ i, i < ops.size → listed.getD i false = true) → Q .normal a w := by
    intro listed R rest a w G S hR hrest hall
    have : rest = [] := by
      cases rest with
      | nil => rfl
      | cons i t =>
        have h1 := hrest i (by simp)
        have h2 := hall i h1.1
        rw [h1.2] at h2
        cases h2
    subst this
    exact G_end hfr St0 G S hall hR hK
  intro fuel
  induction fuel with
  | zero =>
    intro listed R rest a w G hh S hsz hR hrest hcall hclosed hcount
    have hall : ∀ i, i < ops.size → listed.getD i false = true := by
      intro i hi
      have := List.countP_eq_zero.1 (Nat.le_zero.1 hcount) i (by simpa using hi)
      simpa using this
    refine ⟨?_, done listed R rest a w G S hR hrest hall⟩
    refine List.eq_nil_iff_forall_not_mem.2 fun i hi => ?_
    obtain ⟨h1, o, h2, _⟩ := mem_ready.1 hi
    have hlt := (Array.getElem?_eq_some_iff.1 h2).1
    have := hall i hlt
    simp [Array.getD_eq_getD_getElem?, hsz, hlt] at this h1
    rw [this] at h1
    cases h1
  | succ fuel ih =>
    intro listed R rest a w G hh S hsz hR hrest hcall hclosed hcount
    refine ⟨fun hnil => ?_, fun i hi => ?_⟩
    · refine done listed R rest a w G S hR hrest ?_
      intro i
      induction i using Nat.strongRecOn with
      | _ i ihi =>
        intro hlt
        cases hl : listed.getD i false with
        | true => rfl
        | false =>
          have hm : i ∈ Region.ready .any ops listed := by
            refine mem_ready.2 ⟨?_, ops[i], by simp [hlt], fun e he hb => ?_⟩
            · simp [Array.getD_eq_getD_getElem?, hsz, hlt] at hl ⊢; exact hl
            · rw [bindsB_eq] at hb
              have hon := htopo i ops[i] (by simp [hlt]) e (by simpa using he) hb
              exact ihi e.on hon (by omega)
          rw [hnil] at hm
          cases hm
    · obtain ⟨hi1, o, ho, hready⟩ := mem_ready.1 hi
      have hlt := (Array.getElem?_eq_some_iff.1 ho).1
      have hiS : listed.getD i false = false := by
        simp [Array.getD_eq_getD_getElem?, hsz, hlt] at hi1 ⊢; exact hi1
      have hafter : ∀ e, e ∈ o.after.toList → bindsB e = true → listed.getD e.on false = true := fun e he hb => hready e (by simpa using he) (by rw [bindsB_eq]; exact hb)
      have ho' : ops.toList[i]? = some o := by simpa using ho
      have hanc := hA (fun j => listed.getD j false) hclosed i o ho' hafter
      have hclosed' : ∀ j o', (listed.setIfInBounds i true).getD j false = true → ops.toList[j]? = some o' → ∀ e, e ∈ o'.after.toList → bindsB e = true → (listed.setIfInBounds i true).getD e.on false = true := by
        intro j o' hj ho2 e he hb
        rw [getD_set (by omega)] at hj ⊢
        split
        · rfl
        · by_cases e' : i = j
          · subst e'; rw [ho'] at ho2; cases ho2; exact hafter e he hb
          · rw [if_neg e'] at hj; exact hclosed j o' hj ho2 e he hb
      have hcount' : ((List.range ops.size).countP fun j => !((listed.setIfInBounds i true).getD j false)) ≤ fuel := by
        have := countP_lt (l := List.range ops.size) (p := fun j => !(listed.getD j false)) (q := fun j => !((listed.setIfInBounds i true).getD j false)) (fun x _ hx => by
          rw [getD_set (by omega)] at hx
          split at hx
          · cases hx
          · exact hx) i (by simpa using hlt) (by simp [hiS]) (by rw [getD_set (by omega)]; simp)
        omega
      have hsz' : (listed.setIfInBounds i true).size = ops.size := by simpa using hsz
      have hndR := (List.nodup_append.1 G.nd).1
      obtain ⟨hs, H, hL, h0, hnw⟩ := S.ex
      have hfresh : ∀ k, (rsOf R rs0).length ≤ k → hs k = none := fun k hk => H.fresh k (Nat.le_trans (rsOf_filter_length (Nat.le_refl _)) hk)
      unfold wpOp
      rw [ho]
      dsimp only
      rcases G.all i (by simpa using hlt) with hmem | hmem
      · -- one that has been walked through
        obtain ⟨r, hrR, hri⟩ := List.mem_map.1 hmem
        obtain ⟨pre, post, e⟩ := mem_split hrR
        have hSr : inS listed r = false := by unfold inS; rw [hri]; exact hiS
        have hcallF : r.call = false := by
          cases h : r.call with
          | false => rfl
          | true => have := hcall r hrR h; rw [hSr] at this; cases this
        obtain ⟨hv, hpairs⟩ := G.valid pre r post e
        obtain ⟨hdok, hwok, hv⟩ := hv
        obtain ⟨o', ho2, hdst, huses, hcase⟩ := hv hcallF
        rw [hri, ho'] at ho2
        cases ho2
        obtain ⟨f1, f2⟩ := filter_set (pre := pre) (post := post) (by rw [hri, hsz]; exact hlt) (by rw [← e]; exact hndR) hSr
        rw [hri] at f1
        have preOff : ∀ q, q ∈ pre → inS listed q = false → ¬ ancB an r.i q.i = true := by
          intro q hq hqS hanc'
          rw [hri] at hanc'
          have := hanc q.i hanc'
          unfold inS at hqS
          rw [hqS] at this; cases this
        have pairPost : ∀ q, q ∈ post → Pair an r q := by
          intro q hq
          obtain ⟨p1, p2, e2⟩ := mem_split hq
          exact (G.valid (pre ++ r :: p1) q p2 (by rw [e, e2]; simp)).2 r (by simp)
        have postOn : ∀ q, q ∈ post → inS listed q = true → ¬ ancB an q.i r.i = true := by
          intro q hq hqS hanc'
          have hqR : q ∈ R := by rw [e]; simp [hq]
          have hqlt := hR q hqR
          have hq1 : ops.toList[q.i]? = some ops[q.i] := by simp [hqlt]
          have := hA (fun j => listed.getD j false) hclosed q.i _ hq1 (hclosed q.i _ hqS hq1) r.i hanc'
          rw [hri] at this
          rw [hiS] at this; cases this
        have cpre : ∀ q, q ∈ pre → inS listed q = false → _ := fun q hq hqS => ((hpairs q hq).1).resolve_right (preOff q hq hqS)
        have cpost : ∀ q, q ∈ post.filter (inS listed) → _ := fun q hq => ((pairPost q (List.mem_filter.1 hq).1).1).resolve_right (postOn q (List.mem_filter.1 hq).1 (List.mem_filter.1 hq).2)
        rw [e, f2] at H hL
        generalize hA' : pre.filter (inS listed) = A at *
        generalize hB' : post.filter (inS listed) = B at *
        have sameK : ∀ k, k ∈ r.tch → Same (rsOf pre rs0) (rsOf (A ++ B) rs0) k := by
          intro k hk
          rw [rsOf_append]
          refine Same.symm ((rsOf_off fun q hq p hp e' => ?_).trans ?_)
          · exact (cpost q hq).2.2.2.2.1 p hp (by rw [e']; exact hk)
          · rw [← hA']
            exact rsOf_filter (.inl rfl) fun q hq hqS p hp e' => (cpre q hq hqS).2.2.2.1 p hp (by rw [e']; exact hk)
        have sameT : ∀ t, t ∈ usesT ops.toList o → look (LOf pre L0) t = look (LOf (A ++ B) L0) t := by
          intro t ht
          rw [← huses] at ht
          rw [LOf_append, LOf_off (A := B) fun q hq e' => (cpost q hq).2.1 t e' ht, ← hA']
          exact (LOf_filter rfl fun q hq hqS e' => (cpre q hq hqS).1 t e' ht).symm
        have hrs' : rsOf (R.filter (inS (listed.setIfInBounds i true))) rs0 = puts (rsOf (A ++ B) rs0) r.ws := by
          rw [e, f1, rsOf_append, rsOf_append]
          exact rsOf_late fun q hq p hp p' hp' e' => (cpost q hq).2.2.2.2.2 p' hp' p hp e'.symm
        have hLf : ∀ t, look (LOf (R.filter (inS (listed.setIfInBounds i true))) L0) t = look (bindD r.dst r.val (LOf (A ++ B) L0)) t := by
          intro t
          rw [e, f1, LOf_append, LOf_append]
          exact LOf_late fun q hq d hd hd' => (cpost q hq).2.2.1 d hd hd'
        have hnin : ∀ j, r.nw = some j → X.nin ≤ j := by
          intro j hj
          have hle : rs0.length ≤ (rsOf pre rs0).length := by
            have : ∀ (A : List Rec) (l : List Res), l.length ≤ (rsOf A l).length := by
              intro A
              induction A with
              | nil => exact fun _ => Nat.le_refl _
              | cons q t ih => exact fun l => Nat.le_trans puts_length (ih _)
            exact this pre rs0
          have := St0.len
          rcases hcase with ⟨_, _, _, h4⟩ | ⟨_, _, ⟨_, _, _, _, h4⟩ | ⟨_, _, _, _, h4⟩⟩
          · rw [h4] at hj; cases hj
          · rw [h4] at hj; cases hj
          · rw [h4] at hj
            unfold newN at hj
            split at hj <;> cases hj
            omega
        have hRi : ∀ q, q ∈ R → inS (listed.setIfInBounds i true) q = false → q ≠ r ∧ inS listed q = false := by
          intro q hq hqS
          unfold inS at hqS
          rw [getD_set (by omega)] at hqS
          split at hqS
          · cases hqS
          · rename_i hne
            exact ⟨fun e' => hne (by rw [e', hri]), hqS⟩
        have go : ∀ {hs' : Hs} {v : Value} {w' : World}, Heap w0 M (puts (rsOf (A ++ B) rs0) r.ws) hs' w' → Maps some (rsOf (A ++ B) rs0) (puts (rsOf (A ++ B) rs0) r.ws) hs hs' → VR2 (puts (rsOf (A ++ B) rs0) r.ws) hs' v r.val →
            (∀ j, hs' j = hs j ∨ r.nw = some j) → wpAny X.P .any ops Q fuel (listed.setIfInBounds i true) (a.put o.dst v) w' := by
          intro hs' v w' H' m hv' hj
          refine ih _ R rest _ w' G hh ⟨⟨hs', ?_, ?_, ?_, ?_⟩, ?_, ?_⟩ hsz' hR ?_ ?_ hclosed' hcount'
          · rw [hrs']; exact H'
          · intro t c ht
            rw [hrs']
            rw [hLf t, hdst] at ht
            exact env_put m (by rw [← hdst]; exact hdok) S.size hL hv' t c ht
          · intro j hjn
            rcases hj j with h1 | h1
            · rw [h1]; exact h0 j hjn
            · have := hnin j h1; omega
          · intro q hq hqS n hn
            obtain ⟨hne, hqS'⟩ := hRi q hq hqS
            rcases hj n with h1 | h1
            · rw [h1]; exact hnw q hq hqS' n hn
            · exfalso
              rw [e] at hq
              rcases List.mem_append.1 hq with hq | hq
              · exact (hpairs q hq).2 n hn h1
              · rcases List.mem_cons.1 hq with hq | hq
                · exact hne hq
                · exact (pairPost q hq).2 n h1 hn
          · rw [put_size]; exact S.size
          · rw [put_defers]; exact S.defers
          · intro j hj'
            obtain ⟨h1, h2⟩ := hrest j hj'
            refine ⟨h1, ?_⟩
            rw [getD_set (by omega), if_neg]
            · exact h2
            · intro e'
              have := (List.nodup_append.1 G.nd).2.2 r.i (List.mem_map_of_mem hrR) j hj'
              exact this (by rw [hri]; exact e')
          · intro q hq hqc
            have := hcall q hq hqc
            unfold inS at this ⊢
            rw [getD_set (by omega)]
            split
            · rfl
            · exact this
        rcases hcase with ⟨hg, hval, hws, _⟩ | ⟨hg, htch, hcase⟩
        · rw [guardIs_congr sameT] at hg
          rw [if_neg (by rw [wanted_of hL hg]; exact Bool.false_ne_true)]
          refine go (hs' := hs) ?_ ?_ ?_ (fun _ => .inl rfl)
          · rw [hws]; exact H
          · rw [hws]; exact fun k k' h e hk => by cases e; exact ⟨hk, fun r n hr hn => ⟨r, hr, hn⟩⟩
          · rw [hval]; exact (show VR2 _ _ undef (.tuple #[]) from ⟨#[], rfl, LR.nil⟩)
        · rw [guardIs_congr sameT] at hg
          rw [if_pos (wanted_of hL hg)]
          left
          unfold Oper.wp
          have hop := opnd_congr (ops := ops.toList) (o := o) sameT
          rw [htch] at sameK
          rcases hcase with ⟨ob, hq, hob, hws, hnw'⟩ | ⟨_, ob, hq, hob, hnw'⟩
          · rw [qop_congr hop sameK] at hq
            obtain ⟨u, n, h1, h2⟩ := qop_ok (e := a.eval) C.ext H (fun _ => rfl) (fun _ => rfl) (opnd_eval hL) hq hob
            rw [h1]
            refine go (hs' := hs) ?_ ?_ ?_ (fun _ => .inl rfl)
            · rw [hws]; exact H.drewN n
            · rw [hws]; exact fun k k' h e hk => by cases e; exact ⟨hk, fun r n hr hn => ⟨r, hr, hn⟩⟩
            · rw [hws]; exact h2
          · rw [eop_congr hop sameK] at hq
            have hE := eop_ok (e := a.eval) H (opnd_eval hL) (n := (rsOf pre rs0).length) (o := o) (fun hnews => hnw r hrR hSr _ (by rw [hnw']; simp [newN, hnews])) hq hob
            cases hnews : newsIn o.op with
            | true =>
              obtain ⟨x, u, w', hs', h1, h2, h3, h4, h5, h6⟩ := hE.1
              rw [h1]
              refine upon_of (X := X) h2 (go h4 h5 h3 fun j => ?_)
              by_cases ej : j = (rsOf pre rs0).length
              · right; rw [hnw', ej]; simp [newN, hnews]
              · exact .inl (h6 j ej)
            | false =>
              obtain ⟨x, u, w', h1, h2, h3, h4, h5⟩ := hE.2 hnews
              rw [h1]
              exact upon_of (X := X) h2 (go h4 h5 h3 fun j => .inl rfl)
      · -- the call that is next
        cases rest with
        | nil => cases hmem
        | cons i0 rest' =>
          obtain ⟨o0, ci, ho0, hdok, hg, hcop, hcok, hsp⟩ := hh
          simp only [callOK, Bool.and_eq_true] at hcok
          obtain ⟨hcR, hcrest⟩ := hcok
          have hi0 : i = i0 := by
            rcases List.mem_cons.1 hmem with h1 | h1
            · exact h1
            · exfalso
              have h2 := List.all_eq_true.1 hcrest i h1
              have h3 := hanc i0 h2
              have h4 := (hrest i0 (by simp)).2
              rw [h4] at h3; cases h3
          subst hi0
          rw [ho'] at ho0
          cases ho0
          have hq : ∀ q, q ∈ R → ((noConf q.dst q.uses q.tch (slotsW q.ws) o.dst (usesT ops.toList o) ci.tch ci.wr = true ∨ ancB an i q.i = true) ∧ (∀ k, k ∈ q.tch → k < (rsOf R rs0).length) ∧ (∀ k, k ∈ slotsW q.ws → k < (rsOf R rs0).length) ∧ ∀ k, q.nw = some k → k < (rsOf R rs0).length) := by
            intro q hq
            have := List.all_eq_true.1 hcR q hq
            simp only [Bool.and_eq_true, Bool.or_eq_true] at this
            obtain ⟨⟨⟨h1, h2⟩, h3⟩, h4⟩ := this
            exact ⟨h1, belowN_spec h2, belowN_spec h3, fun k hk => belowN_spec h4 k (by rw [hk]; simp [optN])⟩
          have hoff : ∀ q, q ∈ R → inS listed q = false → noConf q.dst q.uses q.tch (slotsW q.ws) o.dst (usesT ops.toList o) ci.tch ci.wr = true := by
            intro q hqR hqS
            refine ((hq q hqR).1).resolve_right fun h => ?_
            have := hanc q.i h
            unfold inS at hqS
            rw [hqS] at this; cases this
          have sameK : ∀ k, k ∈ ci.tch → Same (rsOf R rs0) (rsOf (R.filter (inS listed)) rs0) k := fun k hk =>
            Same.symm (rsOf_filter (.inl rfl) fun q hqR hqS p hp e' => (noConf_spec (hoff q hqR hqS)).2.2.2.1 p.1 (List.mem_map_of_mem hp) (by rw [e']; exact hk))
          have sameT : ∀ t, t ∈ usesT ops.toList o → look (LOf R L0) t = look (LOf (R.filter (inS listed)) L0) t := fun t ht =>
            (LOf_filter rfl fun q hqR hqS e' => (noConf_spec (hoff q hqR hqS)).1 t e' ht).symm
          rw [guardIs_congr sameT] at hg
          rw [if_pos (wanted_of hL hg)]
          left
          unfold Oper.wp
          have hcop' := C.congr hcop (opnd_congr (ops := ops.toList) (o := o) sameT) sameK
          obtain ⟨f, args, h1, h2⟩ := C.run (e := a.eval) hcop' H (fun _ => rfl) (fun _ => rfl) (opnd_eval hL) hfresh hsp
          rw [h1]
          refine Calls.mono h2 fun en w' hen => ?_
          cases en with
          | panicked _ => exact hen.elim
          | outgrown => exact hen.elim
          | returned u =>
            obtain ⟨c, ws, hs', k1, k2, k3, k4, k5, k6⟩ := hen
            split at k1
            case h_2 => exact k1.elim
            rename_i hwok
            have hiR : ∀ q, q ∈ R → q.i ≠ i := fun q hqR e' => (List.nodup_append.1 G.nd).2.2 q.i (List.mem_map_of_mem hqR) i (by simp) e'
            have G' : GI X ops.toList an rs0 L0 K (R ++ [⟨i, o.dst, c, ws, usesT ops.toList o, ci.tch, none, true⟩]) rest' := by
              refine G.snoc (r := ⟨i, o.dst, c, ws, usesT ops.toList o, ci.tch, none, true⟩) rfl ⟨hdok, hwok, by simp⟩ (fun q hqR => ⟨?_, by simp⟩) k1
              obtain ⟨g1, g2, g3, g4⟩ := hq q hqR
              refine g1.imp (fun h => ?_) id
              obtain ⟨a1, a2, a3, a4, a5, a6⟩ := noConf_spec h
              refine ⟨a1, a2, a3, fun p hp => a4 p.1 (List.mem_map_of_mem hp), fun p hp hk => ?_, fun p hp p' hp' e' => ?_⟩
              · rcases k6 p hp with h5 | h5
                · exact a5 p.1 h5 hk
                · have := g2 p.1 hk; omega
              · rcases k6 p' hp' with h5 | h5
                · exact a6 p.1 (List.mem_map_of_mem hp) (by rw [e']; exact h5)
                · have := g3 p.1 (List.mem_map_of_mem hp); omega
            obtain ⟨R2, rest2, G2, hh2, hR2, hrest2, hnw2⟩ := G'.advance
            have hndrest := (List.nodup_append.1 G.nd).2.1
            have hrestne : ∀ j, j ∈ rest' → j ≠ i := fun j hj e' => (List.nodup_cons.1 hndrest).1 (by rw [← e']; exact hj)
            have hrest'S : ∀ j, j ∈ rest' → j < ops.size ∧ (listed.setIfInBounds i true).getD j false = false := by
              intro j hj
              obtain ⟨b1, b2⟩ := hrest j (by simp [hj])
              refine ⟨b1, ?_⟩
              rw [getD_set (by omega), if_neg (fun e' => hrestne j hj e'.symm)]
              exact b2
            have hfil : (R ++ [(⟨i, o.dst, c, ws, usesT ops.toList o, ci.tch, none, true⟩ : Rec)] ++ R2).filter (inS (listed.setIfInBounds i true)) = R.filter (inS listed) ++ [⟨i, o.dst, c, ws, usesT ops.toList o, ci.tch, none, true⟩] := by
              rw [List.filter_append, List.filter_append]
              have e1 : R.filter (inS (listed.setIfInBounds i true)) = R.filter (inS listed) := List.filter_congr fun q hqR => by
                unfold inS
                rw [getD_set (by omega), if_neg (fun e' => hiR q hqR e'.symm)]
              have e2 : R2.filter (inS (listed.setIfInBounds i true)) = [] := List.filter_eq_nil_iff.2 fun q hqR => by
                have := (hrest'S q.i (hR2 q hqR).2).2
                unfold inS
                rw [this]; simp
              have e3 : [(⟨i, o.dst, c, ws, usesT ops.toList o, ci.tch, none, true⟩ : Rec)].filter (inS (listed.setIfInBounds i true)) = [⟨i, o.dst, c, ws, usesT ops.toList o, ci.tch, none, true⟩] := by
                have : inS (listed.setIfInBounds i true) (⟨i, o.dst, c, ws, usesT ops.toList o, ci.tch, none, true⟩ : Rec) = true := by
                  unfold inS; rw [getD_set (by omega)]; simp
                simp [List.filter_cons, this]
              rw [e1, e2, e3, List.append_nil]
            refine ih _ _ rest2 _ w' G2 hh2 ⟨⟨hs', ?_, ?_, ?_, ?_⟩, ?_, ?_⟩ hsz' ?_ ?_ ?_ hclosed' hcount'
            · rw [hfil, rsOf_append]; exact k3
            · intro t d ht
              rw [hfil, LOf_append] at ht
              rw [hfil, rsOf_append]
              exact env_put k4 hdok S.size hL k2 t d ht
            · intro j hj
              have := St0.len
              have := G.lenR
              rw [k5 j (by omega)]; exact h0 j hj
            · intro q hqm hqS n hn
              rcases List.mem_append.1 hqm with hqm | hqm
              · rcases List.mem_append.1 hqm with hqR | hqm
                · have hqS' : inS listed q = false := by
                    unfold inS at hqS ⊢
                    rw [getD_set (by omega), if_neg (fun e' => hiR q hqR e'.symm)] at hqS
                    exact hqS
                  rw [k5 n ((hq q hqR).2.2.2 n hn)]
                  exact hnw q hqR hqS' n hn
                · simp at hqm; subst hqm; cases hn
              · have := hnw2 q hqm n hn
                refine k3.fresh n (Nat.le_trans ?_ this)
                rw [rsOf_append]
                exact puts_mono (rsOf_filter_length (Nat.le_refl _))
            · rw [put_size]; exact S.size
            · rw [put_defers]; exact S.defers
            · intro q hqm
              rcases List.mem_append.1 hqm with hqm | hqm
              · rcases List.mem_append.1 hqm with hqR | hqm
                · exact hR q hqR
                · simp at hqm; subst hqm; exact hlt
              · exact (hrest'S q.i (hR2 q hqm).2).1
            · intro j hj; exact hrest'S j (hrest2 j hj)
            · intro q hqm hqc
              rcases List.mem_append.1 hqm with hqm | hqm
              · rcases List.mem_append.1 hqm with hqR | hqm
                · have := hcall q hqR hqc
                  unfold inS at this ⊢
                  rw [getD_set (by omega)]
                  split
                  · rfl
                  · exact this
                · simp at hqm; subst hqm; unfold inS; rw [getD_set (by omega)]; simp
              · rw [(hR2 q hqm).1] at hqc; cases hqc

/-- a region that draws -/
theorem wp_vcO (C : CopOK X) (hm : X.P.follows .mixedOrders = true) (hfr : ∀ k, memN k X.fr = true → k < X.nin) {id : Nat} {π : List Nat} {rs : List Res} {L : Env} {a : Act} {w : World}
    (htopo : topoB 0 ops.toList = true) (hπ : orderOK ops.toList.length π = true) (h : vcO X ops.toList (ancs ops.toList) π [] rs L K) (S : St X w0 M hs0 rs L a w)
    (hK : ∀ rs L a w, K rs L → St X w0 M hs0 rs L a w → Q .normal a w) : (Code.region id ops true).wp X.P Q a w := by
  refine wp_region_any hm ?_
  simp only [orderOK, Bool.and_eq_true] at hπ
  obtain ⟨⟨hnd, hlt⟩, hall⟩ := hπ
  have G : GI X ops.toList (ancs ops.toList) rs L K [] π := by
    refine ⟨fun i hi => ?_, by simpa using nodupB_spec hnd, by simp, h, Nat.le_refl _⟩
    exact .inr (memN_iff.1 (List.all_eq_true.1 hall i (by simpa using hi)))
  obtain ⟨R2, rest2, G2, hh2, hR2, hrest2, hnw2⟩ := G.advance
  simp only [List.nil_append] at G2 hh2
  obtain ⟨hs, H, hL, h0⟩ := S.ex
  have hlt' : ∀ j, j ∈ π → j < ops.size := fun j hj => by simpa using belowN_spec hlt j hj
  have hrep : ∀ i, (Array.replicate ops.size false).getD i false = false := by
    intro i; simp [Array.getD_eq_getD_getElem?, Array.getElem?_replicate]; split <;> rfl
  have hfil : R2.filter (inS (Array.replicate ops.size false)) = [] := List.filter_eq_nil_iff.2 fun q _ => by unfold inS; rw [hrep]; simp
  refine drawn_ok C hfr (ancs_ok _) (fun i o ho e he hb => ?_) S.stay hK ops.size _ R2 rest2 a _ G2 hh2 ⟨⟨hs, ?_, ?_, h0, ?_⟩, S.size, S.defers⟩ (by simp) (fun r hr => hlt' _ (hR2 r hr).2) (fun i hi => ⟨hlt' i (hrest2 i hi), hrep i⟩) ?_ ?_ ?_
  · have := topoB_spec htopo i o (by simpa using ho) e he hb; omega
  · rw [hfil]; exact H.drewN 1
  · intro t c ht; rw [hfil] at ht ⊢; exact hL t c ht
  · intro r hr _ n hn
    refine H.fresh n (hnw2 r hr n hn)
  · intro r hr hc; rw [(hR2 r hr).1] at hc; cases hc
  · intro i o hi; rw [hrep] at hi; cases hi
  · have := List.countP_le_length (p := fun i => !(Array.replicate ops.size false).getD i false) (l := List.range ops.size)
    simpa using this

theorem wp_vcR (C : CopOK X) (hm : X.P.follows .mixedOrders = true) (hfr : ∀ k, memN k X.fr = true → k < X.nin) {id : Nat} {draw : Bool} {rs : List Res} {L : Env} {a : Act} {w : World}
    (h : vcR X ops.toList draw rs L K) (S : St X w0 M hs0 rs L a w)
    (hK : ∀ rs L a w, K rs L → St X w0 M hs0 rs L a w → Q .normal a w) : (Code.region id ops draw).wp X.P Q a w := by
  cases draw with
  | false => exact wp_vcS C hfr h S hK
  | true =>
    simp only [vcR] at h
    split at h
    · rename_i hb
      simp only [Bool.and_eq_true] at hb
      exact wp_vcO C hm hfr hb.1 hb.2 h S hK
    · exact h.elim

end
end Go.K
