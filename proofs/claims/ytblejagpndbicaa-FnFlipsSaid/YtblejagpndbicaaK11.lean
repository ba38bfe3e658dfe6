/- A region that draws the order of its operations. -/
import Derived.Test.YtblejagpndbicaaK10
import Derived.Orders
set_option linter.unusedSimpArgs false
set_option linter.unusedVariables false
namespace Go.K
open Go.RowKit

/-- an operation that has been walked through: where it stands, what it yields, which slots turn, what it looks at, the slot that it takes -/
structure Rec where
  i : Nat
  dst : Option Nat
  val : Value
  ws : List (Nat × Res)
  uses : List Nat
  tch : List Nat
  nw : Option Nat
  call : Bool

def optN : Option Nat → List Nat
  | none => []
  | some n => [n]
def tmpsO : List Operand → List Nat
  | [] => []
  | x :: r => match x with
    | .tmp t => t :: tmpsO r
    | _ => tmpsO r
def guardT (ops : List Oper) (o : Oper) : List Nat :=
  match o.guard with
  | none => []
  | some (g, _) => match ops[g]? with
    | some og => optN og.dst
    | none => []
def usesT (ops : List Oper) (o : Oper) : List Nat := tmpsO o.op.operands.toList ++ guardT ops o
def slotsW (ws : List (Nat × Res)) : List Nat := ws.map (·.1)
def disj : List Nat → List Nat → Bool
  | [], _ => true
  | k :: r, l => match memN k l with
    | true => false
    | false => disj r l
theorem disj_spec : ∀ {a b : List Nat}, disj a b = true → ∀ k, k ∈ a → k ∈ b → False
  | [], _, _, k, h, _ => by cases h
  | x :: r, b, h, k, hk, hb => by
    simp only [disj] at h
    split at h
    · cases h
    · rename_i hx
      rcases List.mem_cons.1 hk with rfl | hk
      · rw [memN_iff.2 hb] at hx; cases hx
      · exact disj_spec h k hk hb

def noConf (d : Option Nat) (u t w : List Nat) (d' : Option Nat) (u' t' w' : List Nat) : Bool :=
  disj (optN d) u' && disj (optN d') u && disj (optN d) (optN d') && disj w t' && disj w' t && disj w w'
def ancB (an : List Nat) (j i : Nat) : Bool := match an[j]? with
  | some m => Nat.testBit m i
  | none => false
def diffN (a b : Option Nat) : Bool := disj (optN a) (optN b)
def okPair (an : List Nat) (q r : Rec) : Bool :=
  (noConf q.dst q.uses q.tch (slotsW q.ws) r.dst r.uses r.tch (slotsW r.ws) || ancB an r.i q.i) && diffN q.nw r.nw
def addR (an : List Nat) (R : List Rec) (r : Rec) (k : List Rec → Prop) : Prop :=
  match R.all (fun q => okPair an q r) with
  | true => k (R ++ [r])
  | false => False
def belowN (n : Nat) (l : List Nat) : Bool := l.all fun k => Nat.blt k n
def callOK (an : List Nat) (R : List Rec) (rest : List Nat) (i n : Nat) (dst : Option Nat) (uses : List Nat) (ci : CallI) : Bool :=
  R.all (fun q => (noConf q.dst q.uses q.tch (slotsW q.ws) dst uses ci.tch ci.wr || ancB an i q.i) && belowN n q.tch && belowN n (slotsW q.ws) && belowN n (optN q.nw)) && rest.all (fun j => ancB an j i)

def newN (op : Op) (n : Nat) : Option Nat := match newsIn op with
  | true => some n
  | false => none

def vcO (X : VX) (ops : List Oper) (an : List Nat) : List Nat → List Rec → List Res → Env → (List Res → Env → Prop) → Prop
  | [], _, rs, L, K => K rs L
  | i :: rest, R, rs, L, K => match ops[i]? with
    | none => False
    | some o => match dstOK X o.dst with
      | false => False
      | true => match guardIs ops L o with
        | none => False
        | some false => addR an R ⟨i, o.dst, .tuple #[], [], usesT ops o, [], none, false⟩ fun R' => vcO X ops an rest R' rs (bindD o.dst (.tuple #[]) L) K
        | some true => match qop X.P X.exts rs (opnd L) o.op with
          | some (ob, v) => obP ob (splitB (isG ops i) v fun v => addR an R ⟨i, o.dst, v, [], usesT ops o, touch (opnd L) o.op, none, false⟩ fun R' => vcO X ops an rest R' rs (bindD o.dst v L) K)
          | none => match eop X.P rs (opnd L) rs.length o.op with
            | some (ob, v, ws) => match wsOK X ws with
              | true => obP ob (addR an R ⟨i, o.dst, v, ws, usesT ops o, touch (opnd L) o.op, newN o.op rs.length, false⟩ fun R' => vcO X ops an rest R' (puts rs ws) (bindD o.dst v L) K)
              | false => False
            | none => match X.cop rs (opnd L) rs.length o.op with
              | some ci => match callOK an R rest i rs.length o.dst (usesT ops o) ci with
                | true => ci.sp fun v ws => match wsOK X ws with
                  | true => vcO X ops an rest (R ++ [⟨i, o.dst, v, ws, usesT ops o, ci.tch, none, true⟩]) (puts rs ws) (bindD o.dst v L) K
                  | false => False
                | false => False
              | none => False

def bindsB (e : Edge) : Bool := match e.ground with
  | .textOnly _ => false
  | .gcOnly _ => false
  | _ => true
theorem bindsB_eq (e : Edge) : Region.binds .any e = bindsB e := by
  unfold Region.binds bindsB
  cases e.ground <;> rfl

/-- the masks of what comes before each -/
def maskE (an : List Nat) : List Edge → Nat
  | [] => 0
  | e :: r => match bindsB e with
    | true => match an[e.on]? with
      | some m => Nat.lor (Nat.lor m (Nat.shiftLeft 1 e.on)) (maskE an r)
      | none => maskE an r
    | false => maskE an r
def ancsFrom (an : List Nat) : List Oper → List Nat
  | [] => an
  | o :: r => ancsFrom (an ++ [maskE an o.after.toList]) r
def ancs (ops : List Oper) : List Nat := ancsFrom [] ops

def topoE (i : Nat) : List Edge → Bool
  | [] => true
  | e :: r => match bindsB e with
    | true => match Nat.blt e.on i with
      | true => topoE i r
      | false => false
    | false => topoE i r
def topoB : Nat → List Oper → Bool
  | _, [] => true
  | i, o :: r => match topoE i o.after.toList with
    | true => topoB (i + 1) r
    | false => false
def nodupB : List Nat → Bool
  | [] => true
  | k :: r => match memN k r with
    | true => false
    | false => nodupB r
def orderOK (n : Nat) (π : List Nat) : Bool := nodupB π && belowN n π && (List.range n).all (fun i => memN i π)

/-- is the operation a call of a function of the program? -/
def isCallOp (X : VX) (op : Op) : Bool :=
  match op with
  | .call c => match c.callee with
    | .value v => match v with
      | .func f => match findE f X.exts with
        | some _ => false
        | none => true
      | _ => true
    | _ => false
  | _ => false
/-- those operations, of whom no call in the mask comes before but these, the others later -/
def orderF (X : VX) (an : List Nat) (calls : Nat) : List Nat → List (Nat × Oper) → List Nat
  | [], _ => []
  | c :: cs, ops =>
    (ops.filter fun p => !(isCallOp X p.2.op) && Nat.beq (Nat.land (an.getD p.1 0) calls) (Nat.land (an.getD c 0) calls)).map (·.1) ++ c :: orderF X an calls cs ops
def idx {α : Type} : Nat → List α → List (Nat × α)
  | _, [] => []
  | i, a :: r => (i, a) :: idx (i + 1) r
def order (X : VX) (ops : List Oper) (an : List Nat) : List Nat :=
  let ix := idx 0 ops
  let cs := (ix.filter fun p => isCallOp X p.2.op).map (·.1)
  let calls := cs.foldl (fun m c => Nat.lor m (Nat.shiftLeft 1 c)) 0
  let front := orderF X an calls cs ix
  front ++ (ix.filter fun p => !(memN p.1 front)).map (·.1)

/-- a region, either way -/
def vcR (X : VX) (ops : List Oper) (draw : Bool) (rs : List Res) (L : Env) (K : List Res → Env → Prop) : Prop :=
  match draw with
  | false => vcS X ops ops 0 rs L K
  | true => match topoB 0 ops && orderOK ops.length (order X ops (ancs ops)) with
    | true => vcO X ops (ancs ops) (order X ops (ancs ops)) [] rs L K
    | false => False

/-! ### what comes before -/
theorem testBit_lor (m n k : Nat) : Nat.testBit (Nat.lor m n) k = (m.testBit k || n.testBit k) := Nat.testBit_or m n k
theorem testBit_one (i j : Nat) : Nat.testBit (Nat.shiftLeft 1 i) j = decide (i = j) := by
  have : Nat.shiftLeft 1 i = 2 ^ i := by
    have := Nat.shiftLeft_eq 1 i
    simpa using this
  rw [this, Nat.testBit_two_pow]

def AncOK (ops : List Oper) (an : List Nat) : Prop :=
  ∀ S : Nat → Bool, (∀ i o, S i = true → ops[i]? = some o → ∀ e, e ∈ o.after.toList → bindsB e = true → S e.on = true) →
    ∀ i o, ops[i]? = some o → (∀ e, e ∈ o.after.toList → bindsB e = true → S e.on = true) → ∀ j, ancB an i j = true → S j = true

theorem maskE_spec {an : List Nat} {j : Nat} : ∀ {es : List Edge}, Nat.testBit (maskE an es) j = true → ∃ e, e ∈ es ∧ bindsB e = true ∧ (j = e.on ∨ ancB an e.on j = true)
  | [], h => by simp [maskE] at h
  | e :: r, h => by
    simp only [maskE] at h
    split at h
    · rename_i hb
      split at h
      · rename_i m hm
        rw [testBit_lor, testBit_lor, testBit_one, Bool.or_eq_true, Bool.or_eq_true] at h
        rcases h with (h | h) | h
        · exact ⟨e, by simp, hb, .inr (by unfold ancB; rw [hm]; exact h)⟩
        · exact ⟨e, by simp, hb, .inl (of_decide_eq_true h).symm⟩
        · obtain ⟨e', h1, h2⟩ := maskE_spec h; exact ⟨e', by simp [h1], h2⟩
      · obtain ⟨e', h1, h2⟩ := maskE_spec h; exact ⟨e', by simp [h1], h2⟩
    · obtain ⟨e', h1, h2⟩ := maskE_spec h; exact ⟨e', by simp [h1], h2⟩

theorem ancsFrom_ok {S : Nat → Bool} {ops : List Oper} (hS : ∀ i o, S i = true → ops[i]? = some o → ∀ e, e ∈ o.after.toList → bindsB e = true → S e.on = true) :
    ∀ (rest : List Oper) (an : List Nat), ops.drop an.length = rest → (∀ i o, i < an.length → ops[i]? = some o → (∀ e, e ∈ o.after.toList → bindsB e = true → S e.on = true) → ∀ j, ancB an i j = true → S j = true) →
      ∀ i o, ops[i]? = some o → (∀ e, e ∈ o.after.toList → bindsB e = true → S e.on = true) → ∀ j, ancB (ancsFrom an rest) i j = true → S j = true
  | [], an, _, h, i, o, ho, he, j, hj => by
    refine h i o ?_ ho he j hj
    unfold ancsFrom ancB at hj
    split at hj
    · rename_i m hm; exact (List.getElem?_eq_some_iff.1 hm).1
    · cases hj
  | x :: rest, an, hd, h, i, o, ho, he, j, hj => by
    have hx : ops[an.length]? = some x := by rw [← List.head?_drop, hd]; rfl
    have hd' : ops.drop (an.length + 1) = rest := by rw [← List.drop_drop, hd]; rfl
    refine ancsFrom_ok hS rest (an ++ [maskE an x.after.toList]) (by simpa using hd') ?_ i o ho he j hj
    intro i' o' hi' ho' he' j' hj'
    by_cases e : i' < an.length
    · refine h i' o' e ho' he' j' ?_
      unfold ancB at hj' ⊢
      rwa [List.getElem?_append_left e] at hj'
    · have e' : i' = an.length := by simp at hi'; omega
      subst e'
      rw [hx] at ho'; cases ho'
      unfold ancB at hj'
      simp at hj'
      obtain ⟨ed, h1, h2, h3⟩ := maskE_spec hj'
      have hon := he' ed h1 h2
      rcases h3 with rfl | h3
      · exact hon
      · have hlt : ed.on < an.length := by
          unfold ancB at h3
          split at h3
          · rename_i m hm; exact (List.getElem?_eq_some_iff.1 hm).1
          · cases h3
        have hlo : ed.on < ops.length := by
          have := (List.getElem?_eq_some_iff.1 hx).1
          omega
        exact h ed.on ops[ed.on] hlt (by simp [hlo]) (hS ed.on _ hon (by simp [hlo])) j' h3

theorem ancs_ok (ops : List Oper) : AncOK ops (ancs ops) := fun S hS i o ho he j hj =>
  ancsFrom_ok hS ops [] rfl (fun i _ hi => by simp at hi) i o ho he j hj

theorem topoE_spec {i : Nat} : ∀ {es : List Edge}, topoE i es = true → ∀ e, e ∈ es → bindsB e = true → e.on < i
  | [], _, e, h, _ => by cases h
  | x :: r, h, e, he, hb => by
    simp only [topoE] at h
    split at h
    · rename_i hbx
      split at h
      · rename_i hlt
        rcases List.mem_cons.1 he with rfl | he
        · simpa [Nat.blt_eq] using hlt
        · exact topoE_spec h e he hb
      · cases h
    · rename_i hbx
      rcases List.mem_cons.1 he with rfl | he
      · rw [hb] at hbx; cases hbx
      · exact topoE_spec h e he hb
theorem topoB_spec : ∀ {ops : List Oper} {k : Nat}, topoB k ops = true → ∀ i o, ops[i]? = some o → ∀ e, e ∈ o.after.toList → bindsB e = true → e.on < k + i
  | [], k, _, i, o, h, _, _, _ => by simp at h
  | x :: r, k, h, i, o, ho, e, he, hb => by
    simp only [topoB] at h
    split at h
    · rename_i hx
      cases i with
      | zero => simp at ho; subst ho; exact topoE_spec hx e he hb
      | succ i => have := topoB_spec h i o (by simpa using ho) e he hb; omega
    · cases h

theorem nodupB_spec : ∀ {l : List Nat}, nodupB l = true → l.Nodup
  | [], _ => List.nodup_nil
  | k :: r, h => by
    simp only [nodupB] at h
    split at h
    · cases h
    · rename_i hk
      refine List.nodup_cons.2 ⟨fun hm => ?_, nodupB_spec h⟩
      rw [memN_iff.2 hm] at hk; cases hk

end Go.K
