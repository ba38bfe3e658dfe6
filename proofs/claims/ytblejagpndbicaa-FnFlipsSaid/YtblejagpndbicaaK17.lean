/- Contracts: what a function does, said of leaves. -/
import Derived.Test.YtblejagpndbicaaK16
set_option linter.unusedSimpArgs false
set_option linter.unusedVariables false
namespace Go.K
open Go.RowKit

/-- what a function does: the shapes of arguments and results, the law -/
structure Ctr where
  f : FuncId
  isv : List S2
  isr : List SR
  itys : List LT
  osv : List S2
  osr : List SR
  otys : List LT
  W : CurK itys otys

def Ctr.nin (k : Ctr) : Nat := k.isr.length

/-- how a call of it ends -/
def CtrEnd (k : Ctr) (rin : List Res) (hin : Hs) (M : List Nat) (w : World) (K : List LV → Prop) : Ending → World → Prop
  | .returned v, w' => ∃ lvo c rout hout, K lvo ∧ emb rin k.osv k.osr lvo = some ([c], rout) ∧ VR2 rout hout v c ∧ Heap w M rout hout w' ∧ ∀ i, i < k.nin → hout i = hin i
  | _, _ => False

structure CtrOK (P : Program) (k : Ctr) : Prop where
  enter : ∀ args w, (callFunc k.f args).run P w = .ok (.enter k.f args) w
  run : ∀ {lv : List LV} {cargs : List Value} {rin : List Res} {hin : Hs} {args : Array Value} {M : List Nat} {w : World} {K : List LV → Prop},
    emb [] k.isv k.isr lv = some (cargs, rin) → LR (VR2 rin hin) args.toList cargs → Heap w M rin hin w → (∀ i, i < k.nin → ∃ h, hin i = some h) → rin.length = k.nin →
    appK k.otys k.itys k.W lv (lam k.otys K) → Calls P k.f args w (CtrEnd k rin hin M w K)

/-! ### looking at slots, again -/
theorem dR_congr {rs rs' : List Res} {s : SR} {b : Bnd} (h : ∀ k, (match b with | .sl k _ _ _ => [k] | .pt k _ => [k] | .mp k => [k] | .nil => []).contains k = true → Same rs rs' k) : dR rs s b = dR rs' s b := by
  cases b with
  | nil => cases s <;> rfl
  | sl k off n q =>
    have hk := h k (by simp)
    cases s <;> try rfl
    · cases q with
      | succ q => rfl
      | zero =>
        simp only [dR]
        rcases hk with e | ⟨d1, d2⟩
        · simp only [e]
        · rcases deadish_cases d1 with e1 | e1 <;> rcases deadish_cases d2 with e2 | e2 <;> simp only [e1, e2]
    · simp only [dR]
      rcases hk with e | ⟨d1, d2⟩
      · simp only [e]
      · rcases deadish_cases d1 with e1 | e1 <;> rcases deadish_cases d2 with e2 | e2 <;> simp only [e1, e2, sliceLst]
  | pt k off =>
    have hk := h k (by simp)
    cases s <;> try rfl
    · cases off with
      | succ q => rfl
      | zero =>
        simp only [dR]
        rcases hk with e | ⟨d1, d2⟩
        · simp only [e]
        · rcases deadish_cases d1 with e1 | e1 <;> rcases deadish_cases d2 with e2 | e2 <;> simp only [e1, e2]
    · cases off with
      | succ q => rfl
      | zero =>
        simp only [dR]
        rcases hk with e | ⟨d1, d2⟩
        · simp only [e]
        · rcases deadish_cases d1 with e1 | e1 <;> rcases deadish_cases d2 with e2 | e2 <;> simp only [e1, e2]
    · simp only [dR]
      rcases hk with e | ⟨d1, d2⟩
      · simp only [e]
      · rcases deadish_cases d1 with e1 | e1 <;> rcases deadish_cases d2 with e2 | e2 <;> simp only [e1, e2]
  | mp k =>
    have hk := h k (by simp)
    cases s <;> try rfl
    simp only [dR]
    rcases hk with e | ⟨d1, d2⟩
    · simp only [e]
    · rcases deadish_cases d1 with e1 | e1 <;> rcases deadish_cases d2 with e2 | e2 <;> simp only [e1, e2]

def bndSlots (b : Bnd) : List Nat := match b with
  | .sl k _ _ _ => [k]
  | .pt k _ => [k]
  | .mp k => [k]
  | .nil => []
def bndsSlots : List Bnd → List Nat
  | [] => []
  | b :: r => bndSlots b ++ bndsSlots r

theorem dRs_congr {rs rs' : List Res} : ∀ {sr : List SR} {j : Nat} {bs : List (Nat × Bnd)} {lv : List LV} {bs' : List (Nat × Bnd)} {B : List Bnd}, dRs rs sr j bs = some (lv, bs', B) →
    (∀ k, k ∈ bndsSlots B → Same rs rs' k) → dRs rs' sr j bs = some (lv, bs', B)
  | [], j, bs, lv, bs', B, h, _ => h
  | s :: r, j, bs, lv, bs', B, h, hk => by
    simp only [dRs] at h ⊢
    split at h
    · cases h
    rename_i b hb
    split at h
    · cases h
    rename_i lv1 more hd
    split at h
    · cases h
    rename_i lv2 bs2 B2 h2
    cases h
    have e : dR rs s b = dR rs' s b := dR_congr fun k hk' => hk k (by
      simp only [bndsSlots, List.mem_append]
      left
      cases b <;> first | (simp at hk'; done) | simpa [bndSlots] using hk')
    rw [← e, hd]
    dsimp only
    rw [dRs_congr h2 fun k hk' => hk k (by simp [bndsSlots, hk'])]
theorem dec_congr {FR rs rs' : List Res} {base : List (Nat × Bnd)} {sv : List S2} {sr : List SR} {vals : List Value} {lv : List LV} {B : List Bnd} (h : dec FR rs base sv sr vals = some (lv, B))
    (hk : ∀ k, k ∈ bndsSlots B → Same rs rs' k) : dec FR rs' base sv sr vals = some (lv, B) := by
  unfold dec at h ⊢
  split at h
  · cases h
  rename_i lvV bs hd
  split at h
  · cases h
  rename_i lvR bs' B' hR
  split at h
  case h_2 => cases h
  rename_i hc
  cases h
  rw [dRs_congr hR hk]
  dsimp only
  rw [hc]

/-! ### what comes back -/
/-- a value of the callee's, in the caller's words; n: where its new slots go -/
def bk0 (B : List Bnd) (nin n : Nat) (v : Value) : Option Value :=
  match v with
  | .pointer a => match a with
    | none => some (.pointer none)
    | some p => match Nat.blt p.block nin with
      | false => some (.pointer (some ⟨n + (p.block - nin), p.off, none⟩))
      | true => match B[p.block]? with
        | some b => match b with
          | .pt k off => some (.pointer (some ⟨k, off + p.off, none⟩))
          | _ => none
        | none => none
  | .slice a m q => match a with
    | none => some (.slice none m q)
    | some p => match Nat.blt p.block nin with
      | false => some (.slice (some ⟨n + (p.block - nin), p.off, none⟩) m q)
      | true => match q with
        | 0 => match B[p.block]? with
          | some b => match b with
            | .sl k off m' q' => some (.slice (some ⟨k, off, none⟩) m' q')
            | .nil => some (.slice none 0 0)
            | _ => none
          | none => none
        | _ + 1 => none
  | .map r => match r with
    | none => some (.map none)
    | some j => match Nat.blt j nin with
      | false => some (.map (some (n + (j - nin))))
      | true => none
  | .func _ _ _ => none
  | v => some v
def bkL (B : List Bnd) (nin n : Nat) : List Value → Option (List Value)
  | [] => some []
  | v :: r => match bk0 B nin n v with
    | none => none
    | some u => match bkL B nin n r with
      | none => none
      | some us => some (u :: us)
def bkA (B : List Bnd) (nin n : Nat) (v : Value) : Option Value :=
  match v with
  | .agg cs => match bkL B nin n cs.toList with
    | some us => some (.agg us.toArray)
    | none => none
  | v => bk0 B nin n v
def bkAL (B : List Bnd) (nin n : Nat) : List Value → Option (List Value)
  | [] => some []
  | v :: r => match bkA B nin n v with
    | none => none
    | some u => match bkAL B nin n r with
      | none => none
      | some us => some (u :: us)
/-- results: no functions among them -/
def bk2 (B : List Bnd) (nin n : Nat) (v : Value) : Option Value :=
  match v with
  | .tuple cs => match bkAL B nin n cs.toList with
    | some us => some (.tuple us.toArray)
    | none => none
  | .func _ _ _ => none
  | v => bkA B nin n v
def bkR (B : List Bnd) (nin n : Nat) (r : Res) : Option Res :=
  match r with
  | .box T cs => match bkL B nin n cs with
    | some us => some (.box T us)
    | none => none
  | .row E l => some (.row E l)
  | .arr T l => some (.arr T l)
  | .snap l => some (.snap l)
  | .dead => some .dead
  | _ => none

/-- the slots that the call has turned: those of the arguments -/
def bkIn (B : List Bnd) (nin n : Nat) : List SR → List Bnd → List Res → Option (List (Nat × Res))
  | [], _, _ => some []
  | s :: r, l, rs => match l with
    | [] => none
    | b :: bs => match rs with
      | [] => none
      | q :: qs => match ownB s b with
        | [] => bkIn B nin n r bs qs
        | k :: _ => match bkR B nin n q with
          | none => none
          | some q' => match bkIn B nin n r bs qs with
            | none => none
            | some t => some ((k, q') :: t)
/-- and the new ones -/
def bkNew (B : List Bnd) (nin n : Nat) : Nat → List Res → Option (List (Nat × Res))
  | _, [] => some []
  | i, q :: qs => match bkR B nin n q with
    | none => none
    | some q' => match bkNew B nin n (i + 1) qs with
      | none => none
      | some t => some ((i, q') :: t)

/-- what a call may change: whole slices and variables -/
def ownIn : SR → Bool
  | .arr _ _ => false
  | .snap _ => false
  | .keep => false
  | .dead => false
  | _ => true
/-- what it leaves: slots of the arguments that were read stay -/
def outIn : List SR → List SR → Bool
  | [], _ => true
  | s :: r, l => match l with
    | [] => false
    | o :: os => (match s with
      | .row _ _ => (match o with
        | .row _ _ => true
        | .dead => true
        | _ => false)
      | .box _ _ => (match o with
        | .box _ _ => true
        | .dead => true
        | _ => false)
      | _ => (match o with
        | .keep => true
        | _ => false)) && outIn r os
def Ctr.fit (k : Ctr) : Bool := k.isr.all ownIn && outIn k.isr k.osr

def retC (k : Ctr) (B : List Bnd) (n : Nat) (rin : List Res) (K : Value → List (Nat × Res) → Prop) (lvo : List LV) : Prop :=
  match emb rin k.osv k.osr lvo with
  | none => False
  | some (cs, rout) => match cs with
    | [c] => match bk2 B k.nin n c with
      | none => False
      | some c' => match bkIn B k.nin n k.isr B rout with
        | none => False
        | some ws => match bkNew B k.nin n n (rout.drop k.nin) with
          | none => False
          | some ws' => K c' (ws ++ ws')
    | _ => False

def callK (rs : List Res) (n : Nat) (vals : List Value) (k : Ctr) : Option CallI :=
  match k.fit with
  | false => none
  | true => match dec [] rs [] k.isv k.isr vals with
    | none => none
    | some (lv, B) => match emb [] k.isv k.isr lv with
      | none => none
      | some (_, rin) => some ⟨bndsSlots B, ownBs k.isr B, fun K => appK k.otys k.itys k.W lv (lam k.otys (retC k B n rin K))⟩
def callF (rs : List Res) (n : Nat) (f : FuncId) (vals : List Value) : List Ctr → Option CallI
  | [] => none
  | k :: r => match Nat.beq k.f f with
    | false => callF rs n f vals r
    | true => match d2L k.isv vals with
      | some _ => callK rs n vals k
      | none => callF rs n f vals r
/-- calls, by contracts -/
def copOf (ks : List Ctr) (rs : List Res) (ρ : Operand → Option Value) (n : Nat) (op : Op) : Option CallI :=
  match op with
  | .call c => match c.callee with
    | .value x => match ρ x with
      | some v => match v with
        | .func g first caps => match g with
          | .func f => match all1 ρ c.args.toList with
            | some args => callF rs n f (first.toList ++ args ++ caps.toList) ks
            | none => none
          | _ => none
        | _ => none
      | none => none
    | _ => none
  | _ => none

end Go.K
