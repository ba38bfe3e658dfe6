/- A region's operations, one after another. -/
import Derived.Test.YtblejagpndbicaaK9
set_option linter.unusedSimpArgs false
namespace Go.K
open Go.RowKit

/-- a call, symbolically: the slots it looks at, those of them that may turn, what it says of what follows -/
structure CallI where
  tch : List Nat
  wr : List Nat
  sp : (Value → List (Nat × Res) → Prop) → Prop

/-- what a walk through a function takes from outside: F, FR: what is known of the temporaries and slots that stay, fr: these slots -/
structure VX where
  P : Program
  exts : List (FuncId × ExtK)
  cop : List Res → (Operand → Option Value) → Nat → Op → Option CallI
  nt : Nat
  F : Env
  FR : List Res
  fr : List Nat
  nin : Nat

def memN (n : Nat) : List Nat → Bool
  | [] => false
  | k :: r => match Nat.beq k n with
    | true => true
    | false => memN n r
theorem memN_iff {n : Nat} : ∀ {l : List Nat}, memN n l = true ↔ n ∈ l
  | [] => by simp [memN]
  | k :: r => by
    simp only [memN]
    cases h : Nat.beq k n
    · have : ¬ n = k := by intro e; subst e; simp at h
      simp [memN_iff, this]
    · simp [Nat.eq_of_beq_eq_true h]
def memF (n : Nat) : Env → Bool
  | [] => false
  | p :: r => match Nat.beq p.1 n with
    | true => true
    | false => memF n r

def dstOK (X : VX) : Option Tmp → Bool
  | none => true
  | some d => match Nat.blt d X.nt with
    | true => !(memF d X.F)
    | false => false
def wsOK (X : VX) (ws : List (Nat × Res)) : Bool := ws.all fun p => !(memN p.1 X.fr)

def bindD : Option Tmp → Value → Env → Env
  | none, _, L => L
  | some d, v, L => (d, v) :: L

/-- is the operation carried out? -/
def guardIs (ops : List Oper) (L : Env) (o : Oper) : Option Bool :=
  match o.guard with
  | none => some true
  | some (g, want) => match ops[g]? with
    | some og => match og.dst with
      | some t => match look L t with
        | some (.bool b) => match b with
          | true => some want
          | false => some (!want)
        | some (.tuple _) => some false
        | _ => none
      | none => none
    | none => none

def obP : Option Prop → Prop → Prop
  | none, q => q
  | some p, q => p ∧ q
theorem obP_ok {ob : Option Prop} {q : Prop} (h : obP ob q) : holdsOb ob ∧ q := by
  cases ob with
  | none => exact ⟨trivial, h⟩
  | some p => exact h

/-- is some operation guarded by that one? -/
def isG (ops : List Oper) (i : Nat) : Bool := ops.any fun o => match o.guard with
  | some (g, _) => Nat.beq g i
  | none => false
/-- one way or the other -/
def ifB (t : Bool) (a b : Prop) : Prop := match t with
  | true => a
  | false => b

/-- a guard's value, one way and the other -/
def splitB (f : Bool) (v : Value) (k : Value → Prop) : Prop :=
  match f with
  | false => k v
  | true => match v with
    | .bool b => ifB b (k (.bool true)) (k (.bool false))
    | v => k v
theorem splitB_ok {f : Bool} {v : Value} {k : Value → Prop} (h : splitB f v k) : k v := by
  cases f with
  | false => exact h
  | true => cases v with
    | bool b => cases b <;> exact h
    | _ => exact h

def vcS (X : VX) (ops : List Oper) : List Oper → Nat → List Res → Env → (List Res → Env → Prop) → Prop
  | [], _, rs, L, K => K rs L
  | o :: rest, i, rs, L, K => match dstOK X o.dst with
    | false => False
    | true => match guardIs ops L o with
      | none => False
      | some false => vcS X ops rest (i + 1) rs (bindD o.dst (.tuple #[]) L) K
      | some true => match qop X.P X.exts rs (opnd L) o.op with
        | some (ob, v) => obP ob (splitB (isG ops i) v fun v => vcS X ops rest (i + 1) rs (bindD o.dst v L) K)
        | none => match eop X.P rs (opnd L) rs.length o.op with
          | some (ob, v, ws) => match wsOK X ws with
            | true => obP ob (vcS X ops rest (i + 1) (puts rs ws) (bindD o.dst v L) K)
            | false => False
          | none => match X.cop rs (opnd L) rs.length o.op with
            | some ci => ci.sp fun v ws => match wsOK X ws with
              | true => vcS X ops rest (i + 1) (puts rs ws) (bindD o.dst v L) K
              | false => False
            | none => False

/-- what a call's end says -/
def CallEnd (w0 : World) (M : List Nat) (rs : List Res) (hs : Hs) (n : Nat) (wr : List Nat) (K : Value → List (Nat × Res) → Prop) : Ending → World → Prop
  | .returned v, w' => ∃ c ws hs', K c ws ∧ VR2 (puts rs ws) hs' v c ∧ Heap w0 M (puts rs ws) hs' w' ∧ Maps some rs (puts rs ws) hs hs' ∧
      (∀ i, i < n → hs' i = hs i) ∧ ∀ p, p ∈ ws → p.1 ∈ wr ∨ n ≤ p.1
  | _, _ => False

/-- the calls are as the contracts say -/
structure CopOK (X : VX) : Prop where
  run : ∀ {rs : List Res} {ρ : Operand → Option Value} {n : Nat} {o : Oper} {ci : CallI} {e : Operand → Value} {hs : Hs} {w0 w : World} {M : List Nat} {K : Value → List (Nat × Res) → Prop},
    X.cop rs ρ n o.op = some ci → Heap w0 M rs hs w → (∀ v, e (.const v) = v) → (∀ f, e (.func f) = .func (.func f) #[] #[]) → (∀ x c, ρ x = some c → VR2 rs hs (e x) c) → (∀ k, n ≤ k → hs k = none) → ci.sp K →
    ∃ f args, (execOp e o).run X.P w = .ok (.enter f args) w ∧ Calls X.P f args w (CallEnd w0 M rs hs n ci.wr K)
  congr : ∀ {rs rs' : List Res} {ρ ρ' : Operand → Option Value} {n : Nat} {op : Op} {ci : CallI},
    X.cop rs ρ n op = some ci → (∀ x, x ∈ op.operands.toList → ρ x = ρ' x) → (∀ k, k ∈ ci.tch → Same rs rs' k) → X.cop rs' ρ' n op = some ci
  ext : ∀ p, p ∈ X.exts → ExtFact X.P p.1 p.2

/-- what stays has stayed -/
structure Stay (X : VX) (rs : List Res) (L : Env) : Prop where
  env : ∀ t, memF t X.F = true → look L t = look X.F t
  res : ∀ k, memN k X.fr = true → rs[k]? = X.FR[k]?
  len : X.nin ≤ rs.length

/-- the state, seen from outside -/
structure St (X : VX) (w0 : World) (M : List Nat) (hs0 : Hs) (rs : List Res) (L : Env) (a : Act) (w : World) : Prop where
  ex : ∃ hs, Heap w0 M rs hs w ∧ (∀ t c, look L t = some c → VR2 rs hs (a.tmps.getD t undef) c) ∧ ∀ i, i < X.nin → hs i = hs0 i
  stay : Stay X rs L
  size : a.tmps.size = X.nt
  defers : a.defers = []

theorem look_bindD {dst : Option Tmp} {v : Value} {L : Env} {t : Nat} : look (bindD dst v L) t = if dst = some t then some v else look L t := by
  cases dst with
  | none => simp [bindD]
  | some d =>
    simp only [bindD, look]
    cases h : Nat.beq d t
    · have : ¬ d = t := by intro e; subst e; simp at h
      simp [this]
    · simp [Nat.eq_of_beq_eq_true h]

theorem puts_getElem? {k : Nat} : ∀ {ws : List (Nat × Res)} {rs : List Res}, k < rs.length → (∀ p, p ∈ ws → p.1 ≠ k) → (puts rs ws)[k]? = rs[k]?
  | [], rs, _, _ => rfl
  | (j, r) :: t, rs, hk, h => by
    simp only [puts]
    rw [puts_getElem? (by rw [put_length]; omega) fun p hp => h p (by simp [hp])]
    exact (put_ne rs j r k (fun e => h (j, r) (by simp) e.symm)).resolve_right (by omega)
theorem puts_length : ∀ {ws : List (Nat × Res)} {rs : List Res}, rs.length ≤ (puts rs ws).length
  | [], rs => Nat.le_refl _
  | (j, r) :: t, rs => by
    simp only [puts]
    have := puts_length (ws := t) (rs := put rs j r)
    rw [put_length] at this
    omega

theorem Stay.step {X : VX} {rs : List Res} {L : Env} (h : Stay X rs L) (hfr : ∀ k, memN k X.fr = true → k < X.nin) {dst : Option Tmp} {v : Value} {ws : List (Nat × Res)} (hd : dstOK X dst = true) (hw : wsOK X ws = true) : Stay X (puts rs ws) (bindD dst v L) := by
  refine ⟨fun t ht => ?_, fun k hk => ?_, Nat.le_trans h.len puts_length⟩
  · rw [look_bindD]
    by_cases e : dst = some t
    · subst e
      unfold dstOK at hd
      dsimp only at hd
      split at hd
      · rw [ht] at hd; cases hd
      · cases hd
    · rw [if_neg e]; exact h.env t ht
  · rw [puts_getElem? (Nat.lt_of_lt_of_le (hfr k hk) h.len) fun p hp e => ?_]
    · exact h.res k hk
    · have := List.all_eq_true.1 hw p hp
      rw [e, hk] at this
      cases this

theorem put_tmps {a : Act} {dst : Option Tmp} {v : Value} {n t : Nat} (hs : a.tmps.size = n) (hd : ∀ d, dst = some d → d < n) : (a.put dst v).tmps.getD t undef = if dst = some t then v else a.tmps.getD t undef := by
  cases dst with
  | none => simp [Act.put]
  | some d =>
    have hdn := hd d rfl
    simp only [Act.put, Option.some.injEq]
    by_cases e : d = t
    · subst e
      simp [Array.getD_eq_getD_getElem?, Array.getElem?_setIfInBounds, hs, hdn]
    · simp [Array.getD_eq_getD_getElem?, Array.getElem?_setIfInBounds, e]
theorem put_size {a : Act} {dst : Option Tmp} {v : Value} : (a.put dst v).tmps.size = a.tmps.size := by
  cases dst <;> simp [Act.put]
theorem put_defers {a : Act} {dst : Option Tmp} {v : Value} : (a.put dst v).defers = a.defers := by
  cases dst <;> rfl

theorem dstOK_lt {X : VX} {dst : Option Tmp} (h : dstOK X dst = true) : ∀ d, dst = some d → d < X.nt := by
  intro d e
  subst e
  unfold dstOK at h
  dsimp only at h
  split at h
  · rename_i h1; simp only [Nat.blt_eq] at h1; exact h1
  · cases h

/-- a slot of the frame is written -/
theorem env_put {X : VX} {rs rs' : List Res} {hs hs' : Hs} {L : Env} {a : Act} {dst : Option Tmp} {v c : Value} (m : Maps some rs rs' hs hs') (hd : dstOK X dst = true) (hs0 : a.tmps.size = X.nt)
    (hL : ∀ t c, look L t = some c → VR2 rs hs (a.tmps.getD t undef) c) (hv : VR2 rs' hs' v c) : ∀ t d, look (bindD dst c L) t = some d → VR2 rs' hs' ((a.put dst v).tmps.getD t undef) d := by
  intro t d ht
  rw [put_tmps hs0 (dstOK_lt hd)]
  rw [look_bindD] at ht
  by_cases e : dst = some t
  · rw [if_pos e] at ht ⊢; cases ht; exact hv
  · rw [if_neg e] at ht ⊢; exact (hL t d ht).grow m

/-- a guard, as the machine sees it -/
theorem wanted_of {rs : List Res} {hs : Hs} {ops : Array Oper} {L : Env} {a : Act} {o : Oper} {b : Bool} (hL : ∀ t c, look L t = some c → VR2 rs hs (a.tmps.getD t undef) c)
    (h : guardIs ops.toList L o = some b) : Region.wanted o (yielded ops a.tmps) = b := by
  unfold guardIs at h
  unfold Region.wanted
  split at h
  · rename_i e; rw [e]; simpa using h
  · rename_i g want e
    rw [e]
    dsimp only
    split at h
    · rename_i og hog
      split at h
      · rename_i t ht
        split at h
        · rename_i b' hb'
          have := hL t _ hb'
          have h1 : a.tmps.getD t undef = .bool b' := bool_of_VR this
          have h2 : a.tmps[t]? = some (.bool b') := by
            rw [Array.getD_eq_getD_getElem?] at h1
            cases h3 : a.tmps[t]? with
            | none => rw [h3] at h1; exact absurd h1 (by simp [undef])
            | some x => rw [h3] at h1; simpa using h1
          have h4 : ops[g]? = some og := by simpa using hog
          have : yielded ops a.tmps g = some b' := by
            unfold yielded
            rw [h4]
            simp [ht, h2]
          rw [this]
          cases b' <;> cases want <;> simp at h <;> subst h <;> rfl
        · rename_i cs' hb'
          obtain ⟨ds, h1, _⟩ := hL t _ hb'
          have h4 : ops[g]? = some og := by simpa using hog
          have : yielded ops a.tmps g = none := by
            unfold yielded
            rw [h4]
            rw [Array.getD_eq_getD_getElem?] at h1
            cases h3 : a.tmps[t]? with
            | none => simp [ht, h3]
            | some x =>
              rw [h3] at h1
              have h5 : x = .tuple ds := by simpa using h1
              subst h5
              simp [ht, h3]
          rw [this]
          simp at h
          subst h
          cases want <;> rfl
        · cases h
      · cases h
    · cases h

section
variable {X : VX} {ops : Array Oper} {w0 : World} {M : List Nat} {hs0 : Hs} {Q : Exit → Act → World → Prop}

theorem getD_eval {a : Act} (v : Value) : a.eval (.const v) = v := rfl

theorem opnd_eval {rs : List Res} {hs : Hs} {L : Env} {a : Act} (hL : ∀ t c, look L t = some c → VR2 rs hs (a.tmps.getD t undef) c) : ∀ x c, opnd L x = some c → VR2 rs hs (a.eval x) c := fun _ _ h => opnd_ok hL h

theorem upon_of {x : Next} {v : Value} {o : Oper} {a : Act} {w' : World} {K : Act → World → Prop} (hx : x = .value v ∨ (x = .skip ∧ v = undef)) (h : K (a.put o.dst v) w') : o.upon X.P a K Q (.ok x w') := by
  rcases hx with rfl | ⟨rfl, rfl⟩ <;> exact h

theorem vcS_ok (C : CopOK X) (hfr : ∀ k, memN k X.fr = true → k < X.nin) : ∀ (rest : List Oper) (i : Nat) (rs : List Res) (L : Env) (K : List Res → Env → Prop) (a : Act) (w : World), ops.toList.drop i = rest → vcS X ops.toList rest i rs L K → St X w0 M hs0 rs L a w →
    (∀ rs L a w, K rs L → St X w0 M hs0 rs L a w → Q .normal a w) → wpOps X.P ops Q (List.range' i rest.length) a w
  | [], i, rs, L, K, a, w, _, h, S, hK => hK rs L a w h S
  | o :: rest, i, rs, L, K, a, w, he, h, S, hK => by
    have hi : ops[i]? = some o := by
      have : ops.toList[i]? = some o := by rw [← List.head?_drop, he]; rfl
      simpa using this
    have he' : ops.toList.drop (i + 1) = rest := by rw [← List.drop_drop, he]; rfl
    obtain ⟨hs, H, hL, h0⟩ := S.ex
    simp only [List.length_cons, List.range'_succ, wpOps, hi]
    simp only [vcS] at h
    split at h
    · exact h.elim
    rename_i hd
    have go : ∀ {rs' : List Res} {hs' : Hs} {v c : Value} {w' : World} {ws : List (Nat × Res)}, rs' = puts rs ws → wsOK X ws = true → Maps some rs rs' hs hs' → (∀ i, i < X.nin → hs' i = hs i) → Heap w0 M rs' hs' w' → VR2 rs' hs' v c →
        vcS X ops.toList rest (i + 1) rs' (bindD o.dst c L) K → wpOps X.P ops Q (List.range' (i + 1) rest.length) (a.put o.dst v) w' := by
      intro rs' hs' v c w' ws e hw m hn H' hv hvc
      subst e
      refine vcS_ok C hfr rest (i + 1) _ _ K _ _ he' hvc ⟨⟨hs', H', env_put m hd S.size hL hv, fun i hi => (hn i hi).trans (h0 i hi)⟩, S.stay.step hfr hd hw, by rw [put_size]; exact S.size, by rw [put_defers]; exact S.defers⟩ hK
    split at h
    · exact h.elim
    · rename_i hg
      rw [if_neg (by rw [wanted_of hL hg]; exact Bool.false_ne_true)]
      exact go (ws := []) rfl rfl (fun k k' h e hk => by cases e; exact ⟨hk, fun r n hr hn => ⟨r, hr, hn⟩⟩) (fun _ _ => rfl) H (show VR2 _ _ undef (.tuple #[]) from ⟨#[], rfl, LR.nil⟩) h
    · rename_i hg
      rw [if_pos (wanted_of hL hg)]
      left
      unfold Oper.wp
      split at h
      · rename_i ob v hq
        obtain ⟨hob, h⟩ := obP_ok h
        have h := splitB_ok h
        obtain ⟨u, n, h1, h2⟩ := qop_ok (e := a.eval) C.ext H (fun _ => rfl) (fun _ => rfl) (opnd_eval hL) hq hob
        rw [h1]
        exact go (ws := []) rfl rfl (fun k k' h e hk => by cases e; exact ⟨hk, fun r n hr hn => ⟨r, hr, hn⟩⟩) (fun _ _ => rfl) (H.drewN n) h2 h
      · split at h
        · rename_i ob v ws hq
          split at h
          · rename_i hw
            obtain ⟨hob, h⟩ := obP_ok h
            obtain ⟨x, u, w', hs', h1, h2, h3, h4, h5, h6⟩ := (eop_ok (e := a.eval) H (opnd_eval hL) (fun _ => H.fresh _ (Nat.le_refl _)) hq hob).1
            rw [h1]
            refine upon_of (X := X) h2 (go rfl hw h5 (fun i hi => h6 i ?_) h4 h3 h)
            have := S.stay.len
            omega
          · exact h.elim
        · split at h
          · rename_i ci hc
            obtain ⟨f, args, h1, h2⟩ := C.run (e := a.eval) hc H (fun _ => rfl) (fun _ => rfl) (opnd_eval hL) (fun k hk => H.fresh k hk) h
            rw [h1]
            refine Calls.mono h2 fun e w' he => ?_
            cases e with
            | returned u =>
              obtain ⟨c, ws, hs', k1, k2, k3, k4, k5, k6⟩ := he
              split at k1
              · rename_i hw
                exact go rfl hw k4 (fun i hi => k5 i (by have := S.stay.len; omega)) k3 k2 k1
              · exact k1.elim
            | panicked _ => exact he.elim
            | outgrown => exact he.elim
          · exact h.elim

/-- a region without a draw -/
theorem wp_vcS (C : CopOK X) (hfr : ∀ k, memN k X.fr = true → k < X.nin) {id : Nat} {rs : List Res} {L : Env} {K : List Res → Env → Prop} {a : Act} {w : World} (h : vcS X ops.toList ops.toList 0 rs L K) (S : St X w0 M hs0 rs L a w)
    (hK : ∀ rs L a w, K rs L → St X w0 M hs0 rs L a w → Q .normal a w) : (Code.region id ops false).wp X.P Q a w := by
  refine wp_region ?_
  have := vcS_ok C hfr ops.toList 0 rs L K a w rfl h S hK
  rw [List.range_eq_range']
  simpa using this

end
end Go.K
