/- A function's text, walked. -/
import Derived.Test.YtblejagpndbicaaK15
import Derived.LoopN
set_option linter.unusedSimpArgs false
set_option linter.unusedVariables false
namespace Go.K

/-- what is told of a text ahead: where the ways join, what a round's state is -/
inductive Ann where
  | leaf
  | seq (a b : Ann)
  | cond (a b : Ann)
  | condJ (sh : Sh) (a b : Ann)
  | block (a : Ann)
  | blockJ (sh : Sh) (a : Ann)
  | loop (sh : Sh) (a : Ann)
  | unroll (n : Nat) (a : Ann)

abbrev KT := List Res → Env → Prop
def lookK : Nat → List (Nat × KT) → Option KT
  | _, [] => none
  | n, p :: r => match Nat.beq p.1 n with
    | true => some p.2
    | false => lookK n r

/-- ways that join: what is said of the join is said once -/
def joinV (X : VX) (sh : Sh) (K : KT) (body : KT → Prop) : Prop :=
  ∀ J : Cur sh.tys, AllC sh.tys (fun lv => putS X sh K lv → app sh.tys J lv) → body (getS X sh (app sh.tys J))

def vcU (step : KT → KT) : Nat → KT
  | 0 => fun _ _ => False
  | n + 1 => step (vcU step n)

def vc (X : VX) (ret : KT) : Code → Ann → List (Nat × KT) → KT → KT
  | .skip, _, _, K => K
  | .region _ ops d, _, _, K => fun rs L => vcR X ops.toList d rs L K
  | .seq a b, an, ex, K => match an with
    | .seq x y => vc X ret a x ex (vc X ret b y ex K)
    | _ => vc X ret a .leaf ex (vc X ret b .leaf ex K)
  | .cond c a b, an, ex, K => fun rs L => match opnd L c with
    | some v => match v with
      | .bool t => match an with
        | .cond x y => ifB t (vc X ret a x ex K rs L) (vc X ret b y ex K rs L)
        | .condJ sh x y => joinV X sh K fun J => ifB t (vc X ret a x ex J rs L) (vc X ret b y ex J rs L)
        | _ => ifB t (vc X ret a .leaf ex K rs L) (vc X ret b .leaf ex K rs L)
      | _ => False
    | none => False
  | .block id a, an, ex, K => match an with
    | .block x => vc X ret a x ((id, K) :: ex) K
    | .blockJ sh x => fun rs L => joinV X sh K fun J => vc X ret a x ((id, J) :: ex) J rs L
    | _ => vc X ret a .leaf ((id, K) :: ex) K
  | .loop a, an, ex, K => match an with
    | .loop sh x => fun rs L => ∀ J : Cur sh.tys, AllC sh.tys (fun lv => putS X sh (vc X ret a x ex (getS X sh (app sh.tys J))) lv → app sh.tys J lv) → getS X sh (app sh.tys J) rs L
    | .unroll n x => vcU (fun K' => vc X ret a x ex K') n
    | _ => fun _ _ => False
  | .exit id, _, ex, K => match lookK id ex with
    | some K' => K'
    | none => fun _ _ => False
  | .ret, _, _, _ => ret
  | _, _, _, _ => fun _ _ => False

section
variable {X : VX} {w0 : World} {M : List Nat} {hs0 : Hs}

theorem AllC_typed {ts : List LT} {p : List LV → Prop} (h : ∀ l, app ts (lam ts fun _ => True) l → p l) : AllC ts p := by
  induction ts generalizing p with
  | nil => exact h [] trivial
  | cons t r ih =>
    intro x
    refine ih fun l hl => h _ ?_
    have e : LV.get t (LV.of t x) = some x := by cases t <;> rfl
    show app (t :: r) (lam (t :: r) fun _ => True) (LV.of t x :: l)
    simp only [app, e, lam]
    exact hl

/-- the state, seen from outside, is as a law says -/
def Sat (X : VX) (w0 : World) (M : List Nat) (hs0 : Hs) (K : KT) (a : Act) (w : World) : Prop := ∃ rs L, K rs L ∧ St X w0 M hs0 rs L a w

theorem getS_app (XO : XOK X hs0) {sh : Sh} {p : List LV → Prop} {rs : List Res} {L : Env} {a : Act} {w : World} (h : getS X sh (app sh.tys (lam sh.tys p)) rs L) (S : St X w0 M hs0 rs L a w) :
    ∃ lv vals rin, p lv ∧ emb X.FR sh.sv sh.sr lv = some (vals, rin) ∧ St X w0 M hs0 rin (zipE sh.ts vals X.F) a w := by
  obtain ⟨lv, vals, rin, h1, h2, h3⟩ := getS_ok XO h S
  exact ⟨lv, vals, rin, app_lam h1, h2, h3⟩

theorem joinV_ok (XO : XOK X hs0) {sh : Sh} {K : KT} {body : KT → Prop} (h : joinV X sh K body) : ∃ J : KT, body J ∧ ∀ rs L a w, J rs L → St X w0 M hs0 rs L a w → ∃ rs' L', K rs' L' ∧ St X w0 M hs0 rs' L' a w := by
  refine ⟨_, h (lam sh.tys (putS X sh K)) (AllC_typed fun lv ht hp => app_of ht hp), fun rs L a w hJ S => ?_⟩
  obtain ⟨lv, vals, rin, h1, h2, h3⟩ := getS_app XO hJ S
  unfold putS at h1
  rw [h2] at h1
  exact ⟨rin, _, h1, h3⟩

/-- a round after another -/
def LW (P : Program) (c : Code) (Q : Exit → Act → World → Prop) (a : Act) (w : World) : Prop :=
  ∀ (b : Frame) (k : List Item) (cs : List Frame), ∃ e a' w', Q e a' w' ∧ Arrives P (lone (b.at a (.code c :: .inLoop c :: k)) cs w) b k cs e a' w'
theorem LW.round {P : Program} {c : Code} {Q : Exit → Act → World → Prop} {a : Act} {w : World} (h : c.wp P (Exit.then (LW P c Q) Q) a w) : LW P c Q a w := by
  intro b k cs
  obtain ⟨e, a₁, w₁, hq, harr⟩ := h b (.inLoop c :: k) cs
  cases e with
  | normal =>
    obtain ⟨e₂, a₂, w₂, hq₂, harr₂⟩ := hq b k cs
    exact ⟨e₂, a₂, w₂, hq₂, .of_steps (Steps.trans harr (.one step_inLoop)) harr₂⟩
  | exit id => exact ⟨_, a₁, w₁, hq, .pass (x := .inLoop c) rfl (fun _ _ => .inl (by simp)) harr⟩
  | goto l => exact ⟨_, a₁, w₁, hq, .pass (x := .inLoop c) rfl (fun _ _ => .inl (by simp)) harr⟩
  | ret => exact ⟨_, a₁, w₁, hq, .pass (x := .inLoop c) rfl (fun _ _ => .inl (by simp)) harr⟩
  | panic ch => exact ⟨_, a₁, w₁, hq, .pass (x := .inLoop c) rfl (fun _ _ => .inl (by simp)) harr⟩
  | outgrown => exact ⟨_, a₁, w₁, hq, .pass (x := .inLoop c) rfl (fun _ _ => .inl (by simp)) harr⟩
theorem LW.loop {P : Program} {c : Code} {Q : Exit → Act → World → Prop} {a : Act} {w : World} (h : LW P c Q a w) : (Code.loop c).wp P Q a w := by
  intro b k cs
  obtain ⟨e, a', w', hq, harr⟩ := h b k cs
  exact ⟨e, a', w', hq, .of_steps (.one step_loop) harr⟩

theorem vc_ok (C : CopOK X) (XO : XOK X hs0) (hm : X.P.follows .mixedOrders = true) {ret : KT} : ∀ (c : Code) (an : Ann) (ex : List (Nat × KT)) (K : KT) (Q : Exit → Act → World → Prop) (rs : List Res) (L : Env) (a : Act) (w : World),
    vc X ret c an ex K rs L → St X w0 M hs0 rs L a w → (∀ rs L a w, K rs L → St X w0 M hs0 rs L a w → Q .normal a w) →
    (∀ id K', lookK id ex = some K' → ∀ rs L a w, K' rs L → St X w0 M hs0 rs L a w → Q (.exit id) a w) → (∀ rs L a w, ret rs L → St X w0 M hs0 rs L a w → Q .ret a w) → c.wp X.P Q a w := by
  intro c
  induction c with
  | skip => intro an ex K Q rs L a w h S hK _ _; exact wp_skip (hK rs L a w h S)
  | region id ops d => intro an ex K Q rs L a w h S hK _ _; exact wp_vcR C hm XO.fr h S hK
  | seq x y ihx ihy =>
    intro an ex K Q rs L a w h S hK hex hret
    have key : ∀ (an1 an2 : Ann), vc X ret x an1 ex (vc X ret y an2 ex K) rs L → (Code.seq x y).wp X.P Q a w := fun an1 an2 h =>
      wp_seq (ihx an1 ex _ _ rs L a w h S (fun rs L a w h S => ihy an2 ex K Q rs L a w h S hK hex hret) hex hret)
    cases an <;> exact key _ _ h
  | cond c x y ihx ihy =>
    intro an ex K Q rs L a w h S hK hex hret
    simp only [vc] at h
    split at h
    case h_2 => exact h.elim
    rename_i v hv
    split at h
    case h_2 => exact h.elim
    rename_i t
    obtain ⟨hs, H, hL, h0⟩ := S.ex
    have hc := bool_of_VR (opnd_eval hL _ _ hv)
    have key : ∀ (an1 an2 : Ann) (K' : KT), ifB t (vc X ret x an1 ex K' rs L) (vc X ret y an2 ex K' rs L) → (∀ rs L a w, K' rs L → St X w0 M hs0 rs L a w → Q .normal a w) → (Code.cond c x y).wp X.P Q a w := by
      intro an1 an2 K' h hK'
      refine wp_cond hc ?_
      cases t
      · exact ihy an2 ex K' Q rs L a w h S hK' hex hret
      · exact ihx an1 ex K' Q rs L a w h S hK' hex hret
    cases an with
    | cond x y => exact key x y K h hK
    | condJ sh x y =>
      obtain ⟨J, h1, h2⟩ := joinV_ok (w0 := w0) (M := M) XO h
      refine key x y J h1 fun rs L a w hJ S => ?_
      obtain ⟨rs', L', h3, h4⟩ := h2 rs L a w hJ S
      exact hK rs' L' a w h3 h4
    | _ => exact key .leaf .leaf K h hK
  | block id x ih =>
    intro an ex K Q rs L a w h S hK hex hret
    have key : ∀ (an1 : Ann) (K' : KT), vc X ret x an1 ((id, K') :: ex) K' rs L → (∀ rs L a w, K' rs L → St X w0 M hs0 rs L a w → Q .normal a w) → (Code.block id x).wp X.P Q a w := by
      intro an1 K' h hK'
      refine wp_block (ih an1 ((id, K') :: ex) K' _ rs L a w h S hK' (fun id' K'' he rs L a w h S => ?_) hret)
      simp only [lookK] at he
      split at he
      · rename_i hb
        cases he
        have e := Nat.eq_of_beq_eq_true hb
        simp only [Exit.inBlock, e, if_true]
        exact hK' rs L a w h S
      · rename_i hb
        have e : ¬ id' = id := by intro e; subst e; simp at hb
        simp only [Exit.inBlock, e, if_false]
        exact hex id' K'' he rs L a w h S
    cases an with
    | block x => exact key x K h hK
    | blockJ sh y =>
      have h : joinV X sh K fun J => vc X ret x y ((id, J) :: ex) J rs L := h
      obtain ⟨J, h1, h2⟩ := joinV_ok (w0 := w0) (M := M) XO h
      refine key y J h1 fun rs L a w hJ S => ?_
      obtain ⟨rs', L', h3, h4⟩ := h2 rs L a w hJ S
      exact hK rs' L' a w h3 h4
    | _ => exact key .leaf K h hK
  | loop x ih =>
    intro an ex K Q rs L a w h S hK hex hret
    cases an with
    | loop sh an1 =>
      simp only [vc] at h
      have h := h (lam sh.tys fun lv => ∀ vals rin, emb X.FR sh.sv sh.sr lv = some (vals, rin) → ∀ a w, St X w0 M hs0 rin (zipE sh.ts vals X.F) a w → LW X.P x Q a w) (AllC_typed fun lv ht hp => app_of ht ?_)
      · obtain ⟨lv, vals, rin, h1, h2, h3⟩ := getS_app XO h S
        exact (h1 vals rin h2 a w h3).loop
      · intro vals rin he a w S
        unfold putS at hp
        rw [he] at hp
        refine LW.round (ih an1 ex _ _ _ _ a w hp S (fun rs L a w hJ S => ?_) hex hret)
        obtain ⟨lv, vals, rin, h1, h2, h3⟩ := getS_app XO hJ S
        exact h1 vals rin h2 a w h3
    | unroll n an1 =>
      refine wp_loop_rounds n ?_
      have : ∀ (n : Nat) (rs : List Res) (L : Env) (a : Act) (w : World), vcU (fun K' => vc X ret x an1 ex K') n rs L → St X w0 M hs0 rs L a w → Code.rounds X.P x Q n a w := by
        intro n
        induction n with
        | zero => intro rs L a w h; exact h.elim
        | succ n ihn =>
          intro rs L a w h S
          rw [rounds_succ]
          exact ih an1 ex _ _ rs L a w h S (fun rs L a w h S => ihn rs L a w h S) hex hret
      exact this n rs L a w h S
    | _ => exact (h : False).elim
  | rangeFunc _ _ _ _ _ _ => intro an ex K Q rs L a w h; exact (h : False).elim
  | exit id =>
    intro an ex K Q rs L a w h S hK hex hret
    simp only [vc] at h
    cases he : lookK id ex with
    | none => rw [he] at h; exact h.elim
    | some K' => rw [he] at h; exact wp_exit (hex id K' he rs L a w h S)
  | scope _ _ => intro an ex K Q rs L a w h; exact (h : False).elim
  | label _ => intro an ex K Q rs L a w h; exact (h : False).elim
  | goto _ => intro an ex K Q rs L a w h; exact (h : False).elim
  | ret => intro an ex K Q rs L a w h S hK hex hret; exact wp_ret (hret rs L a w h S)
  | refuse _ => intro an ex K Q rs L a w h; exact (h : False).elim

end
end Go.K
