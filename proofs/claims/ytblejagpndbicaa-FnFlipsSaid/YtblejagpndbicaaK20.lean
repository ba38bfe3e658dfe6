/- Functions: a walk is a contract. -/
import Derived.Test.YtblejagpndbicaaK19
set_option linter.unusedSimpArgs false
set_option linter.unusedVariables false
namespace Go.K
open Go.RowKit

section
variable {P : Program}

theorem VRa.two {rs : List Res} {hs : Hs} {v c : Value} (h : VRa rs hs v c) : VR2 rs hs v c := VR1.two (VR1.ofa h)

theorem callF_congr {rs rs' : List Res} {n : Nat} {f : FuncId} {vals : List Value} {ci : CallI} : ∀ {ks : List Ctr}, callF rs n f vals ks = some ci → (∀ k, k ∈ ci.tch → Same rs rs' k) → callF rs' n f vals ks = some ci
  | [], h, _ => by cases h
  | k :: r, h, hk => by
    simp only [callF] at h ⊢
    split at h
    · exact callF_congr h hk
    · split at h
      · unfold callK at h ⊢
        split at h
        · cases h
        split at h
        · cases h
        rename_i lv B hdec
        split at h
        · cases h
        rename_i cargs rin hemb
        cases h
        rw [dec_congr hdec hk]
        dsimp only
        rw [hemb]
      · exact callF_congr h hk

theorem callF_ok {w0 w : World} {M : List Nat} {rs : List Res} {hs : Hs} (H : Heap w0 M rs hs w) {f : FuncId} {vs vals : List Value} {n : Nat} {ci : CallI} {K : Value → List (Nat × Res) → Prop} (hvs : LR (VR2 rs hs) vs vals) (hn : ∀ i, n ≤ i → hs i = none) :
    ∀ {ks : List Ctr}, (∀ k, k ∈ ks → CtrOK P k) → callF rs n f vals ks = some ci → ci.sp K → ∃ k, k ∈ ks ∧ k.f = f ∧ Calls P f vs.toArray w (CallEnd w0 M rs hs n ci.wr K)
  | [], _, h, _ => by cases h
  | k :: r, hks, h, hsp => by
    simp only [callF] at h
    split at h
    · obtain ⟨k', h1, h2⟩ := callF_ok H hvs hn (fun k hk => hks k (by simp [hk])) h hsp
      exact ⟨k', by simp [h1], h2⟩
    · rename_i hb
      have hf := Nat.eq_of_beq_eq_true hb
      split at h
      · refine ⟨k, by simp, hf, ?_⟩
        rw [← hf]
        exact call_ok H (hks k (by simp)) hvs hn h hsp
      · obtain ⟨k', h1, h2⟩ := callF_ok H hvs hn (fun k hk => hks k (by simp [hk])) h hsp
        exact ⟨k', by simp [h1], h2⟩

/-- calls by contracts are calls -/
theorem copOf_ok {X : VX} {ks : List Ctr} (hX : X.cop = copOf ks) (hks : ∀ k, k ∈ ks → CtrOK X.P k) (hext : ∀ p, p ∈ X.exts → ExtFact X.P p.1 p.2) : CopOK X where
  ext := hext
  congr := by
    intro rs rs' ρ ρ' n op ci h hρ hk
    rw [hX] at h ⊢
    cases op <;> simp only [copOf] at h ⊢ <;> first | (cases h; done) | skip
    rename_i c
    split at h <;> first | (cases h; done) | skip
    rename_i x hx
    have hx' : ρ x = ρ' x := hρ x (by simp [Op.operands, Call.operands, hx])
    have ha : all1 ρ c.args.toList = all1 ρ' c.args.toList := all1_congr fun y hy => hρ y (by simp [Op.operands, Call.operands]; exact .inr (by simpa using hy))
    rw [← hx', ← ha]
    split at h <;> first | (cases h; done) | skip
    split at h <;> first | (cases h; done) | skip
    split at h <;> first | (cases h; done) | skip
    split at h <;> first | (cases h; done) | skip
    exact callF_congr h hk
  run := by
    intro rs ρ n o ci e hs w0 w M K h H hc hf hρ hn hsp
    rw [hX] at h
    cases hop : o.op <;> rw [hop] at h <;> simp only [copOf] at h <;> first | (cases h; done) | skip
    rename_i c
    split at h <;> first | (cases h; done) | skip
    rename_i x hx
    split at h <;> first | (cases h; done) | skip
    rename_i v hv
    split at h <;> first | (cases h; done) | skip
    rename_i g first caps
    split at h <;> first | (cases h; done) | skip
    rename_i f
    split at h <;> first | (cases h; done) | skip
    rename_i args hargs
    obtain ⟨fs, ds, e1, hl1, hl2⟩ := hρ _ _ hv
    have hl := all1_ok hρ hargs
    have hvs : LR (VR2 rs hs) (fs.toList ++ c.args.toList.map e ++ ds.toList) (first.toList ++ args ++ caps.toList) :=
      ((hl1.mono fun _ _ _ h => VRa.two h).append hl).append (hl2.mono fun _ _ _ h => VRa.two h)
    obtain ⟨k, k1, k2, k3⟩ := callF_ok H hvs hn hks h hsp
    refine ⟨f, (fs.toList ++ c.args.toList.map e ++ ds.toList).toArray, ?_, k3⟩
    have := (hks k k1).enter (fs.toList ++ c.args.toList.map e ++ ds.toList).toArray w
    rw [k2] at this
    have ea : (c.args.map e) = (c.args.toList.map e).toArray := by rw [← Array.toList_map]
    have ee : fs ++ (c.args.map e) ++ ds = (fs.toList ++ c.args.toList.map e ++ ds.toList).toArray := by
      apply Array.toList_inj.1; simp
    unfold execOp
    simp only [hop, resolve, hx, e1, Deferred.ofValue, invoke, Sem.run_bind, Sem.run_pure, Result.andThen_ok]
    rw [ee]
    exact this

/-! ### functions -/
/-- the results' values -/
def resV (P : Program) (rs : List Res) (L : Env) : List ResultVar → Option (List Value)
  | [] => some []
  | r :: t => match (match r with
    | .tmp x => look L x
    | .cell a T => match look L a with
      | some v => match qLoad P rs T v with
        | some (_, c) => some c
        | none => none
      | none => none) with
    | some c => match resV P rs L t with
      | some cs => some (c :: cs)
      | none => none
    | none => none
def resC (l : List Value) : Option Value :=
  match l with
  | [c] => some c
  | l => match l.all (fun c => match c with
    | .tuple _ => false
    | _ => true) with
    | true => some (.tuple l.toArray)
    | false => none

/-- shapes of arguments and results -/
structure Sig where
  f : FuncId
  isv : List S2
  isr : List SR
  itys : List LT
  osv : List S2
  osr : List SR
  otys : List LT
def Sig.sh (g : Sig) : Sh := ⟨[], g.otys, g.osv, g.osr⟩
def Sig.ctr (g : Sig) (W : CurK g.itys g.otys) : Ctr := ⟨g.f, g.isv, g.isr, g.itys, g.osv, g.osr, g.otys, W⟩

/-- the end: the results, by their leaves -/
def retK (X : VX) (g : Sig) (vars : List ResultVar) (K : Cur g.otys) : KT := fun rs L =>
  match resV X.P rs L vars with
  | none => False
  | some cs => match resC cs with
    | none => False
    | some c => match shOK X g.sh && frOK X g.sh with
      | false => False
      | true => match dec X.FR rs (baseL rs g.osr 0 X.nin) g.osv g.osr [c] with
        | none => False
        | some (lv, _) => app g.otys K lv

def readsOf : Nat → List Res → List Nat
  | _, [] => []
  | i, r :: t => match isRead r with
    | true => i :: readsOf (i + 1) t
    | false => readsOf (i + 1) t
def paramsOf : Nat → List Value → Env
  | _, [] => []
  | i, v :: t => (i, v) :: paramsOf (i + 1) t
/-- those parameters that stay -/
def keepF (as : List Nat) : Env → Env
  | [] => []
  | p :: t => match memN p.1 as with
    | true => keepF as t
    | false => p :: keepF as t

/-- what a function's walk takes: as: the parameters that are assigned -/
structure FnI where
  P : Program
  exts : List (FuncId × ExtK)
  ks : List Ctr
  nt : Nat
  vars : List ResultVar
  body : Code
  ann : Ann
  asg : List Nat

def FnI.X (I : FnI) (cargs : List Value) (rin : List Res) : VX := ⟨I.P, I.exts, copOf I.ks, I.nt, keepF I.asg (paramsOf 0 cargs), rin, readsOf 0 rin, rin.length⟩
/-- the law of a function's text -/
def FnI.law (I : FnI) (g : Sig) (lv : List LV) (K : Cur g.otys) : Prop :=
  match emb [] g.isv g.isr lv with
  | none => False
  | some (cargs, rin) => match underF rin.length (paramsOf 0 cargs) && underRs rin.length rin && Nat.ble cargs.length I.nt with
    | false => False
    | true => vc (I.X cargs rin) (retK (I.X cargs rin) g I.vars K) I.body I.ann [] (retK (I.X cargs rin) g I.vars K) rin (paramsOf 0 cargs)

def lamK {outs : List LT} : (ts : List LT) → (List LV → Cur outs → Prop) → CurK ts outs
  | [], p => p []
  | t :: r, p => fun x => lamK r fun l => p (LV.of t x :: l)
theorem appK_lamK {outs : List LT} {K : Cur outs} : ∀ {ts : List LT} {p : List LV → Cur outs → Prop} {l : List LV}, appK outs ts (lamK ts p) l K → p l K
  | [], p, [], h => h
  | [], p, _ :: _, h => h.elim
  | t :: r, p, [], h => h.elim
  | t :: r, p, v :: vs, h => by
    simp only [appK] at h
    split at h
    · rename_i x hx
      rw [LV.get_spec hx]
      exact appK_lamK (p := fun l => p (LV.of t x :: l)) h
    · exact h.elim

/-- the law, leaf by leaf -/
def FnI.W (I : FnI) (g : Sig) : CurK g.itys g.otys := lamK g.itys fun lv K => I.law g lv K

theorem readsOf_spec : ∀ {l : List Res} {i k : Nat}, k ∈ readsOf i l → ∃ (j : Nat) (r : Res), k = i + j ∧ l[j]? = some r ∧ isRead r = true
  | [], i, k, h => by cases h
  | r :: t, i, k, h => by
    simp only [readsOf] at h
    split at h
    · rename_i hr
      rcases List.mem_cons.1 h with rfl | h
      · exact ⟨0, r, rfl, rfl, hr⟩
      · obtain ⟨j, r', e1, e2, e3⟩ := readsOf_spec h
        exact ⟨j + 1, r', by omega, e2, e3⟩
    · obtain ⟨j, r', e1, e2, e3⟩ := readsOf_spec h
      exact ⟨j + 1, r', by omega, e2, e3⟩
theorem look_params {t : Nat} {c : Value} : ∀ {l : List Value} {i : Nat}, look (paramsOf i l) t = some c → i ≤ t ∧ l[t - i]? = some c
  | [], i, h => by cases h
  | v :: r, i, h => by
    simp only [paramsOf, look] at h
    split at h
    · rename_i hb
      cases h
      obtain rfl := Nat.eq_of_beq_eq_true hb
      simp
    · obtain ⟨h1, h2⟩ := look_params h
      refine ⟨by omega, ?_⟩
      have : t - i = t - (i + 1) + 1 := by omega
      rw [this]; simpa using h2
theorem memF_keepF {as : List Nat} {t : Nat} : ∀ {F : Env}, memF t (keepF as F) = true → look F t = look (keepF as F) t ∧ t ∉ as
  | [], h => by cases h
  | p :: r, h => by
    simp only [keepF] at h ⊢
    split at h
    · rename_i hm
      obtain ⟨h1, h2⟩ := memF_keepF h
      refine ⟨?_, h2⟩
      simp only [look]
      split
      · rename_i hb
        obtain rfl := Nat.eq_of_beq_eq_true hb
        exact absurd (memN_iff.1 hm) h2
      · exact h1
    · rename_i hm
      simp only [memF] at h
      simp only [look]
      split at h
      · rename_i hb
        obtain rfl := Nat.eq_of_beq_eq_true hb
        exact ⟨by rw [hb], fun hx => by rw [memN_iff.2 hx] at hm; cases hm⟩
      · rename_i hb
        rw [hb]
        exact memF_keepF h
theorem underF_keepF {as : List Nat} {n : Nat} : ∀ {F : Env}, underF n F = true → underF n (keepF as F) = true
  | [], h => h
  | p :: r, h => by
    simp only [underF] at h
    split at h
    · rename_i h1
      simp only [keepF]
      split
      · exact underF_keepF h
      · simp only [underF, h1]; exact underF_keepF h
    · cases h

/-- a result, as the machine gives it -/
def resM (tmps : Array Value) (r : ResultVar) : Sem Value :=
  match r with
  | .tmp t => pure (tmps.getD t undef)
  | .cell x T => do loadVar T (← asAddr (tmps.getD x undef))

theorem resV_ok {w0 w : World} {M : List Nat} {rs : List Res} {hs : Hs} (H : Heap w0 M rs hs w) {L : Env} {a : Act} (hL : ∀ t c, look L t = some c → VR2 rs hs (a.tmps.getD t undef) c) :
    ∀ {vars : List ResultVar} {cs : List Value}, resV P rs L vars = some cs → ∃ vs, (vars.mapM (resM a.tmps)).run P w = .ok vs w ∧ LR (VR2 rs hs) vs cs
  | [], cs, h => by simp only [resV] at h; cases h; exact ⟨[], rfl, LR.nil⟩
  | r :: t, cs, h => by
    simp only [resV] at h
    split at h
    · rename_i c hc
      split at h
      · rename_i cs' hcs
        cases h
        obtain ⟨vs, h1, h2⟩ := resV_ok H hL hcs
        have key : ∃ v, (resM a.tmps r).run P w = .ok v w ∧ VR2 rs hs v c := by
          cases r with
          | tmp x => exact ⟨_, rfl, hL x c hc⟩
          | cell x T =>
            dsimp only at hc
            split at hc <;> first | (cases hc; done) | skip
            rename_i v hv
            split at hc <;> cases hc
            rename_i ob hq
            obtain ⟨u, p, e1, e2, e3⟩ := qLoad_run (P := P) H (hL x v hv) hq
            exact ⟨u, by simp [resM, e1, asAddr, e2], e3⟩
        obtain ⟨v, h3, h4⟩ := key
        refine ⟨v :: vs, ?_, LR.cons h4 h2⟩
        rw [List.mapM_cons]
        simp [h3, h1]
      · cases h
    · cases h

theorem results_ok {w0 w : World} {M : List Nat} {rs : List Res} {hs : Hs} (H : Heap w0 M rs hs w) {L : Env} {a : Act} (hL : ∀ t c, look L t = some c → VR2 rs hs (a.tmps.getD t undef) c)
    {fn : Func} {cs : List Value} {c : Value} (hcs : resV P rs L fn.results.toList = some cs) (hc : resC cs = some c) : ∃ v, (results fn a.tmps).run P w = .ok v w ∧ VR2 rs hs v c := by
  obtain ⟨vs, h1, h2⟩ := resV_ok (P := P) H hL hcs
  have hrun : (results fn a.tmps).run P w = .ok (if h : vs.toArray.size = 1 then vs.toArray[0] else .tuple vs.toArray) w := by
    have e : results fn a.tmps = (do
      let vs ← fn.results.mapM (resM a.tmps)
      pure (if h : vs.size = 1 then vs[0] else .tuple vs)) := rfl
    rw [e, Array.mapM_eq_mapM_toList]
    simp [h1]
  refine ⟨_, hrun, ?_⟩
  unfold resC at hc
  split at hc
  · cases hc
    obtain ⟨v, vs', rfl, h3, h4⟩ := h2.cons_right
    obtain rfl := h4.nil_right
    simpa using h3
  · rename_i hne
    split at hc
    · rename_i hall
      cases hc
      have hlen : ¬ vs.toArray.size = 1 := by
        intro h
        have : cs.length = 1 := by rw [← h2.1]; simpa using h
        match cs, this with
        | [x], _ => exact hne x rfl
      rw [dif_neg hlen]
      refine ⟨vs.toArray, rfl, ?_⟩
      simp only []
      refine h2.mono fun v u hu hr => ?_
      have := List.all_eq_true.1 hall u hu
      rcases hr.parts with ⟨cs, ds, rfl, _⟩ | ⟨_, hr⟩
      · cases this
      · exact hr
    · cases hc

/-- WHAT THE WALK IS FOR: a function's law is what it does. -/
theorem FnI.ok (I : FnI) (g : Sig) {fn : Func} (hf : I.P.funcs[g.f]? = some fn) (hb : fn.body = some I.body) (hnt : fn.ntmps = I.nt) (hvars : fn.results.toList = I.vars) (hname : (fn.name == "runtime.NumGoroutine") = false)
    (hm : I.P.follows .mixedOrders = true) (hext : ∀ p, p ∈ I.exts → ExtFact I.P p.1 p.2) (hks : ∀ k, k ∈ I.ks → CtrOK I.P k) : CtrOK I.P (g.ctr (I.W g)) where
  enter := by
    intro args w
    show (callFunc g.f args).run I.P w = _
    unfold callFunc
    have e : ∀ w, (program : Sem Program).run I.P w = .ok I.P w := fun _ => rfl
    simp only [Sem.run_bind, e, Result.andThen_ok, hf, hname, hb, Option.isNone_some]
    rfl
  run := by
    intro lv cargs rin hin args M w K hemb hl H hh hlen hW
    have hlaw : I.law g lv (lam g.otys K) := appK_lamK hW
    unfold FnI.law at hlaw
    rw [show emb [] g.isv g.isr lv = some (cargs, rin) from hemb] at hlaw
    dsimp only at hlaw
    split at hlaw
    · exact hlaw.elim
    rename_i hok
    simp only [Bool.and_eq_true] at hok
    obtain ⟨⟨hu1, hu2⟩, hu3⟩ := hok
    have hargs : args.size ≤ fn.ntmps := by
      have h1 := Nat.le_of_ble_eq_true hu3
      have h2 : args.size = cargs.length := hl.toList
      omega
    generalize hX : I.X cargs rin = X at *
    have hXP : X.P = I.P := by rw [← hX]; rfl
    have hXn : X.nin = rin.length := by rw [← hX]; rfl
    have hXfr : X.fr = readsOf 0 rin := by rw [← hX]; rfl
    have hXFR : X.FR = rin := by rw [← hX]; rfl
    have hXF : X.F = keepF I.asg (paramsOf 0 cargs) := by rw [← hX]; rfl
    have hXnt : X.nt = I.nt := by rw [← hX]; rfl
    have C : CopOK X := copOf_ok (ks := I.ks) (by rw [← hX]; rfl) (by rw [hXP]; exact hks) (by rw [hXP, ← hX]; exact hext)
    have hrd : ∀ k, memN k X.fr = true → ∃ r, rin[k]? = some r ∧ isRead r = true := by
      intro k hk
      rw [hXfr] at hk
      obtain ⟨j, r, e1, e2, e3⟩ := readsOf_spec (memN_iff.1 hk)
      rw [Nat.zero_add] at e1
      subst e1
      exact ⟨r, e2, e3⟩
    have XO : XOK X hin := by
      refine ⟨fun i hi => hh i (by rw [hXn, hlen] at hi; exact hi), fun k hk => ?_, fun k r hk hr => ?_, fun k hk => ?_, by rw [hXn, hXFR]; exact hu2, fun t c ht => ?_⟩
      · obtain ⟨r, hr, _⟩ := hrd k hk
        rw [hXn]; exact (List.getElem?_eq_some_iff.1 hr).1
      · obtain ⟨r', hr', h3⟩ := hrd k hk
        rw [hXFR, hr'] at hr; cases hr; exact h3
      · obtain ⟨r', hr', _⟩ := hrd k hk
        exact ⟨r', by rw [hXFR]; exact hr'⟩
      · rw [hXn]
        rw [hXF] at ht
        exact underF_ok (underF_keepF hu1) ht
    refine calls_of_wp hf hb ?_
    have S0 : St X w M hin rin (paramsOf 0 cargs) { tmps := args ++ Array.replicate (fn.ntmps - args.size) undef, defers := [] } w := by
      refine ⟨⟨hin, H, fun t c ht => ?_, fun _ _ => rfl⟩, ⟨fun t ht => ?_, fun k _ => by rw [hXFR], by rw [hXn]; exact Nat.le_refl _⟩, ?_, rfl⟩
      · obtain ⟨_, h1⟩ := look_params ht
        obtain ⟨v, h2, h3⟩ := hl.get h1
        rw [Nat.sub_zero] at h2
        have h2' : args[t]? = some v := by simpa using h2
        have hlt := (Array.getElem?_eq_some_iff.1 h2').1
        have : (args ++ Array.replicate (fn.ntmps - args.size) undef).getD t undef = v := by
          rw [Array.getD_eq_getD_getElem?, Array.getElem?_append_left hlt, h2']; rfl
        show VR2 rin hin ((args ++ Array.replicate (fn.ntmps - args.size) undef).getD t undef) c
        rw [this]; exact h3
      · rw [hXF] at ht ⊢
        exact (memF_keepF ht).1
      · show (args ++ Array.replicate (fn.ntmps - args.size) undef).size = X.nt
        rw [hXnt, ← hnt]; simp; omega
    have fin : ∀ rs L a w', retK X g I.vars (lam g.otys K) rs L → St X w M hin rs L a w' → a.defers = [] ∧ ∃ v, (results fn a.tmps).run I.P w' = .ok v w' ∧ CtrEnd (g.ctr (I.W g)) rin hin M w K (.returned v) w' := by
      intro rs L a w' h S
      refine ⟨S.defers, ?_⟩
      unfold retK at h
      split at h
      · exact h.elim
      rename_i cs hcs
      split at h
      · exact h.elim
      rename_i c hc
      split at h
      · exact h.elim
      rename_i hok
      split at h
      · exact h.elim
      rename_i lvo B hdec
      obtain ⟨hs, H', hL, h0⟩ := S.ex
      rw [← hvars] at hcs
      obtain ⟨v, h1, h2⟩ := results_ok (P := X.P) H' hL hcs hc
      obtain ⟨vals', rout, hout, e1, e2, e3, e4, _⟩ := decS_ok XO (sh := g.sh) H' h0 S.stay.res (LR.cons h2 LR.nil) hok hdec
      obtain ⟨c', cs', e5⟩ : ∃ c' cs', vals' = c' :: cs' := by
        cases vals' with
        | nil => have := e2.1; simp at this
        | cons x y => exact ⟨x, y, rfl⟩
      subst e5
      have e6 := (LR.tail e2)
      have : cs' = [] := by have := e6.1; simp at this; exact List.eq_nil_of_length_eq_zero this.symm
      subst this
      refine ⟨v, by rw [← hXP]; exact h1, lvo, c', rout, hout, app_lam h, ?_, e2.head, e3, fun i hi => e4 i (by rw [hXn, hlen]; exact hi)⟩
      rw [hXFR] at e1
      exact e1
    have hm' : X.P.follows .mixedOrders = true := by rw [hXP]; exact hm
    have := vc_ok (Q := bodyPost I.P fn (CtrEnd (g.ctr (I.W g)) rin hin M w K)) C XO hm' I.body I.ann [] _ rin _ _ w hlaw S0 (fun rs L a w' h S => fin rs L a w' h S) (by intro id K' h; cases h) (fun rs L a w' h S => fin rs L a w' h S)
    rw [hXP] at this
    exact this

end
end Go.K
