/- All quiet operations under one name. -/
import Derived.Test.YtblejagpndbicaaK5
import Derived.Lib.SliceRun
namespace Go.K
open Go.RowKit

inductive ExtK where
  | bits64 | bits32 | from64 | from32 | sqrt | floor | trunc

def extFn : ExtK → Array Value → Sem Value
  | .bits64 => Extern.MathFloatBits.float64bits
  | .bits32 => Extern.MathFloatBits.float32bits
  | .from64 => Extern.MathFloatBits.float64frombits
  | .from32 => Extern.MathFloatBits.float32frombits
  | .sqrt => Extern.MathSqrt.sqrt
  | .floor => Extern.MathFloor.toIntegral "math.archFloor" .down
  | .trunc => Extern.MathFloor.toIntegral "math.archTrunc" .zero

/-- function f of the program has no body in Go, and runs so -/
def ExtFact (P : Program) (f : FuncId) (k : ExtK) : Prop :=
  ∀ args w, (callFunc f args).run P w = ((extFn k args).run P w).andThen fun v w => .ok (.value v) w

def qExt (k : ExtK) (args : List Value) : QR :=
  match args with
  | [a] => match k with
    | .bits64 => match a with
      | .float .f64 x => ob1 (isNaNW .f64 x = false) (.int .u64 x)
      | _ => none
    | .bits32 => match a with
      | .float .f32 x => ob1 (isNaNW .f32 x = false) (.int .u32 x)
      | _ => none
    | .from64 => match a with
      | .int .u64 n => ok1 (.float .f64 (cF .f64 n.toNat))
      | _ => none
    | .from32 => match a with
      | .int .u32 n => ok1 (.float .f32 (cF .f32 n.toNat))
      | _ => none
    | .sqrt => match a with
      | .float .f64 x => ok1 (.float .f64 (fsqrt x))
      | _ => none
    | .floor => match a with
      | .float .f64 x => ok1 (.float .f64 (fwhole .down x))
      | _ => none
    | .trunc => match a with
      | .float .f64 x => ok1 (.float .f64 (fwhole .zero x))
      | _ => none
  | _ => none

section
variable {P : Program} {w0 w : World} {M : List Nat} {rs : List Res} {hs : Hs} {e : Operand → Value} {ρ : Operand → Option Value}

theorem cF_not_back {k : FloatKind} {b : Nat} (h : isNaNW k (cF k b) = false) : cF k b = b := by
  rw [isNaNW_cF] at h; exact cF_of_not h

theorem qExt_ok {k : ExtK} {vs args : List Value} {c : Value} {ob : Option Prop} (hl : LR (VR2 rs hs) vs args) (h : qExt k args = some (ob, c)) (hob : holdsOb ob) :
    QOK P w rs hs (extFn k vs.toArray) c := by
  unfold qExt at h
  split at h
  · rename_i a
    obtain ⟨v, vs', rfl, h1, h2⟩ := hl.cons_right
    obtain rfl := h2.nil_right
    cases k <;> dsimp only at h
    · split at h
      · cases h
        obtain ⟨b, rfl, e2⟩ := float_of_VR h1
        subst e2
        have hob' : isNaNW .f64 (cF .f64 b) = false := hob
        rw [cF_not_back hob']
        exact QOK.of_run (v := .int .u64 b) rfl rfl
      · cases h
    · split at h
      · cases h
        obtain ⟨b, rfl, e2⟩ := float_of_VR h1
        subst e2
        have hob' : isNaNW .f32 (cF .f32 b) = false := hob
        rw [cF_not_back hob']
        exact QOK.of_run (v := .int .u32 b) rfl rfl
      · cases h
    · split at h
      · cases h; rw [int_of_VR h1]; exact QOK.of_run rfl ⟨_, rfl, rfl⟩
      · cases h
    · split at h
      · cases h; rw [int_of_VR h1]; exact QOK.of_run rfl ⟨_, rfl, rfl⟩
      · cases h
    · split at h
      · cases h
        obtain ⟨b, rfl, e2⟩ := float_of_VR h1
        subst e2
        obtain ⟨r, n, h3, h4⟩ := run_sqrt (P := P) w b
        exact ⟨.float .f64 r, n, h3, r, rfl, h4⟩
      · cases h
    · split at h
      · cases h
        obtain ⟨b, rfl, e2⟩ := float_of_VR h1
        subst e2
        obtain ⟨r, n, h3, h4⟩ := run_whole (P := P) w "math.archFloor" .down b
        exact ⟨.float .f64 r, n, h3, r, rfl, h4⟩
      · cases h
    · split at h
      · cases h
        obtain ⟨b, rfl, e2⟩ := float_of_VR h1
        subst e2
        obtain ⟨r, n, h3, h4⟩ := run_whole (P := P) w "math.archTrunc" .zero b
        exact ⟨.float .f64 r, n, h3, r, rfl, h4⟩
      · cases h
  · cases h

def findE (f : FuncId) : List (FuncId × ExtK) → Option ExtK
  | [] => none
  | (g, k) :: r => match Nat.beq g f with
    | true => some k
    | false => findE f r

theorem findE_ok {exts : List (FuncId × ExtK)} (hx : ∀ p ∈ exts, ExtFact P p.1 p.2) {f : FuncId} {k : ExtK} (h : findE f exts = some k) : ExtFact P f k := by
  induction exts with
  | nil => cases h
  | cons p r ih =>
    obtain ⟨g, k'⟩ := p
    simp only [findE] at h
    split at h
    · rename_i hb
      cases h
      have := Nat.eq_of_beq_eq_true hb
      subst this
      exact hx _ (List.mem_cons_self)
    · exact ih (fun p hp => hx p (List.mem_cons_of_mem _ hp)) h

def optQ (o : Option Value) (f : Value → QR) : QR := match o with
  | some c => f c
  | none => none
def optQ2 (o p : Option Value) (f : Value → Value → QR) : QR := match o with
  | some c => match p with
    | some d => f c d
    | none => none
  | none => none
/-- operands that may be left out -/
def optO (ρ : Operand → Option Value) (x : Option Operand) : Option (Option Value) := match x with
  | none => some none
  | some x => match ρ x with
    | some c => some (some c)
    | none => none

/-- a slice expression that only shortens a slice of the call's own is no view -/
def shortens (rs : List Res) (a : Value) (lo mx : Option Operand) : Bool :=
  match lo with
  | some _ => false
  | none => match mx with
    | some _ => false
    | none => match a with
      | .slice p _ q => match p with
        | some p => match q with
          | 0 => match rs[p.block]? with
            | some (.row _ _) => true
            | _ => false
          | _ + 1 => false
        | none => false
      | _ => false

/-- also: is a slice nil? of one that has elements -/
def qBinN (P : Program) (rs : List Res) (op : BinOp) (T : TypeId) (y : Operand) (a b : Value) : QR :=
  match a with
  | .slice p n q => match b with
    | .slice p' _ _ => match p' with
      | none => match P.underlying T with
        | some (.slice _) => match p with
          | none => match op with
            | .eql => ok1 (.bool true)
            | .neq => ok1 (.bool false)
            | _ => none
          | some p => match rs[p.block]? with
            | some r => match sliceLst r with
              | some _ => match op with
                | .eql => ob1 (n ≠ 0) (.bool false)
                | .neq => ob1 (n ≠ 0) (.bool true)
                | _ => none
              | none => none
            | none => none
        | _ => none
      | some _ => none
    | _ => none
  | a => qBin P op T y a b

section
variable {P : Program} {w0 w : World} {M : List Nat} {rs : List Res} {hs : Hs} {e : Operand → Value}
theorem run_equal_nil (w : World) (t E : TypeId) (a : Option Addr) (n c n' c' : Nat) (h : P.underlying t = some (.slice E)) :
    (Op.equal t (.slice a n c) (.slice none n' c')).run P w = .ok a.isNone w := by
  simp [Op.equal, Op.maxDepth, Lib.run_equalIn_slice_nil w 9999 t E a n c n' c' h]
theorem qBinN_ok (H : Heap w0 M rs hs w) (hc : ∀ v, e (.const v) = v) {op : BinOp} {T : TypeId} {x y : Operand} {a b : Value} {ob : Option Prop} {c : Value}
    (ha : VR2 rs hs (e x) a) (hb : VR2 rs hs (e y) b) (h : qBinN P rs op T y a b = some (ob, c)) (hob : holdsOb ob) :
    QOK P w rs hs (do eqGuard op T x y (e x) (e y); binOp op T (e x) (e y)) c := by
  unfold qBinN at h
  split at h
  · rename_i p n q
    split at h <;> first | (cases h; done) | skip
    rename_i p' n' q'
    split at h <;> first | (cases h; done) | skip
    split at h <;> first | (cases h; done) | skip
    rename_i E hT
    have hb' : n' = 0 ∧ e y = .slice none 0 0 := hb
    rw [hb'.2]
    have guard : ∀ (oa : Option Addr) (k cap : Nat), (eqGuard op T x y (.slice oa k cap) (.slice none 0 0)).run P w = .ok () w := by
      intro oa k cap
      cases op <;> rfl
    have go : ∀ (oa : Option Addr) (k cap : Nat) (t : Bool), oa.isNone = t → e x = .slice oa k cap → (op = .eql ∧ c = .bool t ∨ op = .neq ∧ c = .bool (!t)) →
        QOK P w rs hs (do eqGuard op T x y (e x) (.slice none 0 0); binOp op T (e x) (.slice none 0 0)) c := by
      intro oa k cap t ht hx hop
      rw [hx]
      rcases hop with ⟨rfl, rfl⟩ | ⟨rfl, rfl⟩
      · exact ⟨.bool t, 0, by simp [guard, binOp, run_equal_nil w T E oa k cap 0 0 hT, ht, World.drewN], rfl⟩
      · exact ⟨.bool (!t), 0, by simp [guard, binOp, run_equal_nil w T E oa k cap 0 0 hT, ht, World.drewN], rfl⟩
    split at h
    · have ha' : n = 0 ∧ e x = .slice none 0 0 := ha
      split at h <;> first | (cases h; done) | skip
      · cases h; exact go none 0 0 true rfl ha'.2 (.inl ⟨rfl, rfl⟩)
      · cases h; exact go none 0 0 true rfl ha'.2 (.inr ⟨rfl, rfl⟩)
    · rename_i p
      split at h <;> first | (cases h; done) | skip
      rename_i r hr
      split at h <;> first | (cases h; done) | skip
      rename_i l hl
      have key : n ≠ 0 → ∃ (g : Addr) (cap : Nat), e x = .slice (some g) n cap := by
        intro hn
        have ha0 : VR0 rs hs (e x) (.slice (some p) n q) := ha
        cases q with
        | zero =>
          obtain ⟨h1, ⟨oa, cap, h2, h3⟩, h4⟩ := ha0
          have hln := h4 r _ hr (sliceLst_len hl)
          obtain ⟨g, cap', h5⟩ := sliceLst_base (H.holds _ _ _ hr h1) hl (by omega)
          rw [hln]; exact ⟨g, cap', h5⟩
        | succ q =>
          obtain ⟨oa, cap, h2, h3, h4⟩ := ha0
          rcases h4 with h4 | ⟨h, a, _, _, rfl, _⟩
          · exact absurd h4 hn
          · exact ⟨_, cap, h2⟩
      split at h <;> first | (cases h; done) | skip
      · cases h
        obtain ⟨g, cap, hx⟩ := key hob
        exact go (some g) n cap false rfl hx (.inl ⟨rfl, rfl⟩)
      · cases h
        obtain ⟨g, cap, hx⟩ := key hob
        exact go (some g) n cap false rfl hx (.inr ⟨rfl, rfl⟩)
  · exact qBin_ok hc ha hb h hob
end

def qop (P : Program) (exts : List (FuncId × ExtK)) (rs : List Res) (ρ : Operand → Option Value) (op : Op) : QR :=
  match op with
  | .move x => optQ (ρ x) ok1
  | .assign x => optQ (ρ x) ok1
  | .pick c a b => match ρ c with
    | some (.bool t) => match t with
      | true => optQ (ρ a) ok1
      | false => optQ (ρ b) ok1
    | _ => none
  | .build T ps => qBuild P ρ T ps
  | .load T a => optQ (ρ a) (qLoad P rs T)
  | .nilCheck x => optQ (ρ x) qNil
  | .binOp op T x y _ => optQ2 (ρ x) (ρ y) (qBinN P rs op T y)
  | .unOp op _ x => optQ (ρ x) (qUn op)
  | .convert s d x => optQ (ρ x) (qConv P s d)
  | .makeFunc fn first caps => qMakeFunc ρ fn first caps
  | .slice T x lo hi mx => match ρ x, optO ρ lo, optO ρ hi, optO ρ mx with
    | some a, some l, some h, some m => match shortens rs a lo mx with
      | true => none
      | false => qSlice P rs T a l h m
    | _, _, _, _ => none
  | .fieldAddr T x f => optQ (ρ x) (fun a => qFieldAddr P rs T a f)
  | .field T x f => optQ (ρ x) (fun a => qField P T a f)
  | .indexAddr T x i => optQ2 (ρ x) (ρ i) (qIndexAddr P rs T)
  | .index T x i => optQ2 (ρ x) (ρ i) (qIndex P rs T)
  | .extract x i => optQ (ρ x) (fun a => qExtract a i)
  | .call c => match all1 ρ c.args.toList with
    | some args => match c.callee with
      | .builtin b => qBuiltin P b c.argTypes args
      | .value (.func f) => match findE f exts with
        | some k => qExt k args
        | none => none
      | _ => none
    | none => none
  | _ => none

theorem optQ_ok {o : Option Value} {f : Value → QR} {r : Option Prop × Value} (h : optQ o f = some r) : ∃ c, o = some c ∧ f c = some r := by
  cases o with
  | none => cases h
  | some c => exact ⟨c, rfl, h⟩
theorem optQ2_ok {o p : Option Value} {f : Value → Value → QR} {r : Option Prop × Value} (h : optQ2 o p f = some r) : ∃ c d, o = some c ∧ p = some d ∧ f c d = some r := by
  cases o with
  | none => cases h
  | some c => cases p with
    | none => cases h
    | some d => exact ⟨c, d, rfl, rfl, h⟩
theorem optO_ok (hρ : ∀ x c, ρ x = some c → VR2 rs hs (e x) c) {x : Option Operand} {o : Option Value} (h : optO ρ x = some o) :
    (∀ c, o = some c → ∃ u, x.map e = some u ∧ VR2 rs hs u c) ∧ (o = none → x.map e = none) := by
  cases x with
  | none => cases h; exact ⟨by simp, fun _ => rfl⟩
  | some x =>
    simp only [optO] at h
    split at h
    · rename_i c hc
      cases h
      exact ⟨fun c' e' => by cases e'; exact ⟨_, rfl, hρ _ _ hc⟩, by simp⟩
    · cases h

theorem qop_ok {exts : List (FuncId × ExtK)} (hx : ∀ p ∈ exts, ExtFact P p.1 p.2) (H : Heap w0 M rs hs w) (hc : ∀ v, e (.const v) = v) (hf : ∀ f, e (.func f) = .func (.func f) #[] #[]) (hρ : ∀ x c, ρ x = some c → VR2 rs hs (e x) c)
    {o : Oper} {c : Value} {ob : Option Prop} (h : qop P exts rs ρ o.op = some (ob, c)) (hob : holdsOb ob) :
    ∃ v n, (execOp e o).run P w = .ok (.value v) (w.drewN n) ∧ VR2 rs hs v c := by
  have fin : ∀ {s : Sem Value}, QOK P w rs hs s c → ∃ v n, (do pure (Next.value (← s)) : Sem Next).run P w = .ok (.value v) (w.drewN n) ∧ VR2 rs hs v c := by
    intro s ⟨v, n, h1, h2⟩
    exact ⟨v, n, by simp [h1], h2⟩
  have pureV : ∀ {x : Operand}, optQ (ρ x) ok1 = some (ob, c) → VR2 rs hs (e x) c := by
    intro x hx
    obtain ⟨d, h1, h2⟩ := optQ_ok hx
    cases h2
    exact hρ _ _ h1
  unfold execOp
  cases hop : o.op <;> rw [hop] at h <;> (try simp only [qop] at h) <;> first | (cases h; done) | skip
  case move x => exact ⟨_, 0, rfl, pureV h⟩
  case assign x => exact ⟨_, 0, rfl, pureV h⟩
  case pick x a b =>
    split at h
    · rename_i t ht
      have e1 := bool_of_VR (hρ _ _ ht)
      cases t
      · exact ⟨e b, 0, by simp [e1, asBool]; rfl, pureV h⟩
      · exact ⟨e a, 0, by simp [e1, asBool]; rfl, pureV h⟩
    · cases h
  case build T ps => exact fin (qBuild_ok hρ h)
  case load T a => obtain ⟨d, h1, h2⟩ := optQ_ok h; exact fin (qLoad_ok H (hρ _ _ h1) h2)
  case nilCheck x =>
    obtain ⟨d, h1, h2⟩ := optQ_ok h
    obtain ⟨⟨p, e1⟩, h3⟩ := qNil_ok (hρ _ _ h1) h2
    refine ⟨e x, 0, ?_, h3⟩
    simp only [e1]; rfl
  case binOp op T x y U => obtain ⟨a, b, h1, h2, h3⟩ := optQ2_ok h; exact fin (qBinN_ok H hc (hρ _ _ h1) (hρ _ _ h2) h3 hob)
  case unOp op T x => obtain ⟨d, h1, h2⟩ := optQ_ok h; exact fin (qUn_ok (hρ _ _ h1) h2)
  case convert s d x => obtain ⟨d, h1, h2⟩ := optQ_ok h; exact fin (qConv_ok (hρ _ _ h1) h2 hob)
  case makeFunc fn first caps => exact fin (qMakeFunc_ok hρ h)
  case slice T x lo hi mx =>
    split at h
    · rename_i a l hh m h1 h2 h3 h4
      split at h
      · cases h
      · obtain ⟨p1, p2⟩ := optO_ok hρ h2
        obtain ⟨p3, p4⟩ := optO_ok hρ h3
        obtain ⟨p5, p6⟩ := optO_ok hρ h4
        exact fin (qSlice_ok H (hρ _ _ h1) p1 p2 p3 p4 p5 p6 h hob)
    · cases h
  case fieldAddr T x f => obtain ⟨d, h1, h2⟩ := optQ_ok h; exact fin (qFieldAddr_ok (hρ _ _ h1) h2)
  case field T x f => obtain ⟨d, h1, h2⟩ := optQ_ok h; exact fin (qField_ok (hρ _ _ h1) h2)
  case indexAddr T x i => obtain ⟨a, b, h1, h2, h3⟩ := optQ2_ok h; exact fin (qIndexAddr_ok H (hρ _ _ h1) (hρ _ _ h2) h3 hob)
  case index T x i => obtain ⟨a, b, h1, h2, h3⟩ := optQ2_ok h; exact fin (qIndex_ok H (hρ _ _ h1) (hρ _ _ h2) h3 hob)
  case extract x i => obtain ⟨d, h1, h2⟩ := optQ_ok h; exact fin (qExtract_ok (hρ _ _ h1) h2)
  case call cc =>
    split at h
    · rename_i args hargs
      have hl := all1_ok hρ hargs
      have ea : (cc.args.map e) = (cc.args.toList.map e).toArray := by rw [← Array.toList_map]
      split at h
      · rename_i b hb
        obtain ⟨v, n, h1, h2⟩ := qBuiltin_ok (P := P) (w := w) (T := o.type) hl h (cc.args.map fun | .const _ => true | _ => false)
        refine ⟨v, n, ?_, h2⟩
        simp only [resolve, hb, invoke, Sem.run_bind, Sem.run_pure, Result.andThen_ok, ea]
        exact h1
      · rename_i f hb
        split at h
        · rename_i k hk
          obtain ⟨v, n, h1, h2⟩ := qExt_ok (P := P) (w := w) hl h hob
          refine ⟨v, n, ?_, h2⟩
          have := findE_ok hx hk (cc.args.toList.map e).toArray w
          rw [h1] at this
          simp only [resolve, hb, hf, Deferred.ofValue, invoke, Sem.run_bind, Sem.run_pure, Result.andThen_ok, ea, Array.empty_append, Array.append_empty]
          exact this
        · cases h
      · cases h
    · cases h

end
end Go.K
