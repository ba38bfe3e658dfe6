/- Quiet operations: what they come to, symbolically. -/
import Derived.Test.YtblejagpndbicaaK3
namespace Go.K
open Go.RowKit

/-- an obligation, if there is one -/
def holdsOb : Option Prop → Prop
  | none => True
  | some p => p

abbrev QR := Option (Option Prop × Value)
def ok1 (v : Value) : QR := some (none, v)
def ob1 (p : Prop) (v : Value) : QR := some (some p, v)

/-- a value that is one cell -/
def scal : Value → Bool
  | .agg _ | .tuple _ | .iface _ _ => false
  | .func _ _ _ => false
  | _ => true
/-- one cell, or cells -/
def small : Value → Bool
  | .tuple _ | .iface _ _ => false
  | .func _ _ _ => false
  | _ => true

theorem VR2.scal {rs : List Res} {hs : Hs} {v c : Value} (hc : K.scal c = true) (h : VR2 rs hs v c) : VR0 rs hs v c := by
  cases c with
  | func f a b => simp [K.scal] at hc
  | agg cs => simp [K.scal] at hc
  | tuple cs => simp [K.scal] at hc
  | _ => exact h
theorem VR2.small {rs : List Res} {hs : Hs} {v c : Value} (hc : K.small c = true) (h : VR2 rs hs v c) : VRa rs hs v c := by
  cases c with
  | func f a b => simp [K.small] at hc
  | tuple cs => simp [K.small] at hc
  | _ => exact h

/-! ### constants -/
def cconst0 : Value → Option Value
  | .bool b => some (.bool b)
  | .int k n => some (.int k n)
  | .float k b => match isNaNW k b with
    | true => none
    | false => some (.float k b)
  | .complex k a b => match isNaNW k a, isNaNW k b with
    | false, false => some (.complex k a b)
    | _, _ => none
  | .string s => some (.string s)
  | .pointer a => match a with
    | none => some (.pointer none)
    | some _ => none
  | .slice a n q => match a, n, q with
    | none, 0, 0 => some (.slice none 0 0)
    | _, _, _ => none
  | .nilFunc => some .nilFunc
  | _ => none
def cconstL : List Value → Option (List Value)
  | [] => some []
  | v :: r => match cconst0 v, cconstL r with
    | some c, some cs => some (c :: cs)
    | _, _ => none
def cconst (v : Value) : Option Value :=
  match v with
  | .agg cs => match cconstL cs.toList with
    | some l => some (.agg l.toArray)
    | none => none
  | _ => cconst0 v

theorem cconst0_ok {rs : List Res} {hs : Hs} {v c : Value} (h : cconst0 v = some c) : VR0 rs hs v c := by
  cases v with
  | float k b =>
    simp only [cconst0] at h
    split at h
    · cases h
    · rename_i e; cases h; exact ⟨b, rfl, cF_of_not e⟩
  | complex k a b =>
    simp only [cconst0] at h
    split at h
    · rename_i e1 e2; cases h; exact ⟨a, b, rfl, cF_of_not e1, cF_of_not e2⟩
    · cases h
  | pointer a => cases a <;> simp [cconst0] at h; subst h; rfl
  | slice a n q =>
    simp only [cconst0] at h
    split at h
    · cases h; exact ⟨rfl, rfl⟩
    · cases h
  | bool b => cases h; rfl
  | int k n => cases h; rfl
  | string s => cases h; rfl
  | nilFunc => cases h; rfl
  | _ => cases h

theorem cconstL_ok {rs : List Res} {hs : Hs} : ∀ {l c : List Value}, cconstL l = some c → LR (VR0 rs hs) l c
  | [], c, h => by simp [cconstL] at h; subst h; exact LR.nil
  | v :: r, c, h => by
    simp only [cconstL] at h
    split at h
    · rename_i e1 e2; cases h; exact LR.cons (cconst0_ok e1) (cconstL_ok e2)
    · cases h

theorem cconst_ok {rs : List Res} {hs : Hs} {v c : Value} (h : cconst v = some c) : VR2 rs hs v c := by
  unfold cconst at h
  split at h
  · rename_i cs
    split at h
    · rename_i l e; cases h; exact ⟨cs, rfl, by simpa using cconstL_ok e⟩
    · cases h
  · exact (cconst0_ok h).two

/-- an operand's symbolic value -/
def opnd (L : Env) : Operand → Option Value
  | .tmp t => look L t
  | .const v => cconst v
  | .func f => some (.func (.func f) #[] #[])
  | .global _ => none

theorem opnd_ok {rs : List Res} {hs : Hs} {L : Env} {a : Act} (hL : ∀ t c, look L t = some c → VR2 rs hs (a.tmps.getD t undef) c) {x : Operand} {c : Value} (h : opnd L x = some c) :
    VR2 rs hs (a.eval x) c := by
  cases x with
  | tmp t => exact hL t c h
  | const v => exact cconst_ok h
  | func f => cases h; exact ⟨#[], #[], rfl, LR.nil, LR.nil⟩
  | global g => cases h

/-! ### whole numbers -/
def ibits (op : BinOp) (k : IntKind) (x y : Int) : Int :=
  let a := BitVec.ofInt k.bits x
  let b := BitVec.ofInt k.bits y
  match op with
  | .and => k.wrap (a &&& b).toNat
  | .or => k.wrap (a ||| b).toNat
  | .xor => k.wrap (a ^^^ b).toNat
  | _ => k.wrap (a &&& ~~~b).toNat

def ishl (k : IntKind) (x y : Int) : Int := k.wrap (x * 2 ^ min y.toNat k.bits)
def ishr (k : IntKind) (x y : Int) : Int := x.fdiv (2 ^ min y.toNat k.bits)

/-- the obligation, unless the second operand is a constant that meets it -/
def obUnless (known : Bool) (p : Prop) (v : Value) : QR := match known with
  | true => ok1 v
  | false => ob1 p v

def isNZ : Operand → Bool
  | .const (.int _ n) => n != 0
  | _ => false
def isNN : Operand → Bool
  | .const (.int _ n) => decide (0 ≤ n)
  | _ => false

def intBin (op : BinOp) (y : Operand) (k : IntKind) (a b : Int) : QR :=
  match op with
  | .add => ok1 (.int k (k.wrap (a + b)))
  | .sub => ok1 (.int k (k.wrap (a - b)))
  | .mul => ok1 (.int k (k.wrap (a * b)))
  | .quo => obUnless (isNZ y) (b ≠ 0) (.int k (k.wrap (a.tdiv b)))
  | .rem => obUnless (isNZ y) (b ≠ 0) (.int k (a.tmod b))
  | .and => ok1 (.int k (ibits .and k a b))
  | .or => ok1 (.int k (ibits .or k a b))
  | .xor => ok1 (.int k (ibits .xor k a b))
  | .andNot => ok1 (.int k (ibits .andNot k a b))
  | .eql => ok1 (.bool (a == b))
  | .neq => ok1 (.bool (a != b))
  | .lss => ok1 (.bool (decide (a < b)))
  | .leq => ok1 (.bool (decide (a ≤ b)))
  | .gtr => ok1 (.bool (decide (a > b)))
  | .geq => ok1 (.bool (decide (a ≥ b)))
  | _ => none

def shiftBin (op : BinOp) (y : Operand) (k : IntKind) (a b : Int) : QR :=
  match op with
  | .shl => obUnless (isNN y) (0 ≤ b) (.int k (ishl k a b))
  | .shr => obUnless (isNN y) (0 ≤ b) (.int k (ishr k a b))
  | _ => none

def floatBin (op : BinOp) (k : FloatKind) (a b : Nat) : QR :=
  match op with
  | .add => ok1 (.float k (farith .add k a b))
  | .sub => ok1 (.float k (farith .sub k a b))
  | .mul => ok1 (.float k (farith .mul k a b))
  | .quo => ok1 (.float k (farith .quo k a b))
  | .eql => ok1 (.bool (feq k a b))
  | .neq => ok1 (.bool (fne k a b))
  | .lss => ok1 (.bool (flt k a b))
  | .leq => ok1 (.bool (fle k a b))
  | .gtr => ok1 (.bool (fgt k a b))
  | .geq => ok1 (.bool (fge k a b))
  | _ => none

def complexBin (op : BinOp) (k : FloatKind) (a b c d : Nat) : QR :=
  match op with
  | .add => ok1 (.complex k (farith .add k a c) (farith .add k b d))
  | .sub => ok1 (.complex k (farith .sub k a c) (farith .sub k b d))
  | .eql => ok1 (.bool (feq k a c && feq k b d))
  | .neq => ok1 (.bool (!(feq k a c && feq k b d)))
  | _ => none

def qBin (P : Program) (op : BinOp) (T : TypeId) (y : Operand) (a b : Value) : QR :=
  match a with
  | .int k m => match b with
    | .int k' n => match op with
      | .shl => shiftBin .shl y k m n
      | .shr => shiftBin .shr y k m n
      | op => if k' = k then intBin op y k m n else none
    | _ => none
  | .float k m => match b with
    | .float k' n => if k' = k then floatBin op k m n else none
    | _ => none
  | .complex k m n => match b with
    | .complex k' p q => if k' = k then complexBin op k m n p q else none
    | _ => none
  | .bool m => match b with
    | .bool n => match P.underlying T with
      | some .bool => match op with
        | .eql => ok1 (.bool (m == n))
        | .neq => ok1 (.bool (m != n))
        | _ => none
      | _ => none
    | _ => none
  | _ => none

section
variable {P : Program} {w0 w : World} {M : List Nat} {rs : List Res} {hs : Hs} {e : Operand → Value} {ρ : Operand → Option Value}

/-- what is shown of each: the run ends with a value that is told -/
def QOK (P : Program) (w : World) (rs : List Res) (hs : Hs) (s : Sem Value) (c : Value) : Prop :=
  ∃ v n, s.run P w = .ok v (w.drewN n) ∧ VR2 rs hs v c

theorem QOK.pure {v c : Value} (h : VR2 rs hs v c) : QOK P w rs hs (pure v) c := ⟨v, 0, rfl, h⟩
theorem QOK.of_run {s : Sem Value} {v c : Value} (h : s.run P w = .ok v w) (hv : VR2 rs hs v c) : QOK P w rs hs s c := ⟨v, 0, h, hv⟩

theorem int_of_VR {v : Value} {k : IntKind} {n : Int} (h : VR2 rs hs v (.int k n)) : v = .int k n := h
theorem bool_of_VR {v : Value} {b : Bool} (h : VR2 rs hs v (.bool b)) : v = .bool b := h
theorem float_of_VR {v : Value} {k : FloatKind} {x : Nat} (h : VR2 rs hs v (.float k x)) : ∃ b, v = .float k b ∧ cF k b = x := h
theorem complex_of_VR {v : Value} {k : FloatKind} {x y : Nat} (h : VR2 rs hs v (.complex k x y)) : ∃ a b, v = .complex k a b ∧ cF k a = x ∧ cF k b = y := h

theorem QOK.unless {s : Sem Value} {known : Bool} {p : Prop} {v c : Value} {ob : Option Prop} (h : obUnless known p v = some (ob, c)) (hob : holdsOb ob)
    (hk : known = true → p) (hs' : p → QOK P w rs hs s v) : QOK P w rs hs s c := by
  cases known
  · cases h; exact hs' hob
  · cases h; exact hs' (hk rfl)

theorem isNZ_spec {y : Operand} {k : IntKind} {b : Int} (hc : ∀ v, e (.const v) = v) (hy : e y = .int k b) (h : isNZ y = true) : b ≠ 0 := by
  unfold isNZ at h
  split at h
  · rw [hc] at hy; cases hy; simpa using h
  · cases h
theorem isNN_spec {y : Operand} {k : IntKind} {b : Int} (hc : ∀ v, e (.const v) = v) (hy : e y = .int k b) (h : isNN y = true) : 0 ≤ b := by
  unfold isNN at h
  split at h
  · rw [hc] at hy; cases hy; simpa using h
  · cases h

theorem intBin_ok (hc : ∀ v, e (.const v) = v) {op : BinOp} {T : TypeId} {y : Operand} {k : IntKind} {a b : Int} {ob : Option Prop} {c : Value} (hop : op ≠ .shl ∧ op ≠ .shr) (hy : e y = .int k b)
    (h : intBin op y k a b = some (ob, c)) (hob : holdsOb ob) : QOK P w rs hs (binOp op T (.int k a) (.int k b)) c := by
  cases op <;> simp only [intBin] at h <;> first | (cases h; done) | skip
  case quo =>
    refine QOK.unless h hob (isNZ_spec hc hy) fun hb => QOK.of_run (v := .int k (k.wrap (a.tdiv b))) ?_ rfl
    simp [binOp, Op.intDiv, hb]
  case rem =>
    refine QOK.unless h hob (isNZ_spec hc hy) fun hb => QOK.of_run (v := .int k (a.tmod b)) ?_ rfl
    simp [binOp, Op.intDiv, hb]
  all_goals (cases h; refine QOK.of_run (v := _) ?_ rfl; simp [binOp, Op.intArith, Op.intBits, Op.intCmp, ibits])

theorem shiftBin_ok (hc : ∀ v, e (.const v) = v) {op : BinOp} {T : TypeId} {y : Operand} {k k' : IntKind} {a b : Int} {ob : Option Prop} {c : Value} (hy : e y = .int k' b)
    (h : shiftBin op y k a b = some (ob, c)) (hob : holdsOb ob) : QOK P w rs hs (binOp op T (.int k a) (.int k' b)) c := by
  cases op <;> simp only [shiftBin] at h <;> first | (cases h; done) | skip
  all_goals
    refine QOK.unless h hob (isNN_spec hc hy) fun hb => QOK.of_run (v := _) ?_ rfl
    have hb' : ¬ b < 0 := by omega
    simp [binOp, Op.shift, hb', ishl, ishr]

theorem floatBin_ok {op : BinOp} {T : TypeId} {k : FloatKind} {a b : Nat} {ob : Option Prop} {c : Value} 
    (h : floatBin op k (cF k a) (cF k b) = some (ob, c)) : QOK P w rs hs (binOp op T (.float k a) (.float k b)) c := by
  cases op <;> simp only [floatBin] at h <;> first | (cases h; done) | skip
  case add => cases h; obtain ⟨r, n, h1, h2⟩ := run_floatArith (P := P) w .add rfl k a b; exact ⟨.float k r, n, by simpa [binOp] using h1, r, rfl, h2⟩
  case sub => cases h; obtain ⟨r, n, h1, h2⟩ := run_floatArith (P := P) w .sub rfl k a b; exact ⟨.float k r, n, by simpa [binOp] using h1, r, rfl, h2⟩
  case mul => cases h; obtain ⟨r, n, h1, h2⟩ := run_floatArith (P := P) w .mul rfl k a b; exact ⟨.float k r, n, by simpa [binOp] using h1, r, rfl, h2⟩
  case quo => cases h; obtain ⟨r, n, h1, h2⟩ := run_floatArith (P := P) w .quo rfl k a b; exact ⟨.float k r, n, by simpa [binOp] using h1, r, rfl, h2⟩
  all_goals (cases h; refine QOK.of_run (v := _) ?_ rfl; simp only [feq, fne, flt, fle, fgt, fge, forder_cF]; simp [binOp, Op.floatCmp, forder])

theorem run_carith {op : BinOp} (hop : isArith op = true) (k : FloatKind) (a b : Nat) (w : World) :
    ∃ r n, (Op.Complex.arith op k a b).run P w = .ok r (w.drewN n) ∧ cF k r = farith op k (cF k a) (cF k b) := by
  obtain ⟨r, n, h1, h2⟩ := run_floatArith (P := P) w op hop k a b
  exact ⟨r, n, by simp [Op.Complex.arith, h1], h2⟩

theorem complexBin_ok {op : BinOp} {T : TypeId} {k : FloatKind} {a b x y : Nat} {ob : Option Prop} {c : Value}
    (h : complexBin op k (cF k a) (cF k b) (cF k x) (cF k y) = some (ob, c)) : QOK P w rs hs (binOp op T (.complex k a b) (.complex k x y)) c := by
  cases op <;> simp only [complexBin] at h <;> first | (cases h; done) | skip
  case add =>
    cases h
    obtain ⟨r, n, h1, h2⟩ := run_carith (P := P) (op := .add) rfl k a x w
    obtain ⟨s, m, h3, h4⟩ := run_carith (P := P) (op := .add) rfl k b y (w.drewN n)
    exact ⟨.complex k r s, n + m, by simp [binOp, Op.complexOp, h1, h3], r, s, rfl, h2, h4⟩
  case sub =>
    cases h
    obtain ⟨r, n, h1, h2⟩ := run_carith (P := P) (op := .sub) rfl k a x w
    obtain ⟨s, m, h3, h4⟩ := run_carith (P := P) (op := .sub) rfl k b y (w.drewN n)
    exact ⟨.complex k r s, n + m, by simp [binOp, Op.complexOp, h1, h3], r, s, rfl, h2, h4⟩
  all_goals (cases h; refine QOK.of_run (v := _) ?_ rfl; simp only [feq, forder_cF]; simp [binOp, Op.complexOp, Op.Complex.cmp, Op.floatCmp, forder, asBool])

theorem run_equalIn_bool (d : Nat) {T : TypeId} (hT : P.underlying T = some .bool) (m n : Bool) : (Op.equalIn (d + 1) T (.bool m) (.bool n)).run P w = .ok (m == n) w := by
  simp [Op.equalIn, run_underlying hT]
theorem run_equal_bool {T : TypeId} (hT : P.underlying T = some .bool) (m n : Bool) : (Op.equal T (.bool m) (.bool n)).run P w = .ok (m == n) w :=
  run_equalIn_bool 9999 hT m n

theorem qBin_ok (hc : ∀ v, e (.const v) = v) {op : BinOp} {T : TypeId} {x y : Operand} {a b : Value} {ob : Option Prop} {c : Value}
    (ha : VR2 rs hs (e x) a) (hb : VR2 rs hs (e y) b) (h : qBin P op T y a b = some (ob, c)) (hob : holdsOb ob) :
    QOK P w rs hs (do eqGuard op T x y (e x) (e y); binOp op T (e x) (e y)) c := by
  have guard : ∀ {u v : Value}, (∀ cs, u ≠ .agg cs) → u ≠ .nilIface → (eqGuard op T x y u v).run P w = .ok () w := by
    intro u v h1 h2
    cases u <;> first | exact absurd rfl h2 | exact absurd rfl (h1 _) | (cases op <;> rfl)
  have fin : ∀ {u v : Value}, (∀ cs, u ≠ .agg cs) → u ≠ .nilIface → QOK P w rs hs (binOp op T u v) c → QOK P w rs hs (do eqGuard op T x y u v; binOp op T u v) c := by
    intro u v h1 h2 ⟨r, n, h3, h4⟩
    exact ⟨r, n, by simp [guard h1 h2, h3], h4⟩
  cases a with
  | int k m =>
    cases b with
    | int k' n =>
      have e1 := int_of_VR ha
      have e2 := int_of_VR hb
      rw [e1, e2]
      refine fin (by simp) (by simp) ?_
      simp only [qBin] at h
      split at h
      · exact shiftBin_ok hc e2 h hob
      · exact shiftBin_ok hc e2 h hob
      · rename_i h1 h2
        split at h
        · rename_i ek; subst ek; exact intBin_ok hc ⟨h1, h2⟩ e2 h hob
        · cases h
    | _ => cases h
  | float k m =>
    cases b with
    | float k' n =>
      obtain ⟨p, e1, rfl⟩ := float_of_VR ha
      obtain ⟨q, e2, rfl⟩ := float_of_VR hb
      rw [e1, e2]
      refine fin (by simp) (by simp) ?_
      simp only [qBin] at h
      split at h
      · rename_i ek; subst ek; exact floatBin_ok h
      · cases h
    | _ => cases h
  | complex k m n =>
    cases b with
    | complex k' p q =>
      obtain ⟨p1, p2, e1, rfl, rfl⟩ := complex_of_VR ha
      obtain ⟨q1, q2, e2, rfl, rfl⟩ := complex_of_VR hb
      rw [e1, e2]
      refine fin (by simp) (by simp) ?_
      simp only [qBin] at h
      split at h
      · rename_i ek; subst ek; exact complexBin_ok h
      · cases h
    | _ => cases h
  | bool m =>
    cases b with
    | bool n =>
      have e1 := bool_of_VR ha
      have e2 := bool_of_VR hb
      rw [e1, e2]
      refine fin (by simp) (by simp) ?_
      simp only [qBin] at h
      split at h
      · rename_i hT
        split at h
        · cases h; exact QOK.of_run (by simp [binOp, run_equal_bool hT]) rfl
        · cases h; exact QOK.of_run (v := .bool (m != n)) (by simp [binOp, run_equal_bool hT, bne]) rfl
        · cases h
      · cases h
    | _ => cases h
  | _ => cases h

/-! ### one operand -/
def qUn (op : UnOp) (a : Value) : QR :=
  match op with
  | .neg => match a with
    | .int k n => ok1 (.int k (k.wrap (0 - n)))
    | .float k x => ok1 (.float k (fneg k x))
    | .complex k x y => ok1 (.complex k (fneg k x) (fneg k y))
    | _ => none
  | .not => match a with
    | .bool b => ok1 (.bool (!b))
    | _ => none
  | _ => none

theorem qUn_ok {op : UnOp} {v a c : Value} {ob : Option Prop} (ha : VR2 rs hs v a) (h : qUn op a = some (ob, c)) : QOK P w rs hs (Op.unary op v) c := by
  unfold qUn at h
  split at h
  · split at h
    · rename_i k n; cases h; rw [int_of_VR ha]; exact QOK.of_run (by simp [Op.unary, Op.intArith]) rfl
    · rename_i k x; cases h; obtain ⟨b, e1, rfl⟩ := float_of_VR ha; rw [e1]; exact QOK.of_run (by simp [Op.unary]) ⟨_, rfl, fneg_cF k b⟩
    · rename_i k x y; cases h; obtain ⟨p, q, e1, rfl, rfl⟩ := complex_of_VR ha; rw [e1]; exact QOK.of_run (by simp [Op.unary]) ⟨_, _, rfl, fneg_cF k p, fneg_cF k q⟩
    · cases h
  · split at h
    · cases h; rw [bool_of_VR ha]; exact QOK.of_run (by simp [Op.unary]) rfl
    · cases h
  · cases h

/-- conversions -/
def qConv (P : Program) (src dst : TypeId) (a : Value) : QR :=
  match P.underlying src with
  | none => none
  | some _ => match P.underlying dst with
    | some (.int k) => match a with
      | .int _ n => ok1 (.int k (k.wrap n))
      | .float s x => ob1 ((ftoint s x k).isSome = true) (.int k ((ftoint s x k).getD 0))
      | _ => none
    | some (.float k) => match a with
      | .int _ n => ok1 (.float k (fofint k n))
      | .float s x => match s, k with
        | .f32, .f32 => ok1 (.float .f32 x)
        | .f64, .f64 => ok1 (.float .f64 x)
        | .f32, .f64 => ok1 (.float .f64 (fconv .f32 .f64 x))
        | .f64, .f32 => ob1 (fitsF .f64 .f32 x = true) (.float .f32 (fconv .f64 .f32 x))
      | _ => none
    | some (.complex k) => match a with
      | .complex s x y => match s, k with
        | .f32, .f32 => ok1 (.complex .f32 x y)
        | .f64, .f64 => ok1 (.complex .f64 x y)
        | .f32, .f64 => ok1 (.complex .f64 (fconv .f32 .f64 x) (fconv .f32 .f64 y))
        | .f64, .f32 => ob1 (fitsF .f64 .f32 x = true ∧ fitsF .f64 .f32 y = true) (.complex .f32 (fconv .f64 .f32 x) (fconv .f64 .f32 y))
      | _ => none
    | _ => none

theorem run_conv_of {src dst : TypeId} {d0 d : TypeDesc} (h0 : P.underlying src = some d0) (h1 : P.underlying dst = some d) (x : Value) (s : Sem Value)
    (hs' : (match d0, d, x with
      | _, .int k, .int _ n => Conv.intToInt k n
      | _, .float k, .int _ n => Conv.intToFloat k n
      | _, .int k, .float s b => Conv.floatToInt s b k
      | _, .float k, .float s b => Conv.floatToFloat s b k
      | _, .complex k, .complex s a b => Conv.complexToComplex s a b k
      | _, _, _ => stuck "") = s) (hx : (∃ k n, x = .int k n ∧ (∃ q, d = .int q ∨ ∃ q, d = .float q)) ∨ (∃ k n, x = .float k n ∧ (∃ q, d = .int q ∨ ∃ q, d = .float q)) ∨ (∃ k n m, x = .complex k n m ∧ ∃ q, d = .complex q)) :
    (convert src dst x).run P w = s.run P w := by
  subst hs'
  unfold convert
  simp only [Sem.run_bind, run_underlying h0, run_underlying h1, Result.andThen_ok]
  rcases hx with ⟨k, n, rfl, q, rfl | ⟨q, rfl⟩⟩ | ⟨k, n, rfl, q, rfl | ⟨q, rfl⟩⟩ | ⟨k, n, m, rfl, q, rfl⟩ <;> cases d0 <;> rfl

theorem qConv_ok {src dst : TypeId} {v a c : Value} {ob : Option Prop} (ha : VR2 rs hs v a) (h : qConv P src dst a = some (ob, c)) (hob : holdsOb ob) :
    QOK P w rs hs (convert src dst v) c := by
  have conv : ∀ (s k : FloatKind) (x : Nat) (w : World), fitsF s k (cF s x) = true → ∃ r n, (Conv.floatToFloat s x k).run P w = .ok (.float k r) (w.drewN n) ∧ cF k r = fconv s k (cF s x) :=
    fun s k x w hf => run_floatToFloat' w s k x hf
  have up : ∀ x, fitsF .f32 .f64 (cF .f32 x) = true := by
    intro x
    exact up_fits _
  unfold qConv at h
  split at h
  · cases h
  · rename_i d0 h0
    split at h
    · rename_i k h1
      split at h
      · rename_i k' n
        cases h
        rw [int_of_VR ha]
        refine QOK.of_run (v := .int k (k.wrap n)) ?_ rfl
        rw [run_conv_of h0 h1 _ _ rfl (.inl ⟨_, _, rfl, k, .inl rfl⟩)]; rfl
      · rename_i s x
        cases h
        obtain ⟨b, e1, rfl⟩ := float_of_VR ha
        rw [e1]
        have hob' : (ftoint s (cF s b) k).isSome = true := hob
        rw [ftoint_cF] at hob' ⊢
        obtain ⟨n, hn⟩ := Option.isSome_iff_exists.1 hob'
        rw [hn]
        exact QOK.of_run (run_convert_float_int w src dst s k b n (by rw [h0]; rfl) h1 hn) rfl
      · cases h
    · rename_i k h1
      split at h
      · rename_i k' n
        cases h
        rw [int_of_VR ha]
        refine QOK.of_run (v := .float k (fofint k n)) ?_ ⟨_, rfl, cF_fofint k n⟩
        rw [run_conv_of h0 h1 _ _ rfl (.inl ⟨_, _, rfl, .i64, .inr ⟨k, rfl⟩⟩)]; rfl
      · rename_i s x
        obtain ⟨b, e1, rfl⟩ := float_of_VR ha
        rw [e1]
        have go : fitsF s k (cF s b) = true → QOK P w rs hs (convert src dst (.float s b)) (.float k (fconv s k (cF s b))) := by
          intro hf
          obtain ⟨r, n, h2, h3⟩ := conv s k b w hf
          refine ⟨.float k r, n, ?_, r, rfl, h3⟩
          rw [run_conv_of h0 h1 _ _ rfl (.inr (.inl ⟨_, _, rfl, .i64, .inr ⟨k, rfl⟩⟩))]; exact h2
        split at h
        · cases h; simpa [fconv] using go (by simp [fitsF])
        · cases h; simpa [fconv] using go (by simp [fitsF])
        · cases h; exact go (up b)
        · cases h; exact go hob
      · cases h
    · rename_i k h1
      split at h
      · rename_i s x y
        obtain ⟨p, q, e1, rfl, rfl⟩ := complex_of_VR ha
        rw [e1]
        have go : fitsF s k (cF s p) = true → fitsF s k (cF s q) = true → QOK P w rs hs (convert src dst (.complex s p q)) (.complex k (fconv s k (cF s p)) (fconv s k (cF s q))) := by
          intro hf hg
          obtain ⟨r, n, h2, h3⟩ := conv s k p w hf
          obtain ⟨r', n', h4, h5⟩ := conv s k q (w.drewN n) hg
          refine ⟨.complex k r r', n + n', ?_, r, r', rfl, h3, h5⟩
          rw [run_conv_of h0 h1 _ _ rfl (.inr (.inr ⟨_, _, _, rfl, k, rfl⟩))]
          simp [Conv.complexToComplex, h2, h4]
        split at h
        · cases h; simpa [fconv] using go (by simp [fitsF]) (by simp [fitsF])
        · cases h; simpa [fconv] using go (by simp [fitsF]) (by simp [fitsF])
        · cases h; exact go (up p) (up q)
        · cases h; exact go hob.1 hob.2
      · cases h
    · cases h

/-! ### parts of values -/
def isAggT (P : Program) (T : TypeId) : Option Bool :=
  match P.underlying T with
  | some (.struct _) => some true
  | some (.array _ _) => some true
  | some _ => some false
  | none => none

theorem run_isAgg {T : TypeId} {b : Bool} (h : isAggT P T = some b) : (isAgg T).run P w = .ok b w := by
  unfold isAggT at h
  unfold isAgg
  split at h <;> first | (cases h; done) | skip
  all_goals (rename_i hd; cases h; simp only [Sem.run_bind, run_underlying hd, Result.andThen_ok])
  all_goals first
    | rfl
    | (split <;> first | rfl | (simp_all; done))

def sizeT (P : Program) (T : TypeId) : Option Nat :=
  match P.info? T with
  | some i => some i.size
  | none => none
theorem run_sizeT {T : TypeId} {n : Nat} (h : sizeT P T = some n) : (sizeOf T).run P w = .ok n w := by
  unfold sizeT at h
  split at h
  · rename_i i hi; cases h; simp [sizeOf, typeInfo, hi]
  · cases h

/-- the part of type T at a cell -/
def partC (P : Program) (T : TypeId) (cs : List Value) (off : Nat) : Option Value :=
  match isAggT P T with
  | some true => match sizeT P T with
    | some n => some (.agg ((cs.drop off).take n).toArray)
    | none => none
  | some false => cs[off]?
  | none => none

theorem partC_ok {T : TypeId} {ds : Array Value} {cs : List Value} {off : Nat} {c : Value} (h : LR (VR0 rs hs) ds.toList cs) (hp : partC P T cs off = some c) :
    ∃ v, (part T ds off).run P w = .ok v w ∧ VR1 rs hs v c := by
  unfold partC at hp
  unfold part
  split at hp
  · rename_i ha
    split at hp
    · rename_i n hn
      cases hp
      refine ⟨.agg (ds.extract off (off + n)), by simp [run_isAgg ha, run_sizeT hn], _, rfl, ?_⟩
      have := (h.drop off).take n
      simpa [Array.toList_extract] using this
    · cases hp
  · rename_i ha
    obtain ⟨v, hv, hr⟩ := h.get hp
    refine ⟨v, ?_, hr.one⟩
    have hv' : ds[off]? = some v := by simpa using hv
    simp [run_isAgg ha, hv']
  · cases hp

def qField (P : Program) (T : TypeId) (a : Value) (f : Nat) : QR :=
  match P.underlying T with
  | some (.struct fields) => match fields.toList[f]? with
    | some fd => match a with
      | .agg cs => match partC P fd.type cs.toList fd.offset with
        | some c => ok1 c
        | none => none
      | _ => none
    | none => none
  | _ => none

theorem qField_ok {T : TypeId} {v a c : Value} {f : Nat} {ob : Option Prop} (ha : VR2 rs hs v a) (h : qField P T a f = some (ob, c)) : QOK P w rs hs (Instr.field T v f) c := by
  unfold qField at h
  split at h
  · rename_i fields hT
    split at h
    · rename_i fd hf
      split at h
      · rename_i cs
        split at h
        · rename_i c' hp
          cases h
          obtain ⟨ds, rfl, hl⟩ := ha
          obtain ⟨u, h1, h2⟩ := partC_ok (P := P) (w := w) hl hp
          have hf' : fields[f]? = some fd := by simpa using hf
          exact QOK.of_run (v := u) (by simp [Instr.field, run_underlying hT, hf', asAgg, h1]) h2.two
        · cases h
      · cases h
    · cases h
  · cases h

/-- cells of one kind as a list -/
def one1 : Value → Option Lst
  | .int k n => some (.I k [n])
  | .bool b => some (.B [b])
  | .float k n => some (.F k [n])
  | .complex k a b => some (.C k [(a, b)])
  | _ => none
def lstOf : List Value → Option Lst
  | [] => none
  | v :: r => match r with
    | [] => one1 v
    | _ :: _ => match lstOf r with
      | some l => l.cons v
      | none => none
theorem lstOf_cells : ∀ {cs : List Value} {l : Lst}, lstOf cs = some l → l.cells = cs ∧ l.length = cs.length
  | [], l, h => by cases h
  | [v], l, h => by
    cases v <;> simp only [lstOf, one1] at h <;> cases h <;> exact ⟨rfl, rfl⟩
  | v :: u :: r, l, h => by
    simp only [lstOf] at h
    split at h
    · rename_i l' h'
      obtain ⟨h1, h2⟩ := lstOf_cells (cs := u :: r) (l := l') (by simpa only [lstOf] using h')
      obtain ⟨h3, h4⟩ := Lst.cons_cells h
      exact ⟨by rw [h3, h1], by rw [h4, h2]; rfl⟩
    · cases h
def getsL (l : Lst) : Nat → Nat → List Value
  | _, 0 => []
  | off, n + 1 => l.get off :: getsL l (off + 1) n
theorem getsL_eq {l : Lst} : ∀ {n off : Nat}, off + n ≤ l.length → getsL l off n = (l.cells.drop off).take n
  | 0, _, _ => by simp [getsL]
  | n + 1, off, h => by
    have h1 := l.get_cells off (by omega)
    obtain ⟨hb, he⟩ := List.getElem?_eq_some_iff.1 h1
    rw [getsL, getsL_eq (by omega), List.drop_eq_getElem_cons hb, he, List.take_succ_cons]
def partL (P : Program) (T : TypeId) (l : Lst) (off : Nat) : Option Value :=
  match isAggT P T with
  | some true => match sizeT P T with
    | some n => some (.agg (getsL l off n).toArray)
    | none => none
  | some false => some (l.get off)
  | none => none
theorem partL_partC {P : Program} {T : TypeId} {cs : List Value} {l : Lst} {off s : Nat} {c : Value} (hl : lstOf cs = some l) (hs : sizeT P T = some s) (h1 : 1 ≤ s) (hb : off + s ≤ l.length) (h : partL P T l off = some c) : partC P T cs off = some c := by
  obtain ⟨e1, e2⟩ := lstOf_cells hl
  unfold partL at h
  unfold partC
  split at h
  · rename_i ha
    rw [hs] at h ⊢
    dsimp only at h ⊢
    rw [← h, getsL_eq hb, e1]
  · rename_i ha
    rw [← h, ← e1]
    exact l.get_cells off (by omega)
  · cases h

def qIndex (P : Program) (rs : List Res) (T : TypeId) (a i : Value) : QR :=
  match P.underlying T with
  | some (.array len E) => match i with
    | .int _ n => match a with
      | .agg cs => match sizeT P E with
        | some s => match lstOf cs.toList with
          | some l => match Nat.ble 1 s && Nat.beq (len * s) l.length with
            | true => match partL P E l (n.toNat * s) with
              | some c => ob1 (0 ≤ n ∧ n < (len : Int)) c
              | none => none
            | false => none
          | none => match partC P E cs.toList (n.toNat * s) with
            | some c => ob1 (0 ≤ n ∧ n < (len : Int)) c
            | none => none
        | none => none
      | .map r => match r with
        | some k => match rs[k]? with
          | some (.snap l) => match isAggT P E, sizeT P E with
            | some false, some 1 => ob1 (0 ≤ n ∧ n < (len : Int) ∧ n.toNat < l.length) (l.get n.toNat)
            | _, _ => none
          | _ => none
        | none => none
      | _ => none
    | _ => none
  | _ => none

theorem Lst.get_ok {l : Lst} {ds : List Value} (h : LR (VR0 [] (fun _ => none)) ds l.cells) {n : Nat} (hn : n < l.length) : ∃ v, ds[n]? = some v ∧ VR0 [] (fun _ => none) v (l.get n) :=
  h.get (l.get_cells n hn)

theorem Lst.get_scal (l : Lst) (n : Nat) : ∀ rs hs v, VR0 [] (fun _ => none) v (l.get n) → VR0 rs hs v (l.get n) := by
  intro rs hs v h
  cases l <;> exact h

theorem Lst.cell_any {l : Lst} {u : Value} (hu : u ∈ l.cells) {v : Value} : ∀ {rs hs rs' hs'}, VR0 rs hs v u → VR0 rs' hs' v u := by
  intro rs hs rs' hs' h
  cases l <;> simp [Lst.cells] at hu
  · obtain ⟨n, _, rfl⟩ := hu; exact h
  · rcases hu with ⟨_, rfl⟩ | ⟨_, rfl⟩ <;> exact h
  · obtain ⟨n, _, rfl⟩ := hu; exact h
  · obtain ⟨a, b, _, rfl⟩ := hu; exact h

theorem qIndex_ok (H : Heap w0 M rs hs w) {T : TypeId} {v a i u c : Value} {ob : Option Prop} (ha : VR2 rs hs v a) (hi : VR2 rs hs u i) (h : qIndex P rs T a i = some (ob, c)) (hob : holdsOb ob) :
    QOK P w rs hs (Instr.index T v u) c := by
  unfold qIndex at h
  split at h
  · rename_i len E hT
    split at h
    · rename_i k n
      rw [int_of_VR hi]
      split at h
      · rename_i cs
        split at h
        · rename_i s hs1
          have key : ∀ c', partC P E cs.toList (n.toNat * s) = some c' → 0 ≤ n ∧ n < (len : Int) → QOK P w rs hs (Instr.index T v (.int k n)) c' := by
            intro c' hp hob'
            obtain ⟨ds, rfl, hl⟩ := ha
            obtain ⟨x, h1, h2⟩ := partC_ok (P := P) (w := w) hl hp
            exact QOK.of_run (v := x) (by simp [Instr.index, run_underlying hT, asIntOf, hob', run_sizeT hs1, h1]) h2.two
          split at h
          · rename_i l hlst
            split at h
            · rename_i hok
              split at h
              · rename_i c' hp
                cases h
                have hob' : 0 ≤ n ∧ n < (len : Int) := hob
                rw [Bool.and_eq_true] at hok
                have h1 : 1 ≤ s := Nat.le_of_ble_eq_true hok.1
                have h2 : len * s = l.length := Nat.eq_of_beq_eq_true hok.2
                refine key _ (partL_partC hlst hs1 h1 ?_ hp) hob'
                have h3 : n.toNat + 1 ≤ len := by omega
                have := Nat.mul_le_mul_right s h3
                rw [Nat.add_mul, Nat.one_mul] at this
                omega
              · cases h
            · cases h
          · split at h
            · rename_i c' hp
              cases h
              exact key _ hp hob
            · cases h
        · cases h
      · rename_i r
        split at h
        · rename_i k'
          split at h
          · rename_i l hk
            split at h
            · rename_i h3 h4
              cases h
              have ha' : hs k' = some v := ha
              obtain ⟨ds, rfl, hl⟩ := H.holds k' _ v hk ha'
              obtain ⟨o1, o2, o3⟩ : 0 ≤ n ∧ n < (len : Int) ∧ n.toNat < l.length := hob
              obtain ⟨x, h1, h2⟩ := Lst.get_ok hl o3
              have h1' : ds[n.toNat]? = some x := by simpa using h1
              refine QOK.of_run (v := x) ?_ (l.get_scal _ rs hs x h2).two
              simp [Instr.index, run_underlying hT, asIntOf, o1, o2, run_sizeT h4, part, run_isAgg h3, h1']
            · cases h
          · cases h
        · cases h
      · cases h
    · cases h
  · cases h

def qExtract (a : Value) (i : Nat) : QR :=
  match a with
  | .tuple cs => match cs.toList[i]? with
    | some c => ok1 c
    | none => none
  | _ => none

theorem qExtract_ok {v a c : Value} {i : Nat} {ob : Option Prop} (ha : VR2 rs hs v a) (h : qExtract a i = some (ob, c)) : QOK P w rs hs (Instr.extract v i) c := by
  unfold qExtract at h
  split at h
  · rename_i cs
    split at h
    · rename_i c' hc
      cases h
      obtain ⟨ds, rfl, hl⟩ := ha
      obtain ⟨u, hu, hr⟩ := hl.get hc
      have hu' : ds[i]? = some u := by simpa using hu
      exact QOK.of_run (v := u) (by simp [Instr.extract, hu']) hr.two
    · cases h
  · cases h

/-- the operands of a list, all told -/
def all1 (ρ : Operand → Option Value) : List Operand → Option (List Value)
  | [] => some []
  | x :: r => match ρ x, all1 ρ r with
    | some c, some cs => some (c :: cs)
    | _, _ => none

theorem all1_ok (hρ : ∀ x c, ρ x = some c → VR2 rs hs (e x) c) : ∀ {l : List Operand} {cs : List Value}, all1 ρ l = some cs → LR (VR2 rs hs) (l.map e) cs
  | [], cs, h => by simp [all1] at h; subst h; exact LR.nil
  | x :: r, cs, h => by
    simp only [all1] at h
    split at h
    · rename_i h1 h2; cases h; exact LR.cons (hρ _ _ h1) (all1_ok hρ h2)
    · cases h

def qMakeFunc (ρ : Operand → Option Value) (fn : Fn) (first caps : Array Operand) : QR :=
  match fn with
  | .func f => match all1 ρ first.toList with
    | some fs => match all1 ρ caps.toList with
      | some cs => match fs.all small, cs.all small with
        | true, true => ok1 (.func (.func f) fs.toArray cs.toArray)
        | _, _ => none
      | none => none
    | none => none
  | _ => none

theorem small_ok {vs cs : List Value} (hall : cs.all small = true) (h1 : LR (VR2 rs hs) vs cs) : LR (VRa rs hs) vs cs :=
  ⟨h1.1, fun i v u hv hu => VR2.small (List.all_eq_true.1 hall u (List.mem_of_getElem? hu)) (h1.2 i v u hv hu)⟩

theorem qMakeFunc_ok (hρ : ∀ x c, ρ x = some c → VR2 rs hs (e x) c) {fn : Fn} {first caps : Array Operand} {c : Value} {ob : Option Prop} (h : qMakeFunc ρ fn first caps = some (ob, c)) :
    QOK P w rs hs (Instr.makeFunc fn (first.map e) (caps.map e)) c := by
  unfold qMakeFunc at h
  split at h
  · split at h
    · rename_i fs hfs
      split at h
      · rename_i cs hcs
        split at h
        · rename_i ha1 ha2
          cases h
          exact QOK.of_run rfl ⟨first.map e, caps.map e, rfl, by simpa using small_ok ha1 (all1_ok hρ hfs), by simpa using small_ok ha2 (all1_ok hρ hcs)⟩
        · cases h
      · cases h
    · cases h
  · cases h

/-! ### building structs and arrays -/
def allP (ρ : Operand → Option Value) : List (Nat × Operand) → Option (List (Nat × Value))
  | [] => some []
  | (i, x) :: r => match ρ x, allP ρ r with
    | some c, some cs => some ((i, c) :: cs)
    | _, _ => none

def cellsL (v : Value) : List Value :=
  match v with
  | .agg cs => cs.toList
  | v => [v]

def fillC (place : Nat → Option (Nat × Nat)) (cells : List Value) : List (Nat × Value) → Option (List Value)
  | [] => some cells
  | (i, v) :: rest => match place i with
    | none => none
    | some (off, size) => match Nat.beq (cellsL v).length size && Nat.ble (off + size) cells.length with
      | true => fillC place (cells.take off ++ cellsL v ++ cells.drop (off + size)) rest
      | false => none

theorem foldl_splice (off : Nat) : ∀ (vs : List Value) (k : Nat) (cells : Array Value), off + k + vs.length ≤ cells.size →
    ((vs.zipIdx k).foldl (fun cs (p : Value × Nat) => cs.setIfInBounds (off + p.2) p.1) cells).toList = cells.toList.take (off + k) ++ vs ++ cells.toList.drop (off + k + vs.length)
  | [], k, cells, _ => by simp
  | v :: vs, k, cells, h => by
    simp only [List.zipIdx_cons, List.foldl_cons, List.length_cons] at h ⊢
    rw [foldl_splice off vs (k + 1) _ (by simp; omega)]
    have hk : off + k < cells.toList.length := by simp; omega
    simp only [Array.toList_setIfInBounds]
    rw [List.take_set, List.drop_set_of_lt (by omega)]
    have e1 : off + (k + 1) = off + k + 1 := by omega
    have e2 : off + (k + 1) + vs.length = off + k + (vs.length + 1) := by omega
    rw [e2, e1, List.take_succ_eq_append_getElem hk, List.set_append_right _ _ (by simp; omega)]
    have e3 : (cells.toList.take (off + k)).length = off + k := by simp; omega
    rw [e3, Nat.sub_self]
    simp

/-- of one cell, for sure -/
def oneC : Value → Bool
  | .bool _ | .int _ _ | .float _ _ | .complex _ _ _ | .string _ | .pointer _ | .slice _ _ _ | .nilFunc | .nilIface => true
  | _ => false

theorem VR0.isOne {v c : Value} (h1 : oneC c = true) (h : VR0 rs hs v c) : v.cells = #[v] ∧ v.oneCell' = true := by
  cases c with
  | bool b => rw [show v = .bool b from h]; exact ⟨rfl, rfl⟩
  | int k n => rw [show v = .int k n from h]; exact ⟨rfl, rfl⟩
  | float k x => obtain ⟨b, rfl, _⟩ := h; exact ⟨rfl, rfl⟩
  | complex k x y => obtain ⟨a, b, rfl, _⟩ := h; exact ⟨rfl, rfl⟩
  | string s => rw [show v = .string s from h]; exact ⟨rfl, rfl⟩
  | pointer a =>
    cases a with
    | none => rw [show v = .pointer none from h]; exact ⟨rfl, rfl⟩
    | some p => obtain ⟨⟨_, _, _, _, rfl⟩, _⟩ := h; exact ⟨rfl, rfl⟩
  | slice a n q =>
    cases a with
    | none => obtain ⟨_, _, rfl⟩ := h; exact ⟨rfl, rfl⟩
    | some p =>
      cases q with
      | zero => obtain ⟨_, ⟨_, _, rfl, _⟩, _⟩ := h; exact ⟨rfl, rfl⟩
      | succ q => obtain ⟨_, _, rfl, _⟩ := h; exact ⟨rfl, rfl⟩
  | nilFunc => rw [show v = .nilFunc from h]; exact ⟨rfl, rfl⟩
  | nilIface => rw [show v = .nilIface from h]; exact ⟨rfl, rfl⟩
  | _ => simp [oneC] at h1

/-- one cell, or a struct -/
def oneOrAgg (v : Value) : Bool :=
  match v with
  | .agg _ => true
  | v => oneC v

theorem VR2.cells {v c : Value} (h1 : oneOrAgg c = true) (h : VR2 rs hs v c) : LR (VR0 rs hs) v.cells.toList (cellsL c) := by
  cases c with
  | agg cs => obtain ⟨ds, rfl, hl⟩ := h; exact hl
  | tuple cs => simp [oneOrAgg, oneC] at h1
  | func f a b => simp [oneOrAgg, oneC] at h1
  | map r => simp [oneOrAgg, oneC] at h1
  | chan r => simp [oneOrAgg, oneC] at h1
  | iface t x => simp [oneOrAgg, oneC] at h1
  | _ =>
    have h' := VR2.scal (by rfl) h
    have := VR0.isOne (by exact h1) h'
    rw [this.1]
    exact LR.cons h' LR.nil

theorem fillC_ok (place : Nat → Option (Nat × Nat)) : ∀ (parts : List (Nat × Value)) (cparts : List (Nat × Value)) (cells : Array Value) (ccells cs : List Value),
    cparts.all (fun p => oneOrAgg p.2) = true →
    parts.map (·.1) = cparts.map (·.1) → LR (VR2 rs hs) (parts.map (·.2)) (cparts.map (·.2)) → LR (VR0 rs hs) cells.toList ccells → fillC place ccells cparts = some cs →
    ∃ ds, Instr.fill place cells parts = some ds ∧ LR (VR0 rs hs) ds.toList cs
  | [], [], cells, ccells, cs, _, _, _, h3, h4 => by simp [fillC] at h4; subst h4; exact ⟨cells, rfl, h3⟩
  | [], p :: r, _, _, _, _, h1, _, _, _ => by simp at h1
  | p :: r, [], _, _, _, _, h1, _, _, _ => by simp at h1
  | (i, v) :: rest, (j, c) :: crest, cells, ccells, cs, hall, h1, h2, h3, h4 => by
    simp only [List.map_cons, List.cons.injEq] at h1
    obtain ⟨rfl, h1⟩ := h1
    simp only [List.all_cons, Bool.and_eq_true] at hall
    have hv := VR2.cells hall.1 h2.head
    simp only [fillC] at h4
    simp only [Instr.fill]
    cases hp : place i with
    | none => simp [hp] at h4
    | some os =>
      obtain ⟨off, size⟩ := os
      simp only [hp] at h4
      split at h4
      · rename_i hb
        simp only [Bool.and_eq_true, Nat.ble_eq] at hb
        have hb1 := Nat.eq_of_beq_eq_true hb.1
        have hsz : v.cells.size = size := by have := hv.1; simp at this; omega
        have hcs : cells.size = ccells.length := by have := h3.1; simpa using this
        have hcond : (decide (v.cells.size ≠ size) || decide (off + v.cells.size > cells.size)) = false := by simp; omega
        simp only [hcond, Bool.false_eq_true, if_false]
        refine fillC_ok place rest crest _ _ cs hall.2 h1 h2.tail ?_ h4
        have e := foldl_splice off v.cells.toList 0 cells (by simp; omega)
        have e2 : (v.cells.zipIdx.foldl (fun cs (p : Value × Nat) => cs.setIfInBounds (off + p.2) p.1) cells) = ((v.cells.toList.zipIdx 0).foldl (fun cs (p : Value × Nat) => cs.setIfInBounds (off + p.2) p.1) cells) := by
          rw [← Array.foldl_toList, Array.toList_zipIdx]
        rw [e2, e]
        simp only [Nat.add_zero, Array.length_toList, hsz]
        exact ((h3.take off).append hv).append (h3.drop _)
      · cases h4

/-- where the fields of a struct lie -/
def placesC (P : Program) : List Field → Option (List (Nat × Nat))
  | [] => some []
  | f :: r => match sizeT P f.type, placesC P r with
    | some n, some l => some ((f.offset, n) :: l)
    | _, _ => none

theorem placesC_ok : ∀ {fs : List Field} {l : List (Nat × Nat)}, placesC P fs = some l → fs.mapM (fun f => (P.info? f.type).map fun i => (f.offset, i.size)) = some l
  | [], l, h => by simp [placesC] at h; subst h; rfl
  | f :: r, l, h => by
    simp only [placesC] at h
    split at h
    · rename_i n l' h1 h2
      cases h
      unfold sizeT at h1
      split at h1
      · rename_i i hi
        cases h1
        simp [List.mapM_cons, hi, placesC_ok h2]
      · cases h1
    · cases h

/-- the canonical cells of a type's zero -/
def zeroC (P : Program) (T : TypeId) : Option (List Value) :=
  match P.info? T with
  | some i => match i.zero with
    | some z => cconstL (cellsL z)
    | none => none
  | none => none

theorem zeroC_ok {T : TypeId} {cs : List Value} (h : zeroC P T = some cs) : ∃ i z, P.info? T = some i ∧ i.zero = some z ∧ LR (VR0 rs hs) z.cells.toList cs := by
  unfold zeroC at h
  split at h
  · rename_i i hi
    split at h
    · rename_i z hz
      refine ⟨i, z, hi, hz, ?_⟩
      have : z.cells.toList = cellsL z := by cases z <;> rfl
      rw [this]
      exact cconstL_ok h
    · cases h
  · cases h

def qBuild (P : Program) (ρ : Operand → Option Value) (T : TypeId) (parts : Array (Nat × Operand)) : QR :=
  match allP ρ parts.toList with
  | some ps => match ps.all (fun p => oneOrAgg p.2) with
    | true => match zeroC P T with
      | some zs => match P.underlying T with
        | some (.struct fields) => match placesC P fields.toList with
          | some pl => match fillC (fun i => pl[i]?) zs ps with
            | some cs => ok1 (.agg cs.toArray)
            | none => none
          | none => none
        | some (.array _ E) => match sizeT P E with
          | some n => match fillC (fun i => some (i * n, n)) zs ps with
            | some cs => ok1 (.agg cs.toArray)
            | none => none
          | none => none
        | _ => none
      | none => none
    | false => none
  | none => none

theorem allP_ok (hρ : ∀ x c, ρ x = some c → VR2 rs hs (e x) c) : ∀ {l : List (Nat × Operand)} {cs : List (Nat × Value)}, allP ρ l = some cs →
    (l.map fun p => (p.1, e p.2)).map (·.1) = cs.map (·.1) ∧ LR (VR2 rs hs) ((l.map fun p => (p.1, e p.2)).map (·.2)) (cs.map (·.2))
  | [], cs, h => by simp [allP] at h; subst h; exact ⟨rfl, LR.nil⟩
  | (i, x) :: r, cs, h => by
    simp only [allP] at h
    split at h
    · rename_i h1 h2
      cases h
      obtain ⟨h3, h4⟩ := allP_ok hρ h2
      exact ⟨by simpa using h3, LR.cons (hρ _ _ h1) h4⟩
    · cases h

theorem qBuild_ok (hρ : ∀ x c, ρ x = some c → VR2 rs hs (e x) c) {T : TypeId} {parts : Array (Nat × Operand)} {c : Value} {ob : Option Prop} (h : qBuild P ρ T parts = some (ob, c)) :
    QOK P w rs hs (Instr.build T (parts.map fun (i, x) => (i, e x))) c := by
  unfold qBuild at h
  split at h
  · rename_i ps hps
    obtain ⟨h1, h2⟩ := allP_ok hρ hps
    split at h
    · rename_i hall
      split at h
      · rename_i zs hz
        obtain ⟨it, z, hi, hzz, hl⟩ := zeroC_ok (rs := rs) (hs := hs) hz
        have ee : (parts.map fun (i, x) => (i, e x)).toList = parts.toList.map fun p => (p.1, e p.2) := by simp
        split at h
        · rename_i fields hT
          split at h
          · rename_i pl hpl
            split at h
            · rename_i cs hf
              cases h
              obtain ⟨ds, h3, h4⟩ := fillC_ok _ _ _ _ _ _ hall h1 h2 hl hf
              refine QOK.of_run (v := .agg ds) (run_build w T _ ds ?_) ⟨ds, rfl, by simpa using h4⟩
              rw [ee]
              simp only [Program.built, hi, hT, hzz, placesC_ok hpl]
              simpa using h3
            · cases h
          · cases h
        · rename_i n E hT
          split at h
          · rename_i sz hsz
            split at h
            · rename_i cs hf
              cases h
              obtain ⟨ds, h3, h4⟩ := fillC_ok _ _ _ _ _ _ hall h1 h2 hl hf
              refine QOK.of_run (v := .agg ds) (run_build w T _ ds ?_) ⟨ds, rfl, by simpa using h4⟩
              rw [ee]
              unfold sizeT at hsz
              split at hsz
              · rename_i ie hie
                cases hsz
                simp only [Program.built, hi, hT, hzz, hie]
                exact h3
              · cases hsz
            · cases h
          · cases h
        · cases h
      · cases h
    · cases h
  · cases h

/-! ### addresses and memory -/
theorem Addr.add_add (a : Addr) (n m : Nat) : (a.add n).add m = a.add (n + m) := by
  unfold Addr.add
  by_cases hn : n = 0
  · simp [hn]
  · by_cases hm : m = 0
    · simp [hm]
    · have : n + m ≠ 0 := by omega
      simp [hn, hm, Nat.add_assoc]
theorem Addr.add_block (a : Addr) (n : Nat) : (a.add n).block = a.block := by unfold Addr.add; split <;> rfl
theorem Addr.add_zero' (b n : Nat) : (⟨b, 0, none⟩ : Addr).add n = ⟨b, n, none⟩ := by unfold Addr.add; split <;> simp_all

def qNil (a : Value) : QR :=
  match a with
  | .pointer p => match p with
    | some p => ok1 (.pointer (some p))
    | none => none
  | _ => none

def qFieldAddr (P : Program) (rs : List Res) (T : TypeId) (a : Value) (f : Nat) : QR :=
  match P.underlying T with
  | some (.struct fields) => match fields.toList[f]? with
    | some fd => match sizeT P fd.type with
      | some (_ + 1) => match a with
        | .pointer p => match p with
          | some p => match rs[p.block]? with
            | some (.box _ _) => ok1 (.pointer (some ⟨p.block, p.off + fd.offset, none⟩))
            | some (.rob _) => ok1 (.pointer (some ⟨p.block, p.off + fd.offset, none⟩))
            | _ => none
          | none => none
        | _ => none
      | _ => none
    | none => none
  | _ => none

theorem qFieldAddr_ok {T : TypeId} {v a c : Value} {f : Nat} {ob : Option Prop} (ha : VR2 rs hs v a) (h : qFieldAddr P rs T a f = some (ob, c)) : QOK P w rs hs (Instr.fieldAt T v f) c := by
  unfold qFieldAddr at h
  split at h
  · rename_i fields hT
    split at h
    · rename_i fd hf
      split at h
      · rename_i n hn
        split at h
        · split at h
          · rename_i p
            have hf' : fields[f]? = some fd := by simpa using hf
            obtain ⟨⟨h0, b, h1, h2, rfl⟩, h3⟩ := ha
            have run : (Instr.fieldAt T (.pointer (some (b.add p.off))) f).run P w = .ok (.pointer (some (b.add (p.off + fd.offset)))) w := by
              simp [Instr.fieldAt, run_underlying hT, hf', Instr.sureAddr, fieldPlace, run_sizeT hn, Addr.add_add]
            split at h
            · rename_i T' cs hr
              cases h
              exact QOK.of_run run ⟨⟨h0, b, h1, h2, rfl⟩, fun r n hr' hn' => by rw [hr] at hr'; cases hr'; cases hn'⟩
            · rename_i cs hr
              cases h
              exact QOK.of_run run ⟨⟨h0, b, h1, h2, rfl⟩, fun r n hr' hn' => by rw [hr] at hr'; cases hr'; cases hn'⟩
            · cases h
          · cases h
        · cases h
      · cases h
    · cases h
  · cases h

theorem qNil_ok {v a c : Value} {ob : Option Prop} (ha : VR2 rs hs v a) (h : qNil a = some (ob, c)) : (∃ p, v = .pointer (some p)) ∧ VR2 rs hs v c := by
  unfold qNil at h
  split at h
  · split at h
    · cases h
      obtain ⟨⟨h0, b, h1, h2, rfl⟩, h3⟩ := ha
      exact ⟨⟨_, rfl⟩, ⟨h0, b, h1, h2, rfl⟩, h3⟩
    · cases h
  · cases h

/-- list-like resources behind a slice -/
def sliceLst : Res → Option Lst
  | .row _ l => some l
  | .ro l => some l
  | _ => none

theorem sliceLst_len {r : Res} {l : Lst} (h : sliceLst r = some l) : r.len = some l.length := by
  cases r <;> simp [sliceLst] at h <;> subst h <;> rfl

theorem sliceLst_base {r : Res} {l : Lst} {h : Value} (hr : r.holds rs hs w h) (hl : sliceLst r = some l) (hn : 0 < l.length) : ∃ a cap, h = .slice (some a) l.length cap := by
  cases r <;> simp [sliceLst] at hl <;> subst hl
  · obtain ⟨g, cap, e, h1⟩ := hr
    rcases h1 with ⟨_, h1⟩ | ⟨b, ds, e2, _⟩
    · omega
    · subst e2; exact ⟨_, cap, e⟩
  · obtain ⟨g, cap, e, _, h1⟩ := hr
    rcases h1 with h1 | ⟨a, e2, _⟩
    · omega
    · subst e2; exact ⟨_, cap, e⟩

/-- where the element x of a slice lies in its resource -/
def vOff (p : Addr) (q x : Nat) : Nat := match q with | 0 => x | _ + 1 => p.off + x

def qIndexAddr (P : Program) (rs : List Res) (T : TypeId) (a i : Value) : QR :=
  match i with
  | .int _ n => match P.underlying T with
    | some (.slice E) => match sizeT P E with
      | some 1 => match a with
        | .slice p m q => match p with
          | some p => match rs[p.block]? with
            | some r => match sliceLst r with
              | some _ => ob1 (0 ≤ n ∧ n < (m : Int)) (.pointer (some ⟨p.block, vOff p q n.toNat, none⟩))
              | none => none
            | none => none
          | none => none
        | _ => none
      | _ => none
    | some (.array len E) => match sizeT P E with
      | some 1 => match a with
        | .pointer p => match p with
          | some p => match Nat.beq p.off 0 with
            | true => match rs[p.block]? with
              | some (.arr _ l) => ob1 (0 ≤ n ∧ n < (len : Int) ∧ n.toNat < l.length) (.pointer (some ⟨p.block, n.toNat, none⟩))
              | _ => none
            | false => none
          | none => none
        | _ => none
      | _ => none
    | _ => none
  | _ => none

theorem qIndexAddr_ok (H : Heap w0 M rs hs w) {T : TypeId} {v a i u c : Value} {ob : Option Prop} (ha : VR2 rs hs v a) (hi : VR2 rs hs u i) (h : qIndexAddr P rs T a i = some (ob, c)) (hob : holdsOb ob) :
    QOK P w rs hs (Instr.indexAt T v u) c := by
  unfold qIndexAddr at h
  split at h
  · rename_i k n
    rw [int_of_VR hi]
    split at h
    · rename_i E hT
      split at h
      · rename_i hE
        split at h
        · rename_i p m q
          split at h
          · rename_i p
            split at h
            · rename_i r hr
              split at h
              · rename_i l hl
                cases h
                obtain ⟨o1, o2⟩ : 0 ≤ n ∧ n < (m : Int) := hob
                have run : ∀ (b : Addr) (cap : Nat), (Instr.indexAt T (.slice (some b) m cap) (.int k n)).run P w = .ok (.pointer (some (b.add n.toNat))) w := by
                  intro b cap
                  simp [Instr.indexAt, asIntOf, run_underlying hT, o1, o2, run_sizeT hE]
                have hlen := sliceLst_len hl
                cases q with
                | zero =>
                  obtain ⟨h1, ⟨oa, cap, e1, _⟩, h3⟩ := ha
                  have hm := h3 r _ hr hlen
                  obtain ⟨b, cap', e2⟩ := sliceLst_base (H.holds _ _ _ hr h1) hl (by omega)
                  rw [← hm] at e2
                  subst e2
                  refine QOK.of_run (run b cap') ⟨⟨_, b, h1, rfl, rfl⟩, fun r' n' hr' hn' => ?_⟩
                  simp only [hr, Option.some.injEq] at hr'
                  subst hr'
                  rw [hlen] at hn'
                  cases hn'
                  show n.toNat < l.length
                  omega
                | succ q =>
                  obtain ⟨oa, cap, e1, _, h2⟩ := ha
                  rcases h2 with h2 | ⟨h0, b, h2, h3, h4, h5⟩
                  · omega
                  · have hm := h5 r _ hr hlen
                    subst h4; subst e1
                    refine QOK.of_run (run _ cap) ⟨⟨h0, b, h2, h3, by rw [Addr.add_add]; rfl⟩, fun r' n' hr' hn' => ?_⟩
                    simp only [hr, Option.some.injEq] at hr'
                    subst hr'
                    rw [hlen] at hn'
                    cases hn'
                    show p.off + n.toNat < l.length
                    omega
              · cases h
            · cases h
          · cases h
        · cases h
      · cases h
    · rename_i len E hT
      split at h
      · rename_i hE
        split at h
        · split at h
          · rename_i p
            split at h
            · rename_i hz
              have hz' := Nat.eq_of_beq_eq_true hz
              split at h
              · rename_i T' l hr
                cases h
                obtain ⟨o1, o2, o3⟩ : 0 ≤ n ∧ n < (len : Int) ∧ n.toNat < l.length := hob
                obtain ⟨⟨h0, b, h1, h2, rfl⟩, h3⟩ := ha
                rw [hz']
                have hb0 : b.add 0 = b := rfl
                refine QOK.of_run (v := .pointer (some (b.add n.toNat))) ?_ ⟨⟨h0, b, h1, h2, rfl⟩, fun r' n' hr' hn' => ?_⟩
                · simp [Instr.indexAt, asIntOf, run_underlying hT, Instr.sureAddr, o1, o2, run_sizeT hE, hb0]
                · simp only [hr, Option.some.injEq] at hr'
                  subst hr'
                  cases hn'
                  exact o3
              · cases h
            · cases h
          · cases h
        · cases h
      · cases h
    · cases h
  · cases h

end
end Go.K
