/- What an operation looks at. -/
import Derived.Test.YtblejagpndbicaaK8
set_option linter.unusedSimpArgs false
namespace Go.K
open Go.RowKit

/-- no resource -/
def deadish : Option Res → Bool
  | none => true
  | some .dead => true
  | _ => false
/-- the slot k holds the same -/
def Same (rs rs' : List Res) (k : Nat) : Prop := rs[k]? = rs'[k]? ∨ (deadish rs[k]? = true ∧ deadish rs'[k]? = true)

theorem Same.symm {rs rs' : List Res} {k : Nat} (h : Same rs rs' k) : Same rs' rs k := h.imp Eq.symm fun h => ⟨h.2, h.1⟩
theorem Same.refl (rs : List Res) (k : Nat) : Same rs rs k := .inl rfl
theorem Same.trans {rs rs' rs'' : List Res} {k : Nat} (h : Same rs rs' k) (g : Same rs' rs'' k) : Same rs rs'' k := by
  rcases h with h | ⟨h1, h2⟩ <;> rcases g with g | ⟨g1, g2⟩
  · exact .inl (h.trans g)
  · exact .inr ⟨by rw [h]; exact g1, g2⟩
  · exact .inr ⟨h1, by rw [← g]; exact h2⟩
  · exact .inr ⟨h1, g2⟩

theorem deadish_cases {o : Option Res} (h : deadish o = true) : o = none ∨ o = some .dead := by
  cases o with
  | none => exact .inl rfl
  | some r => cases r <;> simp [deadish] at h; exact .inr rfl

/-- a way to look at a slot that sees nothing in a dead one -/
theorem Same.look {rs rs' : List Res} {k : Nat} {α : Type} (h : Same rs rs' k) (f : Option Res → α) (h0 : f none = f (some .dead)) : f rs[k]? = f rs'[k]? := by
  rcases h with h | ⟨h1, h2⟩
  · rw [h]
  · rcases deadish_cases h1 with e1 | e1 <;> rcases deadish_cases h2 with e2 | e2 <;> rw [e1, e2] <;> first | rfl | exact h0 | exact h0.symm

/-- the slot that a value names -/
def slotsV (v : Value) : List Nat :=
  match v with
  | .pointer p => match p with
    | some p => [p.block]
    | none => []
  | .slice p _ _ => match p with
    | some p => [p.block]
    | none => []
  | .map r => match r with
    | some k => [k]
    | none => []
  | _ => []
def slotsO (o : Option Value) : List Nat := match o with
  | some v => slotsV v
  | none => []

/-- the slots that an operation looks at -/
def touch (ρ : Operand → Option Value) (op : Op) : List Nat :=
  match op with
  | .load _ a => slotsO (ρ a)
  | .binOp _ _ x _ _ => slotsO (ρ x)
  | .fieldAddr _ a _ => slotsO (ρ a)
  | .indexAddr _ x _ => slotsO (ρ x)
  | .index _ x _ => slotsO (ρ x)
  | .slice _ x _ _ _ => slotsO (ρ x)
  | .store _ a _ => slotsO (ρ a)
  | .call c => match c.callee with
    | .builtin b => match b with
      | .append => match c.args.toList with
        | [x, y] => slotsO (ρ x) ++ slotsO (ρ y)
        | _ => []
      | .copy => match c.args.toList with
        | [x, y] => slotsO (ρ x) ++ slotsO (ρ y)
        | _ => []
      | _ => []
    | _ => []
  | _ => []

section
variable {P : Program} {rs rs' : List Res}

theorem qLoad_congr {T : TypeId} {a : Value} (h : ∀ k, k ∈ slotsV a → Same rs rs' k) : qLoad P rs T a = qLoad P rs' T a := by
  cases a with
  | pointer p => cases p with
    | none => rfl
    | some p =>
      exact (h p.block (by simp [slotsV])).look (fun o => match o with
        | some r => match r with
          | .box _ cs => match loadC P T cs p.off with
            | some c => ok1 c
            | none => none
          | .rob cs => match loadC P T cs p.off with
            | some c => ok1 c
            | none => none
          | r => match anyLst r with
            | some l => match isAggT P T with
              | some false => ok1 (l.get p.off)
              | _ => none
            | none => none
        | none => none) rfl
  | _ => rfl
theorem qBinN_congr {op : BinOp} {T : TypeId} {y : Operand} {a b : Value} (h : ∀ k, k ∈ slotsV a → Same rs rs' k) : qBinN P rs op T y a b = qBinN P rs' op T y a b := by
  cases a with
  | slice p n q => cases p with
    | none => rfl
    | some p =>
      cases b with
      | slice p' n' q' => cases p' with
        | none =>
          exact (h p.block (by simp [slotsV])).look (fun o => match P.underlying T with
            | some (.slice _) => match o with
              | some r => match sliceLst r with
                | some _ => match op with
                  | .eql => ob1 (n ≠ 0) (.bool false)
                  | .neq => ob1 (n ≠ 0) (.bool true)
                  | _ => none
                | none => none
              | none => none
            | _ => none) (by rfl)
        | some _ => rfl
      | _ => rfl
  | _ => rfl
theorem qFieldAddr_congr {T : TypeId} {a : Value} {f : Nat} (h : ∀ k, k ∈ slotsV a → Same rs rs' k) : qFieldAddr P rs T a f = qFieldAddr P rs' T a f := by
  unfold qFieldAddr
  cases a with
  | pointer p => cases p with
    | none => rfl
    | some p =>
      rcases h p.block (by simp [slotsV]) with e | ⟨d1, d2⟩
      · simp only [e]
      · rcases deadish_cases d1 with e1 | e1 <;> rcases deadish_cases d2 with e2 | e2 <;> simp only [e1, e2, sliceLst, anyLst]
  | _ => rfl
theorem qIndexAddr_congr {T : TypeId} {a i : Value} (h : ∀ k, k ∈ slotsV a → Same rs rs' k) : qIndexAddr P rs T a i = qIndexAddr P rs' T a i := by
  unfold qIndexAddr
  cases i <;> try rfl
  rename_i ki n
  cases a with
  | pointer p => cases p with
    | none => rfl
    | some p =>
      rcases h p.block (by simp [slotsV]) with e | ⟨d1, d2⟩
      · simp only [e]
      · rcases deadish_cases d1 with e1 | e1 <;> rcases deadish_cases d2 with e2 | e2 <;> simp only [e1, e2, sliceLst, anyLst]
  | slice p m q => cases p with
    | none => rfl
    | some p =>
      rcases h p.block (by simp [slotsV]) with e | ⟨d1, d2⟩
      · simp only [e]
      · rcases deadish_cases d1 with e1 | e1 <;> rcases deadish_cases d2 with e2 | e2 <;> simp only [e1, e2, sliceLst, anyLst]
  | _ => rfl
theorem qIndex_congr {T : TypeId} {a i : Value} (h : ∀ k, k ∈ slotsV a → Same rs rs' k) : qIndex P rs T a i = qIndex P rs' T a i := by
  unfold qIndex
  cases i <;> try rfl
  rename_i ki n
  cases a with
  | map r => cases r with
    | none => rfl
    | some k =>
      rcases h k (by simp [slotsV]) with e | ⟨d1, d2⟩
      · simp only [e]
      · rcases deadish_cases d1 with e1 | e1 <;> rcases deadish_cases d2 with e2 | e2 <;> simp only [e1, e2, sliceLst, anyLst]
  | _ => rfl
theorem shortens_congr {a : Value} {lo mx : Option Operand} (h : ∀ k, k ∈ slotsV a → Same rs rs' k) : shortens rs a lo mx = shortens rs' a lo mx := by
  unfold shortens
  cases a with
  | slice p m q => cases p with
    | none => rfl
    | some p =>
      rcases h p.block (by simp [slotsV]) with e | ⟨d1, d2⟩
      · simp only [e]
      · rcases deadish_cases d1 with e1 | e1 <;> rcases deadish_cases d2 with e2 | e2 <;> simp only [e1, e2, sliceLst, anyLst]
  | _ => rfl
theorem qSlice_congr {T : TypeId} {a : Value} {lo hi mx : Option Value} (h : ∀ k, k ∈ slotsV a → Same rs rs' k) : qSlice P rs T a lo hi mx = qSlice P rs' T a lo hi mx := by
  unfold qSlice
  cases a with
  | slice p n q => cases p with
    | none => rfl
    | some p =>
      rcases h p.block (by simp [slotsV]) with e | ⟨d1, d2⟩
      · simp only [e]
      · rcases deadish_cases d1 with e1 | e1 <;> rcases deadish_cases d2 with e2 | e2 <;> simp only [e1, e2, sliceLst, anyLst]
  | _ => rfl

variable {exts : List (FuncId × ExtK)} {ρ ρ' : Operand → Option Value}

theorem all1_congr : ∀ {l : List Operand}, (∀ x, x ∈ l → ρ x = ρ' x) → all1 ρ l = all1 ρ' l
  | [], _ => rfl
  | x :: r, h => by simp only [all1, h x (by simp), all1_congr (l := r) fun y hy => h y (by simp [hy])]
theorem allP_congr : ∀ {l : List (Nat × Operand)}, (∀ x, x ∈ l.map (·.2) → ρ x = ρ' x) → allP ρ l = allP ρ' l
  | [], _ => rfl
  | (i, x) :: r, h => by simp only [allP, h x (by simp), allP_congr (l := r) fun y hy => h y (by simp at hy ⊢; exact .inr hy)]

theorem qop_congr {op : Op} (hρ : ∀ x, x ∈ op.operands.toList → ρ x = ρ' x) (hrs : ∀ k, k ∈ touch ρ op → Same rs rs' k) : qop P exts rs ρ op = qop P exts rs' ρ' op := by
  cases op <;> try rfl
  case move x => simp only [qop, hρ x (by simp [Op.operands])]
  case assign x => simp only [qop, hρ x (by simp [Op.operands])]
  case pick c a b => simp only [qop, hρ c (by simp [Op.operands]), hρ a (by simp [Op.operands]), hρ b (by simp [Op.operands])]
  case build T ps =>
    have : allP ρ ps.toList = allP ρ' ps.toList := allP_congr fun x hx => hρ x (by simpa [Op.operands] using hx)
    simp only [qop, qBuild, this]
  case load T a =>
    simp only [qop, ← hρ a (by simp [Op.operands])]
    cases h : ρ a with
    | none => rfl
    | some v => exact qLoad_congr fun k hk => hrs k (by simpa [touch, h, slotsO] using hk)
  case nilCheck x => simp only [qop, hρ x (by simp [Op.operands])]
  case binOp o T x y U =>
    simp only [qop, ← hρ x (by simp [Op.operands]), ← hρ y (by simp [Op.operands])]
    cases h : ρ x with
    | none => rfl
    | some v =>
      cases h2 : ρ y with
      | none => rfl
      | some u => exact qBinN_congr fun k hk => hrs k (by simpa [touch, h, slotsO] using hk)
  case unOp o T x => simp only [qop, hρ x (by simp [Op.operands])]
  case convert s d x => simp only [qop, hρ x (by simp [Op.operands])]
  case makeFunc fn first caps =>
    have h1 : all1 ρ first.toList = all1 ρ' first.toList := all1_congr fun x hx => hρ x (by simp [Op.operands] at hx ⊢; exact .inl hx)
    have h2 : all1 ρ caps.toList = all1 ρ' caps.toList := all1_congr fun x hx => hρ x (by simp [Op.operands] at hx ⊢; exact .inr hx)
    simp only [qop, qMakeFunc, h1, h2]
  case slice T x lo hi mx =>
    have h1 := hρ x (by simp [Op.operands])
    have h2 : optO ρ lo = optO ρ' lo := by
      cases lo with
      | none => rfl
      | some y => simp only [optO, hρ y (by simp [Op.operands])]
    have h3 : optO ρ hi = optO ρ' hi := by
      cases hi with
      | none => rfl
      | some y => simp only [optO, hρ y (by simp [Op.operands])]
    have h4 : optO ρ mx = optO ρ' mx := by
      cases mx with
      | none => rfl
      | some y => simp only [optO, hρ y (by simp [Op.operands])]
    simp only [qop, ← h1, h2, h3, h4]
    cases h : ρ x with
    | none => rfl
    | some v =>
      have hs : ∀ k, k ∈ slotsV v → Same rs rs' k := fun k hk => hrs k (by simpa [touch, h, slotsO] using hk)
      cases optO ρ' lo <;> cases optO ρ' hi <;> cases optO ρ' mx <;> simp only [shortens_congr hs, qSlice_congr hs]
  case fieldAddr T x f =>
    simp only [qop, ← hρ x (by simp [Op.operands])]
    cases h : ρ x with
    | none => rfl
    | some v => exact qFieldAddr_congr fun k hk => hrs k (by simpa [touch, h, slotsO] using hk)
  case field T x f => simp only [qop, hρ x (by simp [Op.operands])]
  case indexAddr T x i =>
    simp only [qop, ← hρ x (by simp [Op.operands]), ← hρ i (by simp [Op.operands])]
    cases h : ρ x with
    | none => rfl
    | some v => cases ρ i with
      | none => rfl
      | some u => exact qIndexAddr_congr fun k hk => hrs k (by simpa [touch, h, slotsO] using hk)
  case index T x i =>
    simp only [qop, ← hρ x (by simp [Op.operands]), ← hρ i (by simp [Op.operands])]
    cases h : ρ x with
    | none => rfl
    | some v => cases ρ i with
      | none => rfl
      | some u => exact qIndex_congr fun k hk => hrs k (by simpa [touch, h, slotsO] using hk)
  case extract x i => simp only [qop, hρ x (by simp [Op.operands])]
  case call c =>
    have : all1 ρ c.args.toList = all1 ρ' c.args.toList := all1_congr fun x hx => hρ x (by simp [Op.operands, Call.operands]; exact .inr (by simpa using hx))
    simp only [qop, this]

theorem eStore_congr {T : TypeId} {a v : Value} (h : ∀ k, k ∈ slotsV a → Same rs rs' k) : eStore P rs T a v = eStore P rs' T a v := by
  unfold eStore
  cases a with
  | pointer p => cases p with
    | none => rfl
    | some p =>
      rcases h p.block (by simp [slotsV]) with e | ⟨d1, d2⟩
      · simp only [e]
      · rcases deadish_cases d1 with e1 | e1 <;> rcases deadish_cases d2 with e2 | e2 <;> simp only [e1, e2, sliceLst, anyLst]
  | _ => rfl
theorem eLoadArr_congr {n : Nat} {T : TypeId} {a : Value} (h : ∀ k, k ∈ slotsV a → Same rs rs' k) : eLoadArr P rs n T a = eLoadArr P rs' n T a := by
  unfold eLoadArr
  cases a with
  | pointer p => cases p with
    | none => rfl
    | some p =>
      rcases h p.block (by simp [slotsV]) with e | ⟨d1, d2⟩
      · simp only [e]
      · rcases deadish_cases d1 with e1 | e1 <;> rcases deadish_cases d2 with e2 | e2 <;> simp only [e1, e2, sliceLst, anyLst]
  | _ => rfl
theorem srcLst_congr {z : Lst} {a : Value} (h : ∀ k, k ∈ slotsV a → Same rs rs' k) : srcLst rs z a = srcLst rs' z a := by
  unfold srcLst
  cases a with
  | slice p n q => cases p with
    | none => rfl
    | some p =>
      rcases h p.block (by simp [slotsV]) with e | ⟨d1, d2⟩
      · simp only [e]
      · rcases deadish_cases d1 with e1 | e1 <;> rcases deadish_cases d2 with e2 | e2 <;> simp only [e1, e2, sliceLst, anyLst]
  | _ => rfl
theorem eAppend_congr {n : Nat} {T T' : TypeId} {a b : Value} (h : ∀ k, k ∈ slotsV a → Same rs rs' k) (h' : ∀ k, k ∈ slotsV b → Same rs rs' k) : eAppend P rs n T T' a b = eAppend P rs' n T T' a b := by
  unfold eAppend
  simp only [fun z => srcLst_congr (z := z) h']
  cases a with
  | slice p m q => cases p with
    | none => rfl
    | some p =>
      rcases h p.block (by simp [slotsV]) with e | ⟨d1, d2⟩
      · simp only [e]
      · rcases deadish_cases d1 with e1 | e1 <;> rcases deadish_cases d2 with e2 | e2 <;> simp only [e1, e2, sliceLst, anyLst]
  | _ => rfl
theorem eCopy_congr {T : TypeId} {a b : Value} (h : ∀ k, k ∈ slotsV a → Same rs rs' k) (h' : ∀ k, k ∈ slotsV b → Same rs rs' k) : eCopy P rs T a b = eCopy P rs' T a b := by
  unfold eCopy
  simp only [fun z => srcLst_congr (z := z) h']
  cases a with
  | slice p m q => cases p with
    | none => rfl
    | some p =>
      rcases h p.block (by simp [slotsV]) with e | ⟨d1, d2⟩
      · simp only [e]
      · rcases deadish_cases d1 with e1 | e1 <;> rcases deadish_cases d2 with e2 | e2 <;> simp only [e1, e2, sliceLst, anyLst]
  | _ => rfl
theorem eShorten_congr {n : Nat} {T : TypeId} {a b : Value} (h : ∀ k, k ∈ slotsV a → Same rs rs' k) : eShorten P rs n T a b = eShorten P rs' n T a b := by
  unfold eShorten
  cases a with
  | slice p m q => cases p with
    | none => rfl
    | some p =>
      rcases h p.block (by simp [slotsV]) with e | ⟨d1, d2⟩
      · simp only [e]
      · rcases deadish_cases d1 with e1 | e1 <;> rcases deadish_cases d2 with e2 | e2 <;> simp only [e1, e2, sliceLst, anyLst]
  | _ => rfl

theorem eop_congr {n : Nat} {op : Op} (hρ : ∀ x, x ∈ op.operands.toList → ρ x = ρ' x) (hrs : ∀ k, k ∈ touch ρ op → Same rs rs' k) : eop P rs ρ n op = eop P rs' ρ' n op := by
  cases op <;> try rfl
  case box T x => simp only [eop, hρ x (by simp [Op.operands])]
  case buildSlice T len ps =>
    have : allP ρ ps.toList = allP ρ' ps.toList := allP_congr fun x hx => hρ x (by simpa [Op.operands] using hx)
    simp only [eop, eBuildSlice, this]
  case makeSlice T a b => simp only [eop, hρ a (by simp [Op.operands]), hρ b (by simp [Op.operands])]
  case load T a =>
    simp only [eop, ← hρ a (by simp [Op.operands])]
    cases h : ρ a with
    | none => rfl
    | some v => exact eLoadArr_congr fun k hk => hrs k (by simpa [touch, h, slotsO] using hk)
  case store T a x =>
    simp only [eop, ← hρ a (by simp [Op.operands]), ← hρ x (by simp [Op.operands])]
    cases h : ρ a with
    | none => rfl
    | some v => cases ρ x with
      | none => rfl
      | some u => exact eStore_congr fun k hk => hrs k (by simpa [touch, h, slotsO] using hk)
  case slice T x lo hi mx =>
    cases lo <;> cases hi <;> cases mx <;> try rfl
    rename_i y
    simp only [eop, ← hρ x (by simp [Op.operands]), ← hρ y (by simp [Op.operands])]
    cases h : ρ x with
    | none => rfl
    | some v => cases ρ y with
      | none => rfl
      | some u => exact eShorten_congr fun k hk => hrs k (by simpa [touch, h, slotsO] using hk)
  case call c =>
    simp only [eop]
    split
    · rename_i hb
      split
      · rename_i x y hargs
        have hx := hρ x (by simp [Op.operands, Call.operands, hb, hargs])
        have hy := hρ y (by simp [Op.operands, Call.operands, hb, hargs])
        rw [← hx, ← hy]
        split
        · cases h : ρ x with
          | none => rfl
          | some v => cases h' : ρ y with
            | none => rfl
            | some u =>
              exact eAppend_congr (fun k hk => hrs k (by simp [touch, hb, hargs, h, slotsO]; exact .inl hk)) (fun k hk => hrs k (by simp [touch, hb, hargs, h', slotsO]; exact .inr hk))
        · rfl
      · rfl
    · rename_i hb
      split
      · rename_i x y hargs
        have hx := hρ x (by simp [Op.operands, Call.operands, hb, hargs])
        have hy := hρ y (by simp [Op.operands, Call.operands, hb, hargs])
        rw [← hx, ← hy]
        split
        · cases h : ρ x with
          | none => rfl
          | some v => cases h' : ρ y with
            | none => rfl
            | some u =>
              exact eCopy_congr (fun k hk => hrs k (by simp [touch, hb, hargs, h, slotsO]; exact .inl hk)) (fun k hk => hrs k (by simp [touch, hb, hargs, h', slotsO]; exact .inr hk))
        · rfl
      · rfl
    · rfl

/-- only slots that are looked at turn, and the new one -/
theorem eop_ws {n : Nat} {op : Op} {ob : Option Prop} {c : Value} {ws : List (Nat × Res)} (h : eop P rs ρ n op = some (ob, c, ws)) : ∀ p, p ∈ ws → (newsIn op = true ∧ p.1 = n) ∨ p.1 ∈ touch ρ op := by
  cases op <;> (try simp only [eop] at h) <;> first | (cases h; done) | skip
  case alloc T =>
    unfold eAlloc at h
    repeat' split at h
    all_goals first | (cases h; done) | (cases h; intro p hp; simp at hp; subst hp; exact .inl ⟨rfl, rfl⟩)
  case box T x =>
    obtain ⟨a, h1, h2⟩ := optE_ok h
    unfold eBox at h2
    repeat' split at h2
    all_goals first | (cases h2; done) | (cases h2; intro p hp; simp at hp; subst hp; exact .inl ⟨rfl, rfl⟩)
  case buildSlice T len ps =>
    unfold eBuildSlice at h
    repeat' split at h
    all_goals first | (cases h; done) | (cases h; intro p hp; simp at hp; subst hp; exact .inl ⟨rfl, rfl⟩)
  case makeSlice T a b =>
    obtain ⟨x, y, h1, h2, h3⟩ := optE2_ok h
    unfold eMake at h3
    repeat' split at h3
    all_goals first | (cases h3; done) | (cases h3; intro p hp; simp at hp; subst hp; exact .inl ⟨rfl, rfl⟩)
  case load T a =>
    obtain ⟨x, h1, h2⟩ := optE_ok h
    unfold eLoadArr at h2
    repeat' split at h2
    all_goals first | (cases h2; done) | (cases h2; intro p hp; simp at hp; subst hp; exact .inl ⟨rfl, rfl⟩)
  case store T a x =>
    obtain ⟨u, v, h1, h2, h3⟩ := optE2_ok h
    unfold eStore at h3
    repeat' split at h3
    all_goals first | (cases h3; done) | (cases h3; intro p hp; simp at hp; subst hp; exact .inr (by simp [touch, h1, slotsO, slotsV]))
  case slice T x lo hi mx =>
    cases lo <;> cases hi <;> cases mx <;> dsimp only at h <;> first | (cases h; done) | skip
    obtain ⟨u, v, h1, h2, h3⟩ := optE2_ok h
    unfold eShorten at h3
    repeat' split at h3
    all_goals first | (cases h3; done) | (cases h3; intro p hp; simp at hp; rcases hp with rfl | rfl <;> first | exact .inl ⟨rfl, rfl⟩ | exact .inr (by simp [touch, h1, slotsO, slotsV]))
  case call c =>
    split at h
    · rename_i hb
      split at h
      · rename_i x y hargs
        split at h
        · obtain ⟨u, v, h1, h2, h3⟩ := optE2_ok h
          unfold eAppend at h3
          repeat' split at h3
          all_goals first | (cases h3; done) | (cases h3; intro p hp; simp at hp; rcases hp with rfl | rfl <;> first | exact .inl ⟨rfl, rfl⟩ | exact .inr (by simp [touch, hb, hargs, h1, slotsO, slotsV])) | (cases h3; intro p hp; simp at hp; subst hp; exact .inl ⟨rfl, rfl⟩)
        · cases h
      · cases h
    · rename_i hb
      split at h
      · rename_i x y hargs
        split at h
        · obtain ⟨u, v, h1, h2, h3⟩ := optE2_ok h
          unfold eCopy at h3
          repeat' split at h3
          all_goals first | (cases h3; done) | (cases h3; intro p hp; simp at hp; subst hp; exact .inr (by simp [touch, hb, hargs, h1, slotsO, slotsV]))
        · cases h
      · cases h
    · cases h

end
end Go.K
