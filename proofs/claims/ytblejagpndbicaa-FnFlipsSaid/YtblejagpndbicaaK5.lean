/- Quiet operations, more: loads, views, builtins, bodies outside Go. -/
import Derived.Test.YtblejagpndbicaaK4
namespace Go.K
open Go.RowKit

section
variable {P : Program} {w0 w : World} {M : List Nat} {rs : List Res} {hs : Hs} {e : Operand → Value} {ρ : Operand → Option Value}

theorem cells_list {R : Value → Value → Prop} (w : World) (a : Addr) (cs : List Value) (h : ∀ j u, cs[j]? = some u → ∃ v, w.cell? (a.add j) = some v ∧ R v u) :
    ∃ ds, LR R ds cs ∧ ∀ j v, ds[j]? = some v → w.cell? (a.add j) = some v := by
  refine ⟨(List.range cs.length).map fun j => (w.cell? (a.add j)).getD undef, ⟨by simp, fun i v u hv hu => ?_⟩, fun j v hv => ?_⟩
  · obtain ⟨x, hx, hr⟩ := h i u hu
    have hi := (List.getElem?_eq_some_iff.1 hu).1
    simp [hi, hx] at hv
    subst hv
    exact hr
  · have hj : j < cs.length := by have := (List.getElem?_eq_some_iff.1 hv).1; simpa using this
    obtain ⟨x, hx, _⟩ := h j cs[j] (by simp [hj])
    simp [hj, hx] at hv
    rw [hx, hv]

/-- a variable of type T among cells -/
def loadC (P : Program) (T : TypeId) (cs : List Value) (off : Nat) : Option Value :=
  match isAggT P T with
  | some true => match sizeT P T with
    | some n => match Nat.ble (off + n) cs.length with
      | true => some (.agg ((cs.drop off).take n).toArray)
      | false => none
    | none => none
  | some false => cs[off]?
  | none => none

theorem run_loadAgg {T : TypeId} {n : Nat} {a : Addr} {ds : List Value} (h1 : isAggT P T = some true) (h2 : sizeT P T = some n) (hl : ds.length = n) (h : ∀ j v, ds[j]? = some v → w.cell? (a.add j) = some v) :
    (loadVar T a).run P w = .ok (.agg ds.toArray) w := by
  subst hl
  simp [loadVar, run_isAgg h1, run_sizeT h2, run_loadCells_list (P := P) (w := w) a ds h]

theorem run_loadOne {T : TypeId} {a : Addr} {v : Value} (h1 : isAggT P T = some false) (h : w.cell? a = some v) : (loadVar T a).run P w = .ok v w := by
  simp [loadVar, run_isAgg h1, h]

theorem loadC_ok {T : TypeId} {a : Addr} {cs : List Value} {off : Nat} {c : Value} (h : ∀ j u, cs[j]? = some u → ∃ v, w.cell? (a.add j) = some v ∧ VR0 rs hs v u) (hc : loadC P T cs off = some c) :
    ∃ v, (loadVar T (a.add off)).run P w = .ok v w ∧ VR1 rs hs v c := by
  unfold loadC at hc
  split at hc
  · rename_i h1
    split at hc
    · rename_i n h2
      split at hc
      · rename_i h3
        cases hc
        have h3' : off + n ≤ cs.length := Nat.le_of_ble_eq_true h3
        obtain ⟨ds, hl, hds⟩ := cells_list w a cs h
        have hl' := (hl.drop off).take n
        refine ⟨.agg ((ds.drop off).take n).toArray, run_loadAgg h1 h2 (by simp [hl.1]; omega) ?_, _, rfl, by simpa using hl'⟩
        intro j v hv
        rw [Addr.add_add]
        refine hds _ _ ?_
        rw [List.getElem?_take] at hv
        split at hv
        · rw [List.getElem?_drop] at hv; exact hv
        · cases hv
      · cases hc
    · cases hc
  · rename_i h1
    obtain ⟨v, hv, hr⟩ := h off c hc
    exact ⟨v, run_loadOne h1 hv, hr.one⟩
  · cases hc

/-- the cells of a resource that is told cell by cell -/
theorem box_cells {T : TypeId} {cs : List Value} {h : Value} (hr : (Res.box T cs).holds rs hs w h) : ∃ a, baseOf h = some a ∧ ∀ j u, cs[j]? = some u → ∃ v, w.cell? (a.add j) = some v ∧ VR0 rs hs v u := by
  obtain ⟨b, ds, rfl, h1, h2⟩ := hr
  refine ⟨_, rfl, fun j u hu => ?_⟩
  obtain ⟨v, hv, hr⟩ := h2.get hu
  refine ⟨v, ?_, hr⟩
  rw [Addr.add_zero', cell_of_row w b j ds T (0, 0) h1]
  simpa using hv
theorem rob_cells {cs : List Value} {h : Value} (hr : (Res.rob cs).holds rs hs w h) : ∃ a, baseOf h = some a ∧ ∀ j u, cs[j]? = some u → ∃ v, w.cell? (a.add j) = some v ∧ VR0 rs hs v u := by
  obtain ⟨a, rfl, h1⟩ := hr
  exact ⟨a, rfl, h1⟩

/-- the elements of a list-like resource -/
def anyLst : Res → Option Lst
  | .row _ l => some l
  | .ro l => some l
  | .arr _ l => some l
  | _ => none

theorem anyLst_len {r : Res} {l : Lst} (h : anyLst r = some l) : r.len = some l.length := by
  cases r <;> simp [anyLst] at h <;> subst h <;> rfl

theorem lst_cells {r : Res} {l : Lst} {h : Value} {a : Addr} (hr : r.holds rs hs w h) (hl : anyLst r = some l) (hb : baseOf h = some a) :
    ∀ j u, l.cells[j]? = some u → ∃ v, w.cell? (a.add j) = some v ∧ VR0 [] (fun _ => none) v u := by
  intro j u hu
  cases r <;> simp [anyLst] at hl <;> subst hl
  · obtain ⟨b, ds, rfl, h1, h2⟩ := hr
    cases hb
    obtain ⟨v, hv, hr⟩ := h2.get hu
    refine ⟨v, ?_, hr⟩
    rw [Addr.add_zero', cell_of_row w b j ds _ (0, 0) h1]
    simpa using hv
  · obtain ⟨g, cap, rfl, h1⟩ := hr
    have hj := (List.getElem?_eq_some_iff.1 hu).1
    rw [Lst.length_cells] at hj
    rcases h1 with ⟨_, h1⟩ | ⟨b, ds, rfl, _, h1, _, _, _, h2⟩
    · omega
    · cases hb
      obtain ⟨v, hv, hr⟩ := h2.get hu
      refine ⟨v, ?_, hr⟩
      rw [Addr.add_zero', cell_of_row w b j ds _ (0, 0) h1]
      rw [List.getElem?_take, if_pos hj] at hv
      simpa using hv
  · obtain ⟨g, cap, rfl, _, h1⟩ := hr
    have hj := (List.getElem?_eq_some_iff.1 hu).1
    rw [Lst.length_cells] at hj
    rcases h1 with h1 | ⟨a', rfl, h1⟩
    · omega
    · cases hb; exact h1 j u hu

def qLoad (P : Program) (rs : List Res) (T : TypeId) (a : Value) : QR :=
  match a with
  | .pointer p => match p with
    | some p => match rs[p.block]? with
      | some r => match r with
        | .box _ cs => match loadC P T cs p.off with
          | some c => ok1 c
          | none => none
        | .rob cs => match loadC P T cs p.off with
          | some c => ok1 c
          | none => none
        | r => match anyLst r with
          | some l => match isAggT P T with
            | some false => ok1 (l.get p.off)
            | _ => none
          | none => none
      | none => none
    | none => none
  | _ => none

theorem qLoad_run (H : Heap w0 M rs hs w) {T : TypeId} {v a c : Value} {ob : Option Prop} (ha : VR2 rs hs v a) (h : qLoad P rs T a = some (ob, c)) : ∃ u p, v = .pointer (some p) ∧ (loadVar T p).run P w = .ok u w ∧ VR2 rs hs u c := by
  unfold qLoad at h
  split at h
  · split at h
    · rename_i p
      obtain ⟨⟨h0, b, h1, h2, rfl⟩, h3⟩ := ha
      split at h
      · rename_i r hr
        have hh := H.holds _ _ _ hr h1
        split at h
        · rename_i T' cs
          split at h
          · rename_i c' hc
            cases h
            obtain ⟨b', e, hcell⟩ := box_cells hh
            rw [h2] at e; cases e
            obtain ⟨u, hu, hr'⟩ := loadC_ok hcell hc
            exact ⟨u, _, rfl, hu, hr'.two⟩
          · cases h
        · rename_i cs
          split at h
          · rename_i c' hc
            cases h
            obtain ⟨b', e, hcell⟩ := rob_cells hh
            rw [h2] at e; cases e
            obtain ⟨u, hu, hr'⟩ := loadC_ok hcell hc
            exact ⟨u, _, rfl, hu, hr'.two⟩
          · cases h
        · split at h
          · rename_i l hl
            split at h
            · rename_i hT
              cases h
              have hlt := h3 r _ hr (anyLst_len hl)
              obtain ⟨u, hu, hr'⟩ := lst_cells hh hl h2 p.off _ (l.get_cells _ hlt)
              exact ⟨u, _, rfl, run_loadOne hT hu, (l.get_scal _ rs hs u hr').two⟩
            · cases h
          · cases h
      · cases h
    · cases h
  · cases h

theorem qLoad_ok (H : Heap w0 M rs hs w) {T : TypeId} {v a c : Value} {ob : Option Prop} (ha : VR2 rs hs v a) (h : qLoad P rs T a = some (ob, c)) : QOK P w rs hs (Instr.loadAt T v) c := by
  obtain ⟨u, p, rfl, h1, h2⟩ := qLoad_run H ha h
  exact QOK.of_run (by simp [Instr.loadAt, Instr.sureAddr, h1]) h2

/-! ### slices of slices -/
/-- where a slice begins in its resource -/
def sOff (p : Addr) (q : Nat) : Nat := match q with | 0 => 0 | _ + 1 => p.off

/-- an operand of a slice expression that may be left out -/
def optInt : Option Value → Option (Option Int)
  | none => some none
  | some v => match v with
    | .int _ n => some (some n)
    | _ => none

def qSlice (P : Program) (rs : List Res) (T : TypeId) (a : Value) (lo hi mx : Option Value) : QR :=
  match P.underlying T with
  | some (.slice E) => match sizeT P E with
    | some 1 => match a with
      | .slice p n q => match p with
        | some p => match rs[p.block]? with
          | some r => match sliceLst r with
            | some _ => match mx with
              | none => match lo with
                | some (.int _ x) => match hi with
                  | some (.int _ y) => ob1 (0 ≤ x ∧ x ≤ y ∧ y ≤ (n : Int)) (.slice (some ⟨p.block, vOff p q x.toNat, none⟩) (y.toNat - x.toNat) 1)
                  | none => ob1 (0 ≤ x ∧ x ≤ (n : Int)) (.slice (some ⟨p.block, vOff p q x.toNat, none⟩) (n - x.toNat) 1)
                  | _ => none
                | none => match hi with
                  | some (.int _ y) => ob1 (0 ≤ y ∧ y ≤ (n : Int)) (.slice (some ⟨p.block, sOff p q, none⟩) y.toNat 1)
                  | _ => none
                | _ => none
              | _ => none
            | none => none
          | none => none
        | none => none
      | _ => none
    | _ => none
  | _ => none

theorem slice_of_VR (H : Heap w0 M rs hs w) {v : Value} {p : Addr} {n q : Nat} {r : Res} {l : Lst} (ha : VR2 rs hs v (.slice (some p) n q)) (hr : rs[p.block]? = some r) (hl : sliceLst r = some l) :
    ∃ oa cap, v = .slice oa n cap ∧ n ≤ cap ∧ (n = 0 ∨ ∃ h a, hs p.block = some h ∧ baseOf h = some a ∧ oa = some (a.add (sOff p q)) ∧ sOff p q + n ≤ l.length) := by
  have hlen := sliceLst_len hl
  cases q with
  | zero =>
    obtain ⟨h1, ⟨oa, cap, e1, hc⟩, h3⟩ := ha
    have hm := h3 r _ hr hlen
    by_cases hn : n = 0
    · exact ⟨oa, cap, e1, hc, .inl hn⟩
    · obtain ⟨b, cap', e2⟩ := sliceLst_base (H.holds _ _ _ hr h1) hl (by omega)
      rw [← hm] at e2
      rw [e2] at e1
      cases e1
      exact ⟨some b, cap, e2, hc, .inr ⟨v, b, h1, by rw [e2]; rfl, rfl, by simp [sOff]; omega⟩⟩
  | succ q =>
    obtain ⟨oa, cap, e1, hc, h2⟩ := ha
    refine ⟨oa, cap, e1, hc, h2.imp id ?_⟩
    rintro ⟨h0, b, h2, h3, h4, h5⟩
    exact ⟨h0, b, h2, h3, h4, h5 r _ hr hlen⟩

/-- a view: from x on, m elements -/
theorem view_ok {p : Addr} {n q x m cap : Nat} {oa : Option Addr} {r : Res} {l : Lst} (hr : rs[p.block]? = some r) (hl : sliceLst r = some l) (hn : n ≤ cap)
    (h2 : n = 0 ∨ ∃ h a, hs p.block = some h ∧ baseOf h = some a ∧ oa = some (a.add (sOff p q)) ∧ sOff p q + n ≤ l.length)
    (hx : x + m ≤ n) (of : Nat) (hof : of = sOff p q + x) :
    VR2 rs hs (.slice (if cap = x then oa else oa.map (·.add x)) m (cap - x)) (.slice (some ⟨p.block, of, none⟩) m 1) := by
  refine ⟨_, _, rfl, by omega, ?_⟩
  by_cases hm : m = 0
  · exact .inl hm
  · right
    rcases h2 with h2 | ⟨h, a, h3, h4, h5, h6⟩
    · omega
    · refine ⟨h, a, h3, h4, ?_, fun r' m' hr' hm' => ?_⟩
      · rw [if_neg (by omega), h5, hof]
        simp [Addr.add_add]
      · simp only [hr, Option.some.injEq] at hr'
        subst hr'
        rw [sliceLst_len hl] at hm'
        cases hm'
        show of + m ≤ l.length
        omega

theorem run_bound {x : Int} {k : IntKind} {y : Nat} {code : BoundsCode} (h0 : 0 ≤ x) (h1 : x ≤ y) : (Instr.sliceBound (.int k x) y code).run P w = .ok x.toNat w := by
  simp [Instr.sliceBound, asIntOf, h0, h1]

theorem qSlice_ok (H : Heap w0 M rs hs w) {T : TypeId} {v a c : Value} {lo hi mx : Option Value} {vlo vhi vmx : Option Value} {ob : Option Prop} (ha : VR2 rs hs v a)
    (hlo : ∀ c, lo = some c → ∃ u, vlo = some u ∧ VR2 rs hs u c) (hlo' : lo = none → vlo = none)
    (hhi : ∀ c, hi = some c → ∃ u, vhi = some u ∧ VR2 rs hs u c) (hhi' : hi = none → vhi = none)
    (hmx : ∀ c, mx = some c → ∃ u, vmx = some u ∧ VR2 rs hs u c) (hmx' : mx = none → vmx = none)
    (h : qSlice P rs T a lo hi mx = some (ob, c)) (hob : holdsOb ob) : QOK P w rs hs (Instr.sliceAt T v vlo vhi vmx) c := by
  unfold qSlice at h
  split at h
  · rename_i E hT
    split at h
    · rename_i hE
      split at h
      · rename_i p n q
        split at h
        · rename_i p
          split at h
          · rename_i r hr
            split at h
            · rename_i l hl
              obtain ⟨oa, cap, rfl, hnc, h2⟩ := slice_of_VR H ha hr hl
              have off : ∀ x : Nat, vOff p q x = sOff p q + x := by intro x; cases q <;> simp [sOff, vOff]
              cases mx with
              | none =>
                have e3 := hmx' rfl
                subst e3
                cases lo with
                | none =>
                  have e1 := hlo' rfl
                  subst e1
                  cases hi with
                  | none => cases h
                  | some y =>
                    cases y <;> first | (cases h; done) | skip
                    rename_i k' y
                    cases h
                    obtain ⟨o1, o2⟩ : 0 ≤ y ∧ y ≤ (n : Int) := hob
                    obtain ⟨u', e2, h3⟩ := hhi _ rfl
                    rw [int_of_VR h3] at e2
                    subst e2
                    have := view_ok (x := 0) (m := y.toNat) hr hl hnc h2 (by omega) (sOff p q) rfl
                    refine QOK.of_run ?_ this
                    have b1 : (Instr.sliceBound (.int k' y) cap .sliceAcap).run P w = .ok y.toNat w := run_bound (by omega) (by omega)
                    simp [Instr.sliceAt, Instr.slice, Instr.sliceBounds, run_underlying hT, b1, run_sizeT hE]
                | some x =>
                  cases x <;> first | (cases h; done) | skip
                  rename_i k x
                  obtain ⟨u, e1, h1⟩ := hlo _ rfl
                  rw [int_of_VR h1] at e1
                  subst e1
                  cases hi with
                  | none =>
                    cases h
                    obtain ⟨o1, o2⟩ : 0 ≤ x ∧ x ≤ (n : Int) := hob
                    have e2 := hhi' rfl
                    subst e2
                    refine QOK.of_run ?_ (view_ok (x := x.toNat) (m := n - x.toNat) hr hl hnc h2 (by omega) _ (off _))
                    have b2 : (Instr.sliceBound (.int k x) n .sliceB).run P w = .ok x.toNat w := run_bound o1 (by omega)
                    simp [Instr.sliceAt, Instr.slice, Instr.sliceBounds, run_underlying hT, b2, run_sizeT hE]
                  | some y =>
                    cases y <;> first | (cases h; done) | skip
                    rename_i k' y
                    cases h
                    obtain ⟨o1, o2, o3⟩ : 0 ≤ x ∧ x ≤ y ∧ y ≤ (n : Int) := hob
                    obtain ⟨u', e2, h3⟩ := hhi _ rfl
                    rw [int_of_VR h3] at e2
                    subst e2
                    refine QOK.of_run ?_ (view_ok (x := x.toNat) (m := y.toNat - x.toNat) hr hl hnc h2 (by omega) _ (off _))
                    have b1 : (Instr.sliceBound (.int k' y) cap .sliceAcap).run P w = .ok y.toNat w := run_bound (by omega) (by omega)
                    have b2 : (Instr.sliceBound (.int k x) y.toNat .sliceB).run P w = .ok x.toNat w := run_bound o1 (by omega)
                    simp [Instr.sliceAt, Instr.slice, Instr.sliceBounds, run_underlying hT, b1, b2, run_sizeT hE]
              | some z => cases z <;> (cases h; done)
            · cases h
          · cases h
        · cases h
      · cases h
    · cases h
  · cases h

/-! ### builtins -/
def minI (x y : Int) : Int := if y < x then y else x
def maxI (x y : Int) : Int := if y > x then y else x
def fmin (k : FloatKind) (x y : Nat) : Nat :=
  match forder k x y with
  | none => nanW k
  | some .lt => x
  | some .gt => y
  | some .eq => if (k.decode x).neg then x else y
def fmax (k : FloatKind) (x y : Nat) : Nat :=
  match forder k x y with
  | none => nanW k
  | some .lt => y
  | some .gt => x
  | some .eq => if (k.decode x).neg then y else x

def mmI (isMax : Bool) (x y : Int) : Int := match isMax with | true => maxI x y | false => minI x y
def mmF (isMax : Bool) (k : FloatKind) (x y : Nat) : Nat := match isMax with | true => fmax k x y | false => fmin k x y

def foldMM (isMax : Bool) : Value → List Value → QR
  | a, [] => ok1 a
  | a, b :: r => match a with
    | .int k x => match b with
      | .int k' y => if k' = k then foldMM isMax (.int k (mmI isMax x y)) r else none
      | _ => none
    | .float k x => match b with
      | .float k' y => if k' = k then foldMM isMax (.float k (mmF isMax k x y)) r else none
      | _ => none
    | _ => none

def qBuiltin (P : Program) (b : Builtin) (argTypes : Array TypeId) (args : List Value) : QR :=
  match b with
  | .len => match argTypes.toList with
    | [T] => match P.underlying T with
      | some (.slice _) => match args with
        | [.slice _ n _] => ok1 (.int .i64 n)
        | _ => none
      | _ => none
    | _ => none
  | .complex => match args with
    | [.float k x, .float k' y] => if k' = k then ok1 (.complex k x y) else none
    | _ => none
  | .real => match args with
    | [.complex k x _] => ok1 (.float k x)
    | _ => none
  | .imag => match args with
    | [.complex k _ y] => ok1 (.float k y)
    | _ => none
  | .min => match args with
    | a :: r => foldMM false a r
    | _ => none
  | .max => match args with
    | a :: r => foldMM true a r
    | _ => none
  | _ => none

theorem slice_form {v : Value} {p : Option Addr} {n q : Nat} (h : VR2 rs hs v (.slice p n q)) : ∃ oa cap, v = .slice oa n cap := by
  cases p with
  | none => obtain ⟨rfl, rfl⟩ := h; exact ⟨none, 0, rfl⟩
  | some p =>
    cases q with
    | zero => obtain ⟨_, ⟨oa, cap, e, _⟩, _⟩ := h; exact ⟨oa, cap, e⟩
    | succ q => obtain ⟨oa, cap, e, _⟩ := h; exact ⟨oa, cap, e⟩

theorem cF_fmin (k : FloatKind) (x y : Nat) (hx : isNaNW k x = false) (hy : isNaNW k y = false) : cF k (fmin k x y) = fmin k x y := by
  unfold fmin
  split
  · exact cF_of_nan (isNaNW_nan k)
  · exact cF_of_not hx
  · exact cF_of_not hy
  · split
    · exact cF_of_not hx
    · exact cF_of_not hy

theorem forder_some {k : FloatKind} {x y : Nat} {o : Ordering} (h : forder k x y = some o) : isNaNW k x = false ∧ isNaNW k y = false := by
  constructor
  · cases hx : isNaNW k x
    · rfl
    · rw [forder_nan_left hx] at h; cases h
  · cases hy : isNaNW k y
    · rfl
    · rw [forder_nan_right hy] at h; cases h

theorem run_min2 (isMax : Bool) (k : FloatKind) (a b : Nat) : ∃ r n, ((if isMax then Builtin.max2 else Builtin.min2) (.float k a) (.float k b)).run P w = .ok (.float k r) (w.drewN n) ∧
    cF k r = mmF isMax k (cF k a) (cF k b) := by
  cases ho : forder k a b with
  | none =>
    have ho' : k.format.order a b = none := ho
    have ho2 : forder k (cF k a) (cF k b) = none := by rw [forder_cF]; exact ho
    refine ⟨(Question.nanMinMax k isMax a b).cut (w.tape w.drawn (Question.nanMinMax k isMax a b)), 1, ?_, ?_⟩
    · cases isMax <;> simp [Builtin.max2, Builtin.min2, ho', Question.forced] <;> rfl
    · rw [cF_of_nan (nan_nanMinMax _ _ _ _ _)]
      cases isMax <;> simp [mmF, fmin, fmax, ho2]
  | some o =>
    have ho' : k.format.order a b = some o := ho
    obtain ⟨h1, h2⟩ := forder_some ho
    rw [cF_of_not h1, cF_of_not h2]
    cases o <;> cases isMax
    · exact ⟨a, 0, by simp [Builtin.min2, ho', World.drewN], by simp [mmF, fmin, ho, cF_of_not h1]⟩
    · exact ⟨b, 0, by simp [Builtin.max2, ho', World.drewN], by simp [mmF, fmax, ho, cF_of_not h2]⟩
    · refine ⟨if (k.decode a).neg then a else b, 0, by simp [Builtin.min2, ho', World.drewN], ?_⟩
      simp only [mmF, fmin, ho]; split <;> simp [cF_of_not, h1, h2]
    · refine ⟨if (k.decode a).neg then b else a, 0, by simp [Builtin.max2, ho', World.drewN], ?_⟩
      simp only [mmF, fmax, ho]; split <;> simp [cF_of_not, h1, h2]
    · exact ⟨b, 0, by simp [Builtin.min2, ho', World.drewN], by simp [mmF, fmin, ho, cF_of_not h2]⟩
    · exact ⟨a, 0, by simp [Builtin.max2, ho', World.drewN], by simp [mmF, fmax, ho, cF_of_not h1]⟩

theorem foldMM_ok (isMax : Bool) : ∀ (cs : List Value) (vs : List Value) (a c v : Value) (ob : Option Prop) (w : World), LR (VR2 rs hs) vs cs → VR2 rs hs v a → foldMM isMax a cs = some (ob, c) →
    QOK P w rs hs (vs.foldlM (if isMax then Builtin.max2 else Builtin.min2) v) c
  | [], vs, a, c, v, ob, w, hl, hv, h => by
    have := hl.nil_right
    subst this
    cases h
    exact QOK.of_run rfl hv
  | b :: r, vs, a, c, v, ob, w, hl, hv, h => by
    obtain ⟨u, us, rfl, h1, h2⟩ := hl.cons_right
    cases a <;> first | (cases h; done) | skip
    case int k x =>
      cases b <;> first | (cases h; done) | skip
      case int k' y =>
        simp only [foldMM] at h
        split at h
        · rename_i ek
          subst ek
          rw [int_of_VR hv, int_of_VR h1]
          obtain ⟨r', n, h3, h4⟩ := foldMM_ok isMax r us (.int k' (mmI isMax x y)) c (.int k' (mmI isMax x y)) ob w h2 rfl h
          refine ⟨r', n, ?_, h4⟩
          rw [List.foldlM_cons, Sem.run_bind]
          have e : ((if isMax then Builtin.max2 else Builtin.min2) (.int k' x) (.int k' y)).run P w = .ok (.int k' (mmI isMax x y)) w := by
            cases isMax <;> simp [Builtin.max2, Builtin.min2, mmI, maxI, minI]
          rw [e]
          exact h3
        · cases h
    case float k x =>
      cases b <;> first | (cases h; done) | skip
      case float k' y =>
        simp only [foldMM] at h
        split at h
        · rename_i ek
          subst ek
          obtain ⟨p, e1, rfl⟩ := float_of_VR hv
          obtain ⟨q, e2, rfl⟩ := float_of_VR h1
          rw [e1, e2]
          obtain ⟨m, n, h5, h6⟩ := run_min2 (P := P) (w := w) isMax k' p q
          obtain ⟨r', n', h3, h4⟩ := foldMM_ok isMax r us (.float k' (mmF isMax k' (cF k' p) (cF k' q))) c (.float k' m) ob (w.drewN n) h2 ⟨m, rfl, h6⟩ h
          refine ⟨r', n + n', ?_, h4⟩
          rw [List.foldlM_cons, Sem.run_bind, h5]
          simp only [Result.andThen_ok]
          rw [h3, World.drewN_drewN]
        · cases h

theorem qBuiltin_ok {b : Builtin} {argTypes : Array TypeId} {T : TypeId} {vs : List Value} {args : List Value} {c : Value} {ob : Option Prop} (hl : LR (VR2 rs hs) vs args)
    (h : qBuiltin P b argTypes args = some (ob, c)) (consts : Array Bool) : ∃ v n, (builtin b argTypes T consts vs.toArray).run P w = .ok (.value v) (w.drewN n) ∧ VR2 rs hs v c := by
  have fin : ∀ {s : Sem Value}, QOK P w rs hs s c → ∃ v n, (do pure (Next.value (← s)) : Sem Next).run P w = .ok (.value v) (w.drewN n) ∧ VR2 rs hs v c := by
    intro s ⟨v, n, h1, h2⟩
    exact ⟨v, n, by simp [h1], h2⟩
  unfold qBuiltin at h
  split at h
  · split at h
    · rename_i T' ht
      have ht' : argTypes = #[T'] := Array.toList_inj.1 (by simpa using ht)
      subst ht'
      split at h
      · rename_i E hT
        split at h
        · rename_i p n q
          cases h
          obtain ⟨v, vs', rfl, h1, h2⟩ := hl.cons_right
          obtain rfl := h2.nil_right
          obtain ⟨oa, cap, rfl⟩ := slice_form h1
          refine fin (QOK.of_run (v := goInt n) ?_ rfl)
          simp [Builtin.len_, run_underlying hT]
        · cases h
      · cases h
    · cases h
  · split at h
    · rename_i k x k' y
      split at h
      · rename_i ek
        subst ek
        cases h
        obtain ⟨v, vs', rfl, h1, h2⟩ := hl.cons_right
        obtain ⟨u, us', rfl, h3, h4⟩ := h2.cons_right
        obtain rfl := h4.nil_right
        obtain ⟨a, rfl, h5⟩ := float_of_VR h1
        obtain ⟨b, rfl, h6⟩ := float_of_VR h3
        have e : Builtin.complex_ argTypes T #[.float k' a, .float k' b] = (if k' = k' then pure (.complex k' a b) else stuck "complex: parts of different kinds") := rfl
        refine fin (QOK.of_run (v := .complex k' a b) ?_ ⟨a, b, rfl, h5, h6⟩)
        show (Builtin.complex_ argTypes T #[.float k' a, .float k' b]).run P w = _
        rw [e, if_pos rfl]; rfl
      · cases h
    · cases h
  · split at h
    · cases h
      obtain ⟨v, vs', rfl, h1, h2⟩ := hl.cons_right
      obtain rfl := h2.nil_right
      obtain ⟨a, b, rfl, h5, h6⟩ := complex_of_VR h1
      exact fin (QOK.of_run rfl ⟨a, rfl, h5⟩)
    · cases h
  · split at h
    · cases h
      obtain ⟨v, vs', rfl, h1, h2⟩ := hl.cons_right
      obtain rfl := h2.nil_right
      obtain ⟨a, b, rfl, h5, h6⟩ := complex_of_VR h1
      exact fin (QOK.of_run rfl ⟨b, rfl, h6⟩)
    · cases h
  · split at h
    · obtain ⟨v, vs', rfl, h1, h2⟩ := hl.cons_right
      exact fin (foldMM_ok false _ _ _ _ _ _ w h2 h1 h)
    · cases h
  · split at h
    · obtain ⟨v, vs', rfl, h1, h2⟩ := hl.cons_right
      exact fin (foldMM_ok true _ _ _ _ _ _ w h2 h1 h)
    · cases h
  · cases h

end
end Go.K
