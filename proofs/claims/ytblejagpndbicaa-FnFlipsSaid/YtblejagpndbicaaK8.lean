/- Operations with an effect. -/
import Derived.Test.YtblejagpndbicaaK7
import Derived.Deep.AppendSrc
import Derived.Deep.Upon
import Derived.Great.BuildSlice
namespace Go.K
open Go.RowKit

def isNum : Value → Bool
  | .bool _ | .int _ _ | .float _ _ | .complex _ _ _ => true
  | _ => false
/-- a value that a cell takes -/
def isCell : Value → Bool
  | .bool _ | .int _ _ | .float _ _ | .complex _ _ _ | .string _ | .pointer _ | .slice _ _ _ | .nilFunc | .nilIface => true
  | _ => false

theorem Lst.cells_num (l : Lst) : ∀ u, u ∈ l.cells → isNum u = true := by
  intro u hu
  cases l <;> (simp only [Lst.cells, List.mem_map] at hu; obtain ⟨x, _, rfl⟩ := hu; rfl)
theorem VR0.num {rs rs' : List Res} {hs hs' : Hs} {v u : Value} (hu : isNum u = true) (h : VR0 rs hs v u) : VR0 rs' hs' v u := by
  cases u <;> first | exact h | cases hu
theorem isCell_of_num {u : Value} (h : isNum u = true) : isCell u = true := by cases u <;> first | rfl | cases h
theorem VR0.oneCell {rs : List Res} {hs : Hs} {v c : Value} (hc : isCell c = true) (h : VR0 rs hs v c) : v.oneCell' = true := by
  cases c with
  | bool b => cases h; rfl
  | int k n => cases h; rfl
  | float k x => obtain ⟨b, rfl, _⟩ := h; rfl
  | complex k x y => obtain ⟨a, b, rfl, _⟩ := h; rfl
  | string s => cases h; rfl
  | pointer a =>
    cases a with
    | none => cases h; rfl
    | some p => obtain ⟨⟨_, _, _, _, rfl⟩, _⟩ := h; rfl
  | slice a n q =>
    cases a with
    | none => obtain ⟨_, _, rfl⟩ := h; rfl
    | some p => cases q with
      | zero => obtain ⟨_, ⟨_, _, rfl, _⟩, _⟩ := h; rfl
      | succ q => obtain ⟨_, _, rfl, _⟩ := h; rfl
  | nilFunc => cases h; rfl
  | nilIface => cases h; rfl
  | _ => cases hc
theorem LR.oneCell {rs : List Res} {hs : Hs} {vs cs : List Value} (hc : cs.all isCell = true) (h : LR (VR0 rs hs) vs cs) : ∀ v, v ∈ vs → v.oneCell' = true := by
  intro v hv
  obtain ⟨i, hi⟩ := List.getElem?_of_mem hv
  have hlt : i < cs.length := by rw [← h.1]; exact (List.getElem?_eq_some_iff.1 hi).1
  have hu : cs[i]? = some cs[i] := by simp [hlt]
  exact VR0.oneCell (List.all_eq_true.1 hc _ (List.getElem_mem hlt)) (h.2 i v _ hi hu)
theorem LR.num {rs rs' : List Res} {hs hs' : Hs} {vs cs : List Value} (hc : ∀ u, u ∈ cs → isNum u = true) (h : LR (VR0 rs hs) vs cs) : LR (VR0 rs' hs') vs cs :=
  h.mono fun _ u hu hr => hr.num (hc u hu)

/-- a list of cells as a list of a kind -/
def toLst (z : Lst) : List Value → Option Lst
  | [] => some z
  | v :: r => match toLst z r with
    | some l => l.cons v
    | none => none
theorem toLst_cells {z : Lst} (hz : z.length = 0) : ∀ {vs : List Value} {l : Lst}, toLst z vs = some l → l.cells = vs ∧ l.length = vs.length
  | [], l, h => by
    simp only [toLst] at h; cases h
    refine ⟨?_, by simpa using hz⟩
    have := Lst.length_cells z
    rw [hz] at this
    exact List.eq_nil_of_length_eq_zero this
  | v :: r, l, h => by
    simp only [toLst] at h
    split at h
    · rename_i l' hl'
      obtain ⟨h1, h2⟩ := toLst_cells hz hl'
      obtain ⟨h3, h4⟩ := Lst.cons_cells h
      exact ⟨by rw [h3, h1], by rw [h4, h2]; rfl⟩
    · cases h

/-- no elements, of a type's kind -/
def elemK (P : Program) (E : TypeId) : Option Lst :=
  match P.underlying E with
  | some d => Lst.zeros 0 d
  | none => none
theorem elemK_length {P : Program} {E : TypeId} {z : Lst} (h : elemK P E = some z) : z.length = 0 := by
  unfold elemK at h
  split at h
  · unfold Lst.zeros at h; split at h <;> cases h <;> rfl
  · cases h
/-- an array of one-cell elements -/
def arrK (P : Program) (T : TypeId) : Option Lst :=
  match P.underlying T with
  | some (.array _ E) => elemK P E
  | _ => none
theorem arrK_length {P : Program} {T : TypeId} {z : Lst} (h : arrK P T = some z) : z.length = 0 := by
  unfold arrK at h; split at h <;> first | exact elemK_length h | cases h

/-- a new block with these cells -/
def newRes (P : Program) (T : TypeId) (cs : List Value) : Res :=
  match arrK P T with
  | some z => match toLst z cs with
    | some l => .arr T l
    | none => .box T cs
  | none => .box T cs

def puts (rs : List Res) : List (Nat × Res) → List Res
  | [] => rs
  | (k, r) :: t => puts (put rs k r) t

/-- an obligation, a value, what the slots hold then -/
abbrev ER := Option (Option Prop × Value × List (Nat × Res))

section
variable {P : Program} {w0 w : World} {M : List Nat} {rs : List Res} {hs : Hs} {e : Operand → Value} {ρ : Operand → Option Value}

/-- an operation that turns slots; n: the slot that may be new -/
def EOK (P : Program) (w0 : World) (M : List Nat) (rs : List Res) (hs : Hs) (w : World) (n : Nat) (s : Sem Next) (c : Value) (ws : List (Nat × Res)) : Prop :=
  ∃ x v w' hs', s.run P w = .ok x w' ∧ (x = .value v ∨ (x = .skip ∧ v = undef)) ∧ VR2 (puts rs ws) hs' v c ∧ Heap w0 M (puts rs ws) hs' w' ∧
    Maps some rs (puts rs ws) hs hs' ∧ ∀ i, i ≠ n → hs' i = hs i
/-- the same, and no slot is new -/
def EOKs (P : Program) (w0 : World) (M : List Nat) (rs : List Res) (hs : Hs) (w : World) (s : Sem Next) (c : Value) (ws : List (Nat × Res)) : Prop :=
  ∃ x v w', s.run P w = .ok x w' ∧ (x = .value v ∨ (x = .skip ∧ v = undef)) ∧ VR2 (puts rs ws) hs v c ∧ Heap w0 M (puts rs ws) hs w' ∧
    Maps some rs (puts rs ws) hs hs
theorem EOKs.to {P : Program} {w0 : World} {M : List Nat} {rs : List Res} {hs : Hs} {w : World} {s : Sem Next} {c : Value} {ws : List (Nat × Res)} (h : EOKs P w0 M rs hs w s c ws) (n : Nat) : EOK P w0 M rs hs w n s c ws := by
  obtain ⟨x, v, w', h1, h2, h3, h4, h5⟩ := h
  exact ⟨x, v, w', hs, h1, h2, h3, h4, h5, fun _ _ => rfl⟩

theorem LR.toList {vs : Array Value} {cs : List Value} {R : Value → Value → Prop} (h : LR R vs.toList cs) : vs.size = cs.length := by simpa using h.1

theorem newRes_ok {T : TypeId} {ds : Array Value} {cs : List Value} {b : Nat} (hl : LR (VR0 rs hs) ds.toList cs) (hb : w.heap[b]? = some (.cells ds T (0, 0))) :
    (newRes P T cs).holds rs hs w (.pointer (some ⟨b, 0, none⟩)) := by
  unfold newRes
  split
  · rename_i z hz
    split
    · rename_i l hl'
      obtain ⟨h1, _⟩ := toLst_cells (arrK_length hz) hl'
      refine ⟨b, ds, rfl, hb, ?_⟩
      rw [h1]
      rw [← h1] at hl
      rw [← h1]
      exact hl.num (fun u hu => l.cells_num u hu)
    · exact ⟨b, ds, rfl, hb, hl⟩
  · exact ⟨b, ds, rfl, hb, hl⟩
theorem newRes_own {T : TypeId} {cs : List Value} {b : Nat} : (newRes P T cs).own (.pointer (some ⟨b, 0, none⟩)) = some b := by
  unfold newRes; split
  · split <;> rfl
  · rfl
theorem newRes_reads {T : TypeId} {cs : List Value} {h : Value} : (newRes P T cs).reads h = none := by
  unfold newRes; split
  · split <;> rfl
  · rfl
theorem newRes_len {T : TypeId} {cs : List Value} {m : Nat} (h : (newRes P T cs).len = some m) : m = cs.length := by
  unfold newRes at h; split at h
  · rename_i z hz
    split at h
    · rename_i l hl'
      cases h
      exact (toLst_cells (arrK_length hz) hl').2
    · cases h
  · cases h

/-- a new variable -/
theorem new_var (H : Heap w0 M rs hs w) {n : Nat} (hn : hs n = none) {T : TypeId} {ds : Array Value} {cs : List Value} (hl : LR (VR0 rs hs) ds.toList cs) (hpos : cs.length ≠ 0)
    {s : Sem Next} (hrun : s.run P w = .ok (.value (.pointer (some ⟨w.heap.size, 0, none⟩))) (w.alloc (.cells ds T))) :
    EOK P w0 M rs hs w n s (.pointer (some ⟨n, 0, none⟩)) [(n, newRes P T cs)] := by
  have F := Fr.alloc [] w (.cells ds T)
  have G := H.put1 (w' := w.alloc (.cells ds T)) (r := newRes P T cs) (h := .pointer (some ⟨w.heap.size, 0, none⟩)) hn none (by simp) F.os F.tape F.output F.size
    (fun b hb _ => F.block b hb (by simp))
    (fun m => newRes_ok (hl.mono fun _ _ _ hr => hr.grow m) (alloc_new _ _))
    (fun b hb => .inl (by rw [newRes_own] at hb; cases hb; exact Nat.le_refl _))
    (fun b hb => by rw [newRes_reads] at hb; cases hb)
  refine ⟨_, _, _, _, hrun, .inl rfl, ⟨⟨_, _, upd_same _ _ _, rfl, rfl⟩, ?_⟩, G.1, G.2, fun i hi => upd_ne _ _ _ hi⟩
  intro r m hr hm
  have : (puts rs [(n, newRes P T cs)])[n]? = some (newRes P T cs) := put_same _ _ _
  rw [this] at hr
  cases hr
  rw [newRes_len hm]
  exact Nat.pos_of_ne_zero hpos

def eAlloc (P : Program) (n : Nat) (T : TypeId) : ER :=
  match zeroC P T with
  | some cs => match cs with
    | [] => none
    | _ :: _ => some (none, .pointer (some ⟨n, 0, none⟩), [(n, newRes P T cs)])
  | none => none

theorem eAlloc_ok (H : Heap w0 M rs hs w) {n : Nat} (hn : hs n = none) {T : TypeId} {ob : Option Prop} {c : Value} {ws : List (Nat × Res)} (h : eAlloc P n T = some (ob, c, ws)) :
    EOK P w0 M rs hs w n (do pure (Next.value (← Instr.alloc T true (.tuple #[])))) c ws := by
  unfold eAlloc at h
  split at h
  · rename_i cs hz
    split at h
    · cases h
    · rename_i a l
      cases h
      obtain ⟨i, z, hi, hzz, hl⟩ := zeroC_ok (rs := rs) (hs := hs) hz
      refine new_var H hn hl (by simp) ?_
      simp [Instr.alloc, newVar, newRow, zeroValue, typeInfo, hi, hzz]
  · cases h

def eBox (P : Program) (n : Nat) (T : TypeId) (v : Value) : ER :=
  match oneOrAgg v with
  | true => match cellsL v with
    | [] => none
    | a :: l => some (none, .pointer (some ⟨n, 0, none⟩), [(n, newRes P T (a :: l))])
  | false => none

theorem Lst.set_num {l l' : Lst} {i : Nat} {v : Value} (h : l.set i v = some l') : isNum v = true := by
  cases l <;> cases v <;> simp only [Lst.set] at h <;> first | rfl | (cases h; done)
theorem cellsL_num {v : Value} (h : isNum v = true) : cellsL v = [v] := by cases v <;> first | rfl | cases h

theorem eBox_ok (H : Heap w0 M rs hs w) {n : Nat} (hn : hs n = none) {T : TypeId} {v a c : Value} {ob : Option Prop} {ws : List (Nat × Res)} (ha : VR2 rs hs v a) (h : eBox P n T a = some (ob, c, ws)) :
    EOK P w0 M rs hs w n (do pure (Next.value (← Instr.box T v))) c ws := by
  unfold eBox at h
  split at h
  · rename_i hone
    split at h
    · cases h
    · rename_i x l hc
      cases h
      have hl := VR2.cells hone ha
      rw [hc] at hl
      refine new_var H hn hl (by simp) ?_
      simp [Instr.box, newVar, newRow]
  · cases h

/-! ### stores -/
def splice (cs : List Value) (off : Nat) (vs : List Value) : List Value := cs.take off ++ vs ++ cs.drop (off + vs.length)

def eStore (P : Program) (rs : List Res) (T : TypeId) (a v : Value) : ER :=
  match a with
  | .pointer p => match p with
    | some p => match oneOrAgg v with
      | true => match (cellsL v).all isCell with
        | true => match sizeT P T with
          | some m => match Nat.beq (cellsL v).length m with
            | true => match rs[p.block]? with
              | some r => match r with
                | .box T' cs => match Nat.ble (p.off + (cellsL v).length) cs.length with
                  | true => some (none, .chan none, [(p.block, .box T' (splice cs p.off (cellsL v)))])
                  | false => none
                | .row E l => match l.set p.off v with
                  | some l' => some (none, .chan none, [(p.block, .row E l')])
                  | none => none
                | .arr T' l => match v with
                  | .agg vs => match Nat.beq p.off 0 with
                    | true => match arrK P T with
                      | some z => match toLst z vs.toList with
                        | some l' => some (some (l'.length = l.length), .chan none, [(p.block, .arr T' l')])
                        | none => none
                      | none => none
                    | false => none
                  | v => match l.set p.off v with
                    | some l' => some (none, .chan none, [(p.block, .arr T' l')])
                    | none => none
                | _ => none
              | none => none
            | false => none
          | none => none
        | false => none
      | false => none
    | none => none
  | _ => none

theorem run_storeVar_at {T : TypeId} {g o : Nat} {t : TypeId} {cur : Array Value} {v : Value} {m : Nat} (hs1 : sizeT P T = some m) (hv : v.cells.size = m) (hg : w.heap[g]? = some (.cells cur t (0, 0)))
    (hfit : o + v.cells.toList.length ≤ cur.size) (h1 : ∀ u ∈ v.cells.toList, u.oneCell' = true) :
    (storeVar T ⟨g, o, none⟩ v).run P w = .ok () (w.setRow g (cur.toList.take o ++ v.cells.toList ++ cur.toList.drop (o + v.cells.toList.length)).toArray) := by
  have := run_storeCells_at P g o t v.cells.toList 0 cur w hg (by simpa using hfit) h1
  simp only [Nat.add_zero] at this
  simp [storeVar, run_sizeT hs1, hv, this]

theorem splice_take {α : Type} (l : List α) (i : Nat) (x : α) (h : i < l.length) : l.take i ++ [x] ++ l.drop (i + 1) = l.set i x := by
  rw [List.set_eq_take_append_cons_drop, if_pos h]; simp

/-- the world with the block g written -/
theorem setRow_frame (w : World) (g : Nat) (cs : Array Value) : (w.setRow g cs).os = w.os ∧ (w.setRow g cs).tape = w.tape ∧ (w.setRow g cs).output = w.output ∧ w.heap.size ≤ (w.setRow g cs).heap.size ∧
    ∀ b, b ≠ g → (w.setRow g cs).heap[b]? = w.heap[b]? := ⟨rfl, rfl, rfl, by simp, fun b hb => setRow_other w g b cs hb⟩

theorem fin_store {T : TypeId} {v u : Value} {ws : List (Nat × Res)} {g o : Nat} {cs : Array Value} (hv : v = .pointer (some ⟨g, o, none⟩))
    (hrun : (storeVar T ⟨g, o, none⟩ u).run P w = .ok () (w.setRow g cs)) (G : Heap w0 M (puts rs ws) hs (w.setRow g cs) ∧ Maps some rs (puts rs ws) hs hs) :
    EOKs P w0 M rs hs w (do Instr.storeAt T v u; pure Next.skip) (.chan none) ws := by
  subst hv
  refine ⟨.skip, undef, _, ?_, .inr ⟨rfl, rfl⟩, trivial, G.1, G.2⟩
  simp [Instr.storeAt, Instr.sureAddr, hrun]

theorem eStore_ok (H : Heap w0 M rs hs w) {T : TypeId} {v u a b c : Value} {ob : Option Prop} {ws : List (Nat × Res)} (ha : VR2 rs hs v a) (hb : VR2 rs hs u b) (h : eStore P rs T a b = some (ob, c, ws)) (hob : holdsOb ob) :
    EOKs P w0 M rs hs w (do Instr.storeAt T v u; pure Next.skip) c ws := by
  unfold eStore at h
  split at h
  · split at h
    · rename_i p
      split at h
      · rename_i hone
        split at h
        · rename_i hcell
          split at h
          · rename_i m hm
            split at h
            · rename_i hbeq
              have hbm := Nat.eq_of_beq_eq_true hbeq
              have hl := VR2.cells hone hb
              have hsz : u.cells.size = m := by rw [hl.toList]; exact hbm
              have hll : u.cells.toList.length = (cellsL b).length := hl.1
              have h1 := hl.oneCell hcell
              obtain ⟨⟨h0, ad, hk, hbase, rfl⟩, hoff⟩ := ha
              split at h
              · rename_i r hr
                have hh := H.holds _ _ _ hr hk
                split at h
                · rename_i T' cs
                  split at h
                  · rename_i hfit
                    cases h
                    have hfit' := Nat.le_of_ble_eq_true hfit
                    obtain ⟨g, ds, rfl, hg, hds⟩ := hh
                    cases hbase
                    have hrun := run_storeVar_at (o := p.off) hm hsz hg (by rw [hll, hds.toList]; exact hfit') h1
                    obtain ⟨f1, f2, f3, f4, f5⟩ := setRow_frame w g (ds.toList.take p.off ++ u.cells.toList ++ ds.toList.drop (p.off + u.cells.toList.length)).toArray
                    refine fin_store (Addr.add_zero' g p.off ▸ rfl) hrun (H.mod1 hr hk f1 f2 f3 f4 (fun b _ hb => f5 b fun e => hb (by rw [e]; rfl)) (fun mp => ?_) (fun b hb => hb) (fun _ hn => by cases hn) rfl)
                    refine ⟨g, _, rfl, setRow_heap w g _ _ _ _ hg, ?_⟩
                    have hds' := hds.mono (R' := VR0 (put rs p.block (.box T' (splice cs p.off (cellsL b)))) hs) fun _ _ _ hr => hr.grow mp
                    have hl' := hl.mono (R' := VR0 (put rs p.block (.box T' (splice cs p.off (cellsL b)))) hs) fun _ _ _ hr => hr.grow mp
                    simp only [splice, hll]
                    exact ((hds'.take _).append hl').append (hds'.drop _)
                  · cases h
                · rename_i E l
                  split at h
                  · rename_i l' hl'
                    cases h
                    obtain ⟨hc, hln⟩ := Lst.set_cells hl'
                    have hlt := hoff _ _ hr rfl
                    obtain ⟨g, cap, rfl, hrow⟩ := hh
                    rcases hrow with ⟨_, hz⟩ | ⟨g, ds, rfl, hcap, hg, hlc, hmax, hdsz, hds⟩
                    · omega
                    cases hbase
                    have hnum := Lst.set_num hl'
                    rw [cellsL_num hnum] at hl
                    obtain ⟨u0, us, hus, hu0, hus'⟩ := hl.cons_right
                    obtain rfl := hus'.nil_right
                    have hrun := run_storeVar_at (o := p.off) hm hsz hg (by rw [hus]; simp; omega) h1
                    obtain ⟨f1, f2, f3, f4, f5⟩ := setRow_frame w g (ds.toList.take p.off ++ u.cells.toList ++ ds.toList.drop (p.off + u.cells.toList.length)).toArray
                    have hown : (Res.row E l).own (.slice (some ⟨g, 0, none⟩) l.length cap) = some g := by simp [Res.own]; omega
                    refine fin_store (Addr.add_zero' g p.off ▸ rfl) hrun (H.mod1 hr hk f1 f2 f3 f4 (fun b _ hb => f5 b fun e => hb (by rw [e, hown])) (fun mp => ?_) (fun b hb => hb) (fun _ hn => by cases hn; simp [Res.len, hln]) rfl)
                    refine ⟨some ⟨g, 0, none⟩, cap, by rw [hln], .inr ⟨g, _, rfl, hcap, setRow_heap w g _ _ _ _ hg, by omega, hmax, ?_, ?_⟩⟩
                    · simp [hus]; omega
                    · rw [hus]
                      simp only [List.length_singleton]
                      rw [splice_take _ _ _ (by simp; omega), List.toList_toArray, hln, List.take_set, hc]
                      exact hds.set _ (hu0.num hnum)
                  · cases h
                · rename_i T' l
                  obtain ⟨g, ds, rfl, hg, hds⟩ := hh
                  cases hbase
                  split at h
                  · rename_i vs
                    split at h
                    · rename_i hz
                      have hz' := Nat.eq_of_beq_eq_true hz
                      split at h
                      · rename_i z hzz
                        split at h
                        · rename_i l' hl'
                          cases h
                          have hob' : l'.length = l.length := hob
                          obtain ⟨hc1, hc2⟩ := toLst_cells (arrK_length hzz) hl'
                          have hdl : ds.toList.length = l.length := by rw [hds.1, Lst.length_cells]
                          have hul : u.cells.toList.length = l.length := by rw [hl.1]; show vs.toList.length = _; rw [← hc2, hob']
                          have hrun := run_storeVar_at (o := p.off) hm hsz hg (by rw [hul, hz']; simpa using Nat.le_of_eq hdl.symm) h1
                          obtain ⟨f1, f2, f3, f4, f5⟩ := setRow_frame w g (ds.toList.take p.off ++ u.cells.toList ++ ds.toList.drop (p.off + u.cells.toList.length)).toArray
                          refine fin_store (Addr.add_zero' g p.off ▸ rfl) hrun (H.mod1 hr hk f1 f2 f3 f4 (fun b _ hb => f5 b fun e => hb (by rw [e]; rfl)) (fun mp => ?_) (fun b hb => hb) (fun _ hn => by cases hn; simp [Res.len, hob']) rfl)
                          refine ⟨g, _, rfl, setRow_heap w g _ _ _ _ hg, ?_⟩
                          rw [hz', hul, Nat.zero_add, List.drop_of_length_le (by omega), List.take_zero, List.nil_append, List.append_nil, Array.toArray_toList, hc1]
                          have : LR (VR0 rs hs) u.cells.toList vs.toList := hl
                          exact this.num (fun x hx => Lst.cells_num l' x (by rw [hc1]; exact hx))
                        · cases h
                      · cases h
                    · cases h
                  · split at h
                    · rename_i l' hl'
                      cases h
                      obtain ⟨hc, hln⟩ := Lst.set_cells hl'
                      have hlt := hoff _ _ hr rfl
                      have hnum := Lst.set_num hl'
                      rw [cellsL_num hnum] at hl
                      obtain ⟨u0, us, hus, hu0, hus'⟩ := hl.cons_right
                      obtain rfl := hus'.nil_right
                      have hdl : ds.toList.length = l.length := by rw [hds.1, Lst.length_cells]
                      have hdl' : ds.size = l.length := by simpa using hdl
                      have hrun := run_storeVar_at (o := p.off) hm hsz hg (by rw [hus]; simp; omega) h1
                      obtain ⟨f1, f2, f3, f4, f5⟩ := setRow_frame w g (ds.toList.take p.off ++ u.cells.toList ++ ds.toList.drop (p.off + u.cells.toList.length)).toArray
                      refine fin_store (Addr.add_zero' g p.off ▸ rfl) hrun (H.mod1 hr hk f1 f2 f3 f4 (fun b _ hb => f5 b fun e => hb (by rw [e]; rfl)) (fun mp => ?_) (fun b hb => hb) (fun _ hn => by cases hn; simp [Res.len, hln]) rfl)
                      refine ⟨g, _, rfl, setRow_heap w g _ _ _ _ hg, ?_⟩
                      rw [hus]
                      simp only [List.length_singleton]
                      rw [splice_take _ _ _ (by omega), List.toList_toArray, hc]
                      exact hds.set _ (hu0.num hnum)
                    · cases h
                · cases h
              · cases h
            · cases h
          · cases h
        · cases h
      · cases h
    · cases h
  · cases h

/-! ### slices -/
/-- n elements of a type's zero, canonically -/
def zerosC (P : Program) (E : TypeId) (n : Nat) : Option (List Value) :=
  match zeroC P E with
  | some [z] => some (List.replicate n z)
  | _ => none

theorem zerosC_ok {E : TypeId} {n : Nat} {cs : List Value} (h : zerosC P E n = some cs) :
    ∃ i z, P.info? E = some i ∧ i.zero = some z ∧ z.cells.size = 1 ∧ cs.length = n ∧ LR (VR0 rs hs) (List.replicate n z.cells[0]!) cs := by
  unfold zerosC at h
  split at h
  · rename_i z hz
    cases h
    obtain ⟨i, z', hi, hzz, hl⟩ := zeroC_ok (rs := rs) (hs := hs) hz
    have hs1 : z'.cells.size = 1 := hl.toList
    refine ⟨i, z', hi, hzz, hs1, by simp, LR.replicate ?_ n⟩
    obtain ⟨v, vs, e, hv, _⟩ := hl.cons_right
    have : z'.cells[0]! = v := by
      have : z'.cells.toList[0]? = some v := by rw [e]; rfl
      have h2 : z'.cells[0]? = some v := by simpa using this
      rw [Array.getElem!_eq_getD, Array.getD_eq_getD_getElem?, h2]; rfl
    rw [this]
    exact hv
  · cases h

/-- a slice of its own in the slot n -/
def rowV (n len : Nat) : Value := .slice (some ⟨n, 0, none⟩) len 0

theorem rowV_ok {n len cap : Nat} {E : TypeId} {l : Lst} {oa : Option Addr} (hr : rs[n]? = some (.row E l)) (hh : hs n = some (.slice oa len cap)) (hl : len = l.length) (hc : len ≤ cap) :
    VR2 rs hs (.slice oa len cap) (rowV n len) := by
  refine ⟨hh, ⟨oa, cap, rfl, hc⟩, fun r m h1 h2 => ?_⟩
  rw [hr] at h1; cases h1; cases h2; exact hl

/-- the slot that is used up, then the new one -/
def killW (src : Option Nat) (p : Nat × Res) : List (Nat × Res) := match src with
  | some k => [(k, .dead), p]
  | none => [p]

/-- a new row -/
theorem new_row (H : Heap w0 M rs hs w) {n : Nat} (hn : hs n = none) {E : TypeId} {cs : Array Value} {l : Lst} {w1 : World} (F1 : Fr [] w w1) (hw1 : w1.heap.size = w.heap.size) (src : Option Nat) (hsrc : ∀ k, src = some k → k ≠ n ∧ k < rs.length)
    (hmax : cs.size ≤ maxLen) (hle : l.length ≤ cs.size) (hl : LR (VR0 [] fun _ => none) (cs.toList.take l.length) l.cells)
    {s : Sem Next} (hrun : s.run P w = .ok (.value (.slice (some ⟨w.heap.size, 0, none⟩) l.length cs.size)) (w1.alloc (.cells cs E))) :
    EOK P w0 M rs hs w n s (rowV n l.length) (killW src (n, .row E l)) := by
  have F := F1.trans (Fr.alloc [] w1 (.cells cs E))
  have hnew : (w1.alloc (.cells cs E)).heap[w.heap.size]? = some (.cells cs E (0, 0)) := by rw [← hw1]; exact alloc_new _ _
  have G := H.put1 (w' := w1.alloc (.cells cs E)) (r := .row E l) (h := .slice (some ⟨w.heap.size, 0, none⟩) l.length cs.size) hn src hsrc F.os F.tape F.output F.size
    (fun b hb _ => F.block b hb (by simp))
    (fun m => by
      by_cases hc : cs.size = 0
      · exact ⟨_, cs.size, rfl, .inl ⟨hc, by omega⟩⟩
      · exact ⟨_, cs.size, rfl, .inr ⟨_, cs, rfl, Nat.pos_of_ne_zero hc, hnew, hle, hmax, rfl, hl⟩⟩)
    (fun b hb => .inl (by simp only [Res.own] at hb; split at hb <;> cases hb; exact Nat.le_refl _))
    (fun b hb => by cases hb)
  have e : puts rs (killW src (n, .row E l)) = put (killO rs src) n (.row E l) := by cases src <;> rfl
  unfold EOK
  rw [e]
  exact ⟨_, _, _, _, hrun, .inl rfl, rowV_ok (put_same _ _ _) (upd_same _ _ _) rfl hle, G.1, G.2, fun i hi => upd_ne _ _ _ hi⟩

def eBuildSlice (P : Program) (ρ : Operand → Option Value) (n : Nat) (T : TypeId) (len : Nat) (parts : Array (Nat × Operand)) : ER :=
  match P.underlying T with
  | some (.slice E) => match sizeT P E with
    | some 1 => match elemK P E with
      | some z => match zerosC P E len with
        | some zs => match allP ρ parts.toList with
          | some ps => match ps.all (fun p => oneOrAgg p.2) with
            | true => match fillC (fun i => some (i * 1, 1)) zs ps with
              | some cs => match toLst z cs with
                | some l => match Nat.ble len 16777216 with
                  | true => some (none, rowV n l.length, [(n, .row E l)])
                  | false => none
                | none => none
              | none => none
            | false => none
          | none => none
        | none => none
      | none => none
    | _ => none
  | _ => none

theorem zero_cells (z : Array Value) (n : Nat) (h : z.size = 1) : ((Array.range n).map (z[· % z.size]!)) = (List.replicate n z[0]!).toArray := by
  apply Array.ext'
  apply List.ext_getElem
  · simp
  · intro i h1 h2
    simp [h, Nat.mod_one]

theorem fillC_length {place : Nat → Option (Nat × Nat)} : ∀ {ps : List (Nat × Value)} {cells cs : List Value}, fillC place cells ps = some cs → cs.length = cells.length
  | [], cells, cs, h => by simp [fillC] at h; rw [h]
  | (i, v) :: r, cells, cs, h => by
    simp only [fillC] at h
    split at h
    · cases h
    · rename_i off size hp
      split at h
      · rename_i hb
        simp only [Bool.and_eq_true, Nat.ble_eq] at hb
        have hb1 := Nat.eq_of_beq_eq_true hb.1
        have := fillC_length h
        simp at this
        omega
      · cases h

theorem eBuildSlice_ok (H : Heap w0 M rs hs w) (hρ : ∀ x c, ρ x = some c → VR2 rs hs (e x) c) {n : Nat} (hn : hs n = none) {T : TypeId} {len : Nat} {parts : Array (Nat × Operand)} {c : Value} {ob : Option Prop} {ws : List (Nat × Res)}
    (h : eBuildSlice P ρ n T len parts = some (ob, c, ws)) :
    EOK P w0 M rs hs w n (do pure (Next.value (← Instr.buildSlice T len (parts.map fun (i, x) => (i, e x))))) c ws := by
  unfold eBuildSlice at h
  split at h
  · rename_i E hT
    split at h
    · rename_i hE
      split at h
      · rename_i z hz
        split at h
        · rename_i zs hzs
          split at h
          · rename_i ps hps
            split at h
            · rename_i hall
              split at h
              · rename_i cs hf
                split at h
                · rename_i l hl
                  split at h
                  · rename_i hble
                    cases h
                    have hlen := Nat.le_of_ble_eq_true hble
                    obtain ⟨i, z', hi, hzz, hz1, hzl, hlr⟩ := zerosC_ok (rs := rs) (hs := hs) hzs
                    obtain ⟨h1, h2⟩ := allP_ok hρ hps
                    have his : i.size = 1 := by unfold sizeT at hE; rw [hi] at hE; simpa using hE
                    obtain ⟨hc1, hc2⟩ := toLst_cells (elemK_length hz) hl
                    have hcl := fillC_length hf
                    obtain ⟨ds, h3, h4⟩ := fillC_ok _ _ _ (List.replicate len z'.cells[0]!).toArray zs cs hall h1 h2 (by simpa using hlr) hf
                    have hds : ds.size = len := by rw [h4.toList, hcl, hzl]
                    have hll : l.length = len := by rw [hc2, hcl, hzl]
                    refine new_row (cs := ds) (w1 := w) H hn (Fr.refl _ _) rfl none (by simp) (by rw [hds]; simp [maxLen]; omega) (by omega) ?_ ?_
                    · rw [List.take_of_length_le (by simp; omega), hc1]
                      exact h4.num fun u hu => Lst.cells_num l u (by rw [hc1]; exact hu)
                    · have ee : (parts.map fun (i, x) => (i, e x)).toList = parts.toList.map fun p => (p.1, e p.2) := by simp
                      have hf' : Instr.fill (fun i => some (i * 1, 1)) (if len * 1 = 0 then #[] else (Array.range (len * 1)).map (z'.cells[· % z'.cells.size]!)) (parts.map fun (i, x) => (i, e x)).toList = some ds := by
                        rw [ee, Nat.mul_one, zero_cells _ _ hz1]
                        by_cases h0 : len = 0
                        · subst h0; simpa using h3
                        · rw [if_neg h0]; exact h3
                      rw [hll, hds]
                      by_cases h0 : len = 0
                      · subst h0
                        simp at hf'
                        simp [Instr.buildSlice, run_underlying hT, sizeOf, typeInfo, hi, his, newRow, Array.range_zero', hf']
                      · have hf2 := hf'
                        rw [if_neg (by omega)] at hf2
                        have := run_buildSlice (P := P) w T E len (parts.map fun (i, x) => (i, e x)) ds i z' hT hi hzz (by rw [his]; omega) (by rw [his]; omega) (by rw [his]; exact hf2)
                        simp [this]
                  · cases h
                · cases h
              · cases h
            · cases h
          · cases h
        · cases h
      · cases h
    · cases h
  · cases h

/-! ### make -/
def isZero (d : TypeDesc) (v : Value) : Bool :=
  match d with
  | .int k => match v with
    | .int k' n => decide (k' = k) && decide (n = 0)
    | _ => false
  | .bool => match v with
    | .bool b => !b
    | _ => false
  | .float k => match v with
    | .float k' n => decide (k' = k) && Nat.beq n 0
    | _ => false
  | .complex k => match v with
    | .complex k' a b => decide (k' = k) && Nat.beq a 0 && Nat.beq b 0
    | _ => false
  | _ => false

theorem zeros_cells {d : TypeDesc} {v : Value} (hz : isZero d v = true) {m : Nat} {l : Lst} (h : Lst.zeros m d = some l) : l.cells = List.replicate m v ∧ l.length = m := by
  cases d <;> simp only [Lst.zeros] at h <;> first | (cases h; done) | skip
  all_goals
    cases h
    cases v <;> simp only [isZero] at hz <;> first | (cases hz; done) | skip
    simp only [Bool.and_eq_true, decide_eq_true_eq, Bool.not_eq_true'] at hz
  · subst hz; simp [Lst.cells, Lst.length]
  · obtain ⟨rfl, rfl⟩ := hz; simp [Lst.cells, Lst.length]
  · obtain ⟨rfl, h2⟩ := hz; obtain rfl := Nat.eq_of_beq_eq_true h2; simp [Lst.cells, Lst.length]
  · obtain ⟨⟨rfl, h2⟩, h3⟩ := hz; obtain rfl := Nat.eq_of_beq_eq_true h2; obtain rfl := Nat.eq_of_beq_eq_true h3; simp [Lst.cells, Lst.length]

/-- an element's bytes are few -/
def fewBytes (P : Program) (E : TypeId) : Bool :=
  match P.info? E with
  | some i => Nat.ble i.bytes 64
  | none => false

def eMake (P : Program) (n : Nat) (T : TypeId) (a b : Value) : ER :=
  match a with
  | .int _ x => match b with
    | .int _ y => match P.underlying T with
      | some (.slice E) => match sizeT P E with
        | some 1 => match P.underlying E with
          | some d => match zerosC P E 1 with
            | some [v] => match isZero d v with
              | true => match fewBytes P E with
                | true => match Lst.zeros x.toNat d with
                  | some l => some (some (0 ≤ x ∧ x ≤ y ∧ y ≤ 1099511627776), rowV n l.length, [(n, .row E l)])
                  | none => none
                | false => none
              | false => none
            | _ => none
          | none => none
        | _ => none
      | _ => none
    | _ => none
  | _ => none

theorem sizeT_of {E : TypeId} {i : TypeInfo} {m : Nat} (h : sizeT P E = some m) (hi : P.info? E = some i) : i.size = m := by
  unfold sizeT at h; rw [hi] at h; simpa using h

theorem eMake_ok (H : Heap w0 M rs hs w) {n : Nat} (hn : hs n = none) {T : TypeId} {v u a b c : Value} {ob : Option Prop} {ws : List (Nat × Res)} (ha : VR2 rs hs v a) (hb : VR2 rs hs u b)
    (h : eMake P n T a b = some (ob, c, ws)) (hob : holdsOb ob) : EOK P w0 M rs hs w n (do pure (Next.value (← Instr.makeSlice T v u))) c ws := by
  unfold eMake at h
  split at h
  · rename_i k x
    split at h
    · rename_i k' y
      rw [int_of_VR ha, int_of_VR hb]
      split at h
      · rename_i E hT
        split at h
        · rename_i hE
          split at h
          · rename_i d hd
            split at h
            · rename_i z hz
              split at h
              · rename_i hzero
                split at h
                · rename_i hfew
                  split at h
                  · rename_i l hl
                    cases h
                    obtain ⟨o1, o2, o3⟩ : 0 ≤ x ∧ x ≤ y ∧ y ≤ 1099511627776 := hob
                    obtain ⟨i, z', hi, hzz, hz1, hzl, hlr⟩ := zerosC_ok (rs := []) (hs := fun _ => none) hz
                    obtain ⟨hc, hln⟩ := zeros_cells hzero hl
                    have his := sizeT_of hE hi
                    have hby : i.bytes ≤ 64 := by unfold fewBytes at hfew; rw [hi] at hfew; exact Nat.le_of_ble_eq_true hfew
                    have hsz : (madeCells z'.cells (y.toNat * i.size)).size = y.toNat := by rw [size_madeCells, his, Nat.mul_one]
                    refine new_row (cs := madeCells z'.cells (y.toNat * i.size)) (w1 := w) H hn (Fr.refl _ _) rfl none (by simp) (by rw [hsz]; simp [maxLen]; omega) (by omega) ?_ ?_
                    · have e : (madeCells z'.cells (y.toNat * i.size)).toList = List.replicate y.toNat z'.cells[0]! := by
                        rw [his, Nat.mul_one]; unfold madeCells; rw [zero_cells _ _ hz1]
                      rw [e, hln, hc, List.take_replicate, Nat.min_eq_left (by omega)]
                      exact LR.replicate (by have := hlr.head; exact this) _
                    · have hb1 : (i.bytes : Int) * y ≤ 281474976710656 := by
                        have h1 : (i.bytes : Int) * y ≤ 64 * y := Int.mul_le_mul_of_nonneg_right (by omega) (by omega)
                        omega
                      have := run_make (P := P) w T E i z' hT hi hzz k k' x y o1 o2 hb1 (by omega)
                      simp [this, hln, hsz]
                  · cases h
                · cases h
              · cases h
            · cases h
          · cases h
        · cases h
      · cases h
    · cases h
  · cases h

/-! ### an array as a value -/
def eLoadArr (P : Program) (rs : List Res) (n : Nat) (T : TypeId) (a : Value) : ER :=
  match a with
  | .pointer p => match p with
    | some p => match Nat.beq p.off 0 with
      | true => match rs[p.block]? with
        | some r => match r with
          | .arr _ l => match isAggT P T with
            | some true => match sizeT P T with
              | some m => some (some (l.length = m), .map (some n), [(n, .snap l)])
              | none => none
            | _ => none
          | _ => none
        | none => none
      | false => none
    | none => none
  | _ => none

theorem eLoadArr_ok (H : Heap w0 M rs hs w) {n : Nat} (hn : hs n = none) {T : TypeId} {v a c : Value} {ob : Option Prop} {ws : List (Nat × Res)} (ha : VR2 rs hs v a)
    (h : eLoadArr P rs n T a = some (ob, c, ws)) (hob : holdsOb ob) : EOK P w0 M rs hs w n (do pure (Next.value (← Instr.loadAt T v))) c ws := by
  unfold eLoadArr at h
  split at h
  · split at h
    · rename_i p
      split at h
      · rename_i hz
        have hz' := Nat.eq_of_beq_eq_true hz
        split at h
        · rename_i r hr
          split at h
          · rename_i T' l
            split at h
            · rename_i h1
              split at h
              · rename_i m h2
                cases h
                have hob' : l.length = m := hob
                obtain ⟨⟨h0, ad, hk, hbase, rfl⟩, hoff⟩ := ha
                obtain ⟨g, ds, rfl, hg, hds⟩ := H.holds _ _ _ hr hk
                cases hbase
                rw [hz']
                have hrun : (loadVar T ⟨g, 0, none⟩).run P w = .ok (.agg ds.toList.toArray) w := by
                  refine run_loadAgg h1 h2 (by rw [hds.1, Lst.length_cells, hob']) fun j u hu => ?_
                  rw [Addr.add_zero', cell_of_row w g j ds _ (0, 0) hg]
                  simpa using hu
                have G := H.put1 (w' := w) (r := .snap l) (h := .agg ds) hn none (by simp) rfl rfl rfl (Nat.le_refl _) (fun _ _ _ => rfl)
                  (fun _ => ⟨ds, rfl, hds⟩) (fun b hb => by cases hb) (fun b hb => by cases hb)
                refine ⟨.value (.agg ds), _, w, _, ?_, .inl rfl, upd_same _ _ _, G.1, G.2, fun i hi => upd_ne _ _ _ hi⟩
                have e0 : (⟨g, 0, none⟩ : Addr).add 0 = ⟨g, 0, none⟩ := rfl
                simp [Instr.loadAt, Instr.sureAddr, e0, hrun]
              · cases h
            · cases h
          · cases h
        · cases h
      · cases h
    · cases h
  · cases h

/-! ### append -/
/-- the part of a list that a slice shows -/
def subL (l : Lst) (p : Addr) (n q : Nat) : Lst := match q with
  | 0 => l
  | _ + 1 => (l.drop p.off).take n
/-- the elements of a slice (z: none, of its kind) -/
def srcLst (rs : List Res) (z : Lst) (t : Value) : Option Lst :=
  match t with
  | .slice p n q => match p with
    | none => some z
    | some p => match rs[p.block]? with
      | some r => match sliceLst r with
        | some l => some (subL l p n q)
        | none => none
      | none => none
  | _ => none

theorem cells_sub {l : Lst} {p : Addr} {n q : Nat} {j : Nat} {u : Value} (hn : sOff p q + n ≤ l.length) (h : (subL l p n q).cells[j]? = some u) : l.cells[sOff p q + j]? = some u := by
  cases q with
  | zero => simpa [subL, sOff] using h
  | succ q =>
    simp only [subL, Lst.take_cells, Lst.drop_cells, List.getElem?_take, List.getElem?_drop] at h
    split at h
    · simpa [sOff] using h
    · cases h

theorem srcLst_len {z m : Lst} {t v : Value} (H : Heap w0 M rs hs w) (hz : z.length = 0) (ht : VR2 rs hs v t) (h : srcLst rs z t = some m) :
    ∃ oa cap, v = .slice oa m.length cap ∧ m.length ≤ cap ∧ (m.length = 0 ∨ ∃ a, oa = some a ∧ ∀ j u, m.cells[j]? = some u → ∃ x, w.cell? (a.add j) = some x ∧ VR0 [] (fun _ => none) x u) := by
  unfold srcLst at h
  split at h
  · rename_i p n q
    split at h
    · cases h
      obtain ⟨_, rfl⟩ := ht
      exact ⟨none, 0, by rw [hz], by omega, .inl hz⟩
    · rename_i p
      split at h
      · rename_i r hr
        split at h
        · rename_i l hl
          cases h
          have ht0 := ht
          obtain ⟨oa, cap, rfl, hnc, h2⟩ := slice_of_VR H ht hr hl
          have hlen : (subL l p n q).length = n := by
            cases q with
            | zero =>
              obtain ⟨_, _, h3⟩ := ht0
              exact (h3 r _ hr (sliceLst_len hl)).symm
            | succ q =>
              simp only [subL, Lst.take_length, Lst.drop_length]
              rcases h2 with h2 | ⟨_, _, _, _, _, h6⟩
              · omega
              · simp only [sOff] at h6; omega
          refine ⟨oa, cap, by rw [hlen], by omega, ?_⟩
          rw [hlen]
          refine h2.imp id ?_
          rintro ⟨h0, a, h3, h4, h5, h6⟩
          refine ⟨_, h5, fun j u hu => ?_⟩
          rw [Addr.add_add]
          have hany : anyLst r = some l := by cases r <;> simp [sliceLst] at hl <;> subst hl <;> rfl
          exact lst_cells (H.holds _ _ _ hr h3) hany h4 _ _ (cells_sub h6 hu)
        · cases h
      · cases h
  · cases h

theorem src_of {z m : Lst} {t v : Value} (H : Heap w0 M rs hs w) (hz : z.length = 0) (ht : VR2 rs hs v t) (h : srcLst rs z t = some m) {T E : TypeId} (hT : P.underlying T = some (.slice E)) :
    ∃ news, Src P 1 T v m.length news w ∧ LR (VR0 [] fun _ => none) news m.cells := by
  obtain ⟨oa, cap, rfl, hc, h2⟩ := srcLst_len H hz ht h
  rcases h2 with h2 | ⟨a, rfl, h2⟩
  · have hm : m.cells = [] := List.eq_nil_of_length_eq_zero (by rw [Lst.length_cells, h2])
    refine ⟨[], ?_, by rw [hm]; exact LR.nil⟩
    rw [h2]
    cases oa with
    | none => exact Src.ofNil w hT cap
    | some a => exact Src.ofSlice w hT a 0 cap [] (by simp) (by simp) (by simp)
  · obtain ⟨ds, h3, h4⟩ := cells_list w a m.cells h2
    have hone := h3.oneCell (List.all_eq_true.2 fun x hx => isCell_of_num (Lst.cells_num m x hx))
    exact ⟨ds, Src.ofSlice w hT a m.length cap ds (by rw [h3.1, Lst.length_cells, Nat.mul_one]) h4 hone, h3⟩

def eAppend (P : Program) (rs : List Res) (n : Nat) (T T' : TypeId) (s t : Value) : ER :=
  match Nat.beq T T' with
  | true => match P.underlying T with
    | some (.slice E) => match sizeT P E with
      | some 1 => match elemK P E with
        | some z => match zerosC P E 1 with
          | some _ => match fewBytes P E with
            | true => match srcLst rs z t with
              | some m => match s with
                | .slice p _ q => match p with
                  | none => match z.app m with
                    | some l => some (some (l.length ≤ 1099511627776), rowV n l.length, [(n, .row E l)])
                    | none => none
                  | some p => match q with
                    | 0 => match rs[p.block]? with
                      | some r => match r with
                        | .row E' l0 => match Nat.beq E' E with
                          | true => match l0.app m with
                            | some l => some (some (l.length ≤ 1099511627776), rowV n l.length, [(p.block, .dead), (n, .row E l)])
                            | none => none
                          | false => none
                        | _ => none
                      | none => none
                    | _ + 1 => none
                | _ => none
              | none => none
            | false => none
          | none => none
        | none => none
      | _ => none
    | _ => none
  | false => none

theorem run_append_room' {T E ty : TypeId} {i : TypeInfo} (ht : P.underlying T = some (.slice E)) (hi : P.info? E = some i) (hi1 : i.size = 1)
    (g sLen sCap : Nat) (cur : Array Value) (hg : w.heap[g]? = some (.cells cur E (0, 0))) (x : Value) (m : Nat) (news : List Value) (hsrc : Src P 1 T x m news w)
    (hroom : sLen + m ≤ sCap) (hfit : sLen + news.length ≤ cur.size) :
    (Builtin.append_ #[T, T] ty #[.slice (some ⟨g, 0, none⟩) sLen sCap, x]).run P w =
      .ok (.slice (some ⟨g, 0, none⟩) (sLen + m) sCap) (w.setRow g (cur.toList.take sLen ++ news ++ cur.toList.drop (sLen + news.length)).toArray) := by
  have hst := run_storeCells_at P g sLen E news 0 cur w hg (by simpa using hfit) hsrc.one
  simp only [Nat.add_zero] at hst
  simp [Builtin.append_, run_underlying ht, sizeOf, typeInfo, hi, hi1, hsrc.len, hroom, hsrc.cells, Addr.add_lit, hst]

theorem zeroCells_one (z : Array Value) (n : Nat) (h : z.size = 1) : (Builtin.zeroCells z n) = (List.replicate n z[0]!).toArray := by
  unfold Builtin.zeroCells
  rw [h, Nat.mul_one]
  have := zero_cells z n h
  rw [h] at this
  exact this

/-- what is appended to: nothing, or a slice of the call's own -/
theorem append_ok (H : Heap w0 M rs hs w) {n : Nat} (hn : hs n = none) {T E ty : TypeId} {v u : Value} {l0 m l : Lst} {news olds : List Value} {oa : Option Addr} {cap : Nat} {src : Option Nat}
    (hT : P.underlying T = some (.slice E)) {i : TypeInfo} {z : Value} (hi : P.info? E = some i) (hi1 : i.size = 1) (hz : i.zero = some z) (hz1 : z.cells.size = 1) (hby : i.bytes ≤ 64)
    (hv : v = .slice oa l0.length cap) (hcap : l0.length ≤ cap) (hmax : cap ≤ maxLen) (holds : LR (VR0 [] fun _ => none) olds l0.cells)
    (hold : (Builtin.firstCells 1 l0.length v).run P w.drew = .ok olds.toArray w.drew)
    (hsrc : ∀ k, src = some k → k ≠ n ∧ k < rs.length)
    (hrow : cap = 0 ∨ ∃ g ds k r, oa = some ⟨g, 0, none⟩ ∧ w.heap[g]? = some (.cells ds E (0, 0)) ∧ ds.size = cap ∧ olds = ds.toList.take l0.length ∧ src = some k ∧ rs[k]? = some r ∧ hs k = some v ∧ r.own v = some g)
    (hS : Src P 1 T u m.length news w) (hnews : LR (VR0 [] fun _ => none) news m.cells) (happ : l0.app m = some l) (hob : l.length ≤ 1099511627776) :
    EOK P w0 M rs hs w n (do pure (Next.value (← Builtin.append_ #[T, T] ty #[v, u]))) (rowV n l.length) (killW src (n, .row E l)) := by
  obtain ⟨hc, hln⟩ := Lst.app_cells happ
  have hnl : news.length = m.length := by rw [hnews.1, Lst.length_cells]
  have hol : olds.length = l0.length := by rw [holds.1, Lst.length_cells]
  have hall : LR (VR0 [] fun _ => none) (olds ++ news) l.cells := by rw [hc]; exact holds.append hnews
  have e : puts rs (killW src (n, .row E l)) = put (killO rs src) n (.row E l) := by cases src <;> rfl
  by_cases hroom : l0.length + m.length ≤ cap
  · by_cases hm : m.length = 0
    · -- nothing
      have hnn : news = [] := List.eq_nil_of_length_eq_zero (by omega)
      subst hnn
      have hS0 := hS
      rw [hm] at hS0
      have hrun := run_append_nothing (P := P) w T T ty E i hT hi oa l0.length cap hcap u (by rw [hi1]; exact hS0)
      rw [← hv] at hrun
      have hll : l.length = l0.length := by omega
      have G := H.put1 (w' := w) (r := .row E l) (h := v) hn src hsrc rfl rfl rfl (Nat.le_refl _) (fun _ _ _ => rfl)
        (fun _ => by
          rcases hrow with h0 | ⟨g, ds, k, r, h1, h2, h3, h4, h5, h6, h7, h8⟩
          · exact ⟨oa, cap, by rw [hv, hll], .inl ⟨h0, by omega⟩⟩
          · refine ⟨oa, cap, by rw [hv, hll], ?_⟩
            by_cases h0 : cap = 0
            · exact .inl ⟨h0, by omega⟩
            · refine .inr ⟨g, ds, h1, Nat.pos_of_ne_zero h0, h2, by omega, hmax, h3, ?_⟩
              rw [hll, ← h4]
              simpa using hall)
        (fun b hb => by
          rcases hrow with h0 | ⟨g, ds, k, r, h1, h2, h3, h4, h5, h6, h7, h8⟩
          · subst h0; rw [hv] at hb; cases oa <;> simp [Res.own] at hb
          · rw [hv, h1] at hb
            simp only [Res.own] at hb
            split at hb
            · cases hb
            · cases hb; exact .inr ⟨k, r, v, h5, h6, h7, h8⟩)
        (fun b hb => by cases hb)
      unfold EOK
      rw [e]
      refine ⟨.value v, v, w, _, by simp [hrun], .inl rfl, ?_, G.1, G.2, fun i hi => upd_ne _ _ _ hi⟩
      have hv' : v = .slice oa l.length cap := by rw [hv, hll]
      rw [hv']
      exact rowV_ok (put_same _ _ _) (upd_same _ _ _) rfl (by omega)
    · -- room
      rcases hrow with h0 | ⟨g, ds, k, r, h1, h2, h3, h4, h5, h6, h7, h8⟩
      · omega
      subst h1
      have hrun := run_append_room' (P := P) (ty := ty) hT hi hi1 g l0.length cap ds h2 u m.length news hS hroom (by omega)
      rw [← hv] at hrun
      obtain ⟨f1, f2, f3, f4, f5⟩ := setRow_frame w g (ds.toList.take l0.length ++ news ++ ds.toList.drop (l0.length + news.length)).toArray
      have G := H.put1 (r := .row E l) (h := .slice (some ⟨g, 0, none⟩) l.length cap) hn src hsrc f1 f2 f3 f4
        (fun b _ hb => f5 b fun e' => hb k r v h5 h6 h7 (by rw [h8, e']))
        (fun _ => by
          refine ⟨_, cap, rfl, .inr ⟨g, _, rfl, by omega, setRow_heap w g _ _ _ _ h2, by omega, hmax, ?_, ?_⟩⟩
          · simp; omega
          · rw [hln, ← h4, List.toList_toArray, List.take_append_of_le_length (by simp; omega), List.take_of_length_le (by simp; omega)]
            exact hall)
        (fun b hb => by
          simp only [Res.own] at hb
          split at hb
          · cases hb
          · cases hb; exact .inr ⟨k, r, v, h5, h6, h7, h8⟩)
        (fun b hb => by cases hb)
      unfold EOK
      rw [e]
      refine ⟨.value (.slice (some ⟨g, 0, none⟩) l.length cap), _, _, _, by simp [hrun, hln], .inl rfl, ?_, G.1, G.2, fun i hi => upd_ne _ _ _ hi⟩
      exact rowV_ok (put_same _ _ _) (upd_same _ _ _) rfl (by omega)
  · -- a new row
    have hfit := growslice_fits (need := l0.length + m.length) (old := cap) (bytes := i.bytes) (by omega) (by
      have : (l0.length + m.length) * i.bytes ≤ 1099511627776 * 64 := Nat.mul_le_mul (by omega) hby
      omega)
    have hgm := run_append_grow_src (P := P) w T T ty E i z hT hi hz oa l0.length cap olds (by rw [hi1, ← hv]; exact hold) u m.length news (by rw [hi1]; exact hS) (by omega) (by omega) hfit
    rw [← hv] at hgm
    have hge := grownCap_ge w (l0.length + m.length) cap E
    have hle := grownCap_le_maxLen w (l0.length + m.length) cap E (by simp [maxLen]; omega)
    have hsz : ((olds ++ news).toArray ++ Builtin.zeroCells z.cells (grownCap w (l0.length + m.length) cap E - (l0.length + m.length))).size = grownCap w (l0.length + m.length) cap E := by
      rw [zeroCells_one _ _ hz1]; simp [hol, hnl]; omega
    refine new_row (w1 := w.drew) H hn ⟨rfl, rfl, rfl, Nat.le_refl _, fun _ _ _ => rfl⟩ rfl src hsrc (by rw [hsz]; exact hle) (by rw [hsz]; omega) ?_ ?_
    · rw [zeroCells_one _ _ hz1]
      simp only [Array.toList_append]
      rw [List.take_append_of_le_length (by simp; omega), List.take_of_length_le (by simp; omega)]
      exact hall
    · simp [hgm, hln, hsz]

theorem eAppend_ok (H : Heap w0 M rs hs w) {n : Nat} (hn : hs n = none) {T T' ty : TypeId} {v u s t c : Value} {ob : Option Prop} {ws : List (Nat × Res)} (hs0 : VR2 rs hs v s) (ht : VR2 rs hs u t)
    (h : eAppend P rs n T T' s t = some (ob, c, ws)) (hob : holdsOb ob) : EOK P w0 M rs hs w n (do pure (Next.value (← Builtin.append_ #[T, T'] ty #[v, u]))) c ws := by
  unfold eAppend at h
  split at h
  · rename_i hb
    obtain rfl := Nat.eq_of_beq_eq_true hb
    split at h
    · rename_i E hT
      split at h
      · rename_i hE
        split at h
        · rename_i z hz
          split at h
          · rename_i zc hzc
            split at h
            · rename_i hfew
              split at h
              · rename_i m hm
                obtain ⟨i, z', hi, hzz, hz1, _, _⟩ := zerosC_ok (rs := []) (hs := fun _ => none) hzc
                have his := sizeT_of hE hi
                have hby : i.bytes ≤ 64 := by unfold fewBytes at hfew; rw [hi] at hfew; exact Nat.le_of_ble_eq_true hfew
                obtain ⟨news, hS, hnews⟩ := src_of (P := P) H (elemK_length hz) ht hm hT
                split at h
                · split at h
                  · split at h
                    · rename_i l hl
                      cases h
                      obtain ⟨_, rfl⟩ := hs0
                      have hzl := elemK_length hz
                      have hzcs : z.cells = [] := List.eq_nil_of_length_eq_zero (by rw [Lst.length_cells, hzl])
                      refine append_ok (src := none) (l0 := z) (olds := []) (oa := none) (cap := 0) H hn hT hi his hzz hz1 hby (by rw [hzl]) (by omega) (by simp) (by rw [hzcs]; exact LR.nil) ?_ (by simp) (.inl rfl) hS hnews hl hob
                      rw [hzl]
                      exact run_firstCells_none ..
                    · cases h
                  · rename_i p
                    split at h
                    · split at h
                      · rename_i r hr
                        split at h
                        · rename_i E' l0
                          split at h
                          · rename_i hEE
                            obtain rfl := Nat.eq_of_beq_eq_true hEE
                            split at h
                            · rename_i l hl
                              cases h
                              obtain ⟨hk, ⟨oa, cap, rfl, hcap⟩, hlen⟩ := hs0
                              have hh := H.holds _ _ _ hr hk
                              obtain ⟨g, cap', e1, hrow⟩ := hh
                              cases e1
                              have hkn : p.block ≠ n := by intro e; rw [e, hn] at hk; cases hk
                              have hkl := (List.getElem?_eq_some_iff.1 hr).1
                              rcases hrow with ⟨hc0, hl0⟩ | ⟨g, ds, rfl, hpos, hg, hle, hmax, hds, hlr⟩
                              · subst hc0
                                have hl0c : l0.cells = [] := List.eq_nil_of_length_eq_zero (by rw [Lst.length_cells, hl0])
                                refine append_ok (src := some p.block) (l0 := l0) (olds := []) (cap := 0) H hn hT hi his hzz hz1 hby rfl (by omega) (by simp) (by rw [hl0c]; exact LR.nil) ?_ (by intro k e; cases e; exact ⟨hkn, hkl⟩) (.inl rfl) hS hnews hl hob
                                rw [hl0]
                                cases oa with
                                | none => exact run_firstCells_none ..
                                | some a => exact run_firstCells_some _ 1 0 a 0 0 [] (by simp) (by simp)
                              · refine append_ok (src := some p.block) (l0 := l0) (olds := ds.toList.take l0.length) H hn hT hi his hzz hz1 hby rfl hcap hmax hlr ?_ (by intro k e; cases e; exact ⟨hkn, hkl⟩)
                                  (.inr ⟨g, ds, p.block, _, rfl, hg, hds, rfl, rfl, hr, hk, by simp [Res.own]; omega⟩) hS hnews hl hob
                                refine run_firstCells_some _ 1 _ _ _ _ _ (by simp; omega) fun j x hx => ?_
                                rw [Addr.add_zero']
                                rw [List.getElem?_take] at hx
                                split at hx
                                · rw [World.cell?_drew, cell_of_row w g j ds _ (0, 0) hg]; simpa using hx
                                · cases hx
                            · cases h
                          · cases h
                        · cases h
                      · cases h
                    · cases h
                · cases h
              · cases h
            · cases h
          · cases h
        · cases h
      · cases h
    · cases h
  · cases h

/-! ### elements are copied -/
/-- a list's elements from o on are overwritten -/
def putL (l m : Lst) (o : Nat) : Option Lst :=
  match (l.take o).app m with
  | some a => a.app (l.drop (o + m.length))
  | none => none
def eCopy (P : Program) (rs : List Res) (T : TypeId) (s t : Value) : ER :=
  match P.underlying T with
  | some (.slice E) => match sizeT P E with
    | some 1 => match elemK P E with
      | some z => match srcLst rs z t with
        | some m => match s with
          | .slice p n q => match p with
            | some p => match rs[p.block]? with
              | some r => match r with
                | .row E' l => match Nat.beq E' E with
                  | true => match putL l m (sOff p q) with
                    | some l' => some (some (0 < m.length ∧ m.length ≤ n), .int .i64 (m.length : Int), [(p.block, .row E l')])
                    | none => none
                  | false => none
                | _ => none
              | none => none
            | none => none
          | _ => none
        | none => none
      | none => none
    | _ => none
  | _ => none
theorem eCopy_ok (H : Heap w0 M rs hs w) {T T' ty : TypeId} {v u s t c : Value} {ob : Option Prop} {ws : List (Nat × Res)} (hs0 : VR2 rs hs v s) (ht : VR2 rs hs u t)
    (h : eCopy P rs T s t = some (ob, c, ws)) (hob : holdsOb ob) : EOKs P w0 M rs hs w (do pure (Next.value (← Builtin.copy_ #[T, T'] ty #[v, u]))) c ws := by
  unfold eCopy at h
  split at h
  · rename_i E hT
    split at h
    · rename_i hE
      split at h
      · rename_i z hz
        split at h
        · rename_i m hm
          obtain ⟨news, hS, hnews⟩ := src_of (P := P) H (elemK_length hz) ht hm hT
          split at h
          · rename_i p0 n q
            split at h
            · rename_i p
              split at h
              · rename_i r hr
                split at h
                · rename_i E' l
                  split at h
                  · rename_i hEE
                    obtain rfl := Nat.eq_of_beq_eq_true hEE
                    split at h
                    · rename_i l' hl'
                      cases h
                      obtain ⟨hm0, hmn⟩ := hob
                      obtain ⟨oa, cap, rfl, hcap, hvw⟩ := slice_of_VR H hs0 hr (l := l) rfl
                      rcases hvw with hvw | ⟨h0, a, hk, hbase, rfl, hln⟩
                      · omega
                      have hh := H.holds _ _ _ hr hk
                      obtain ⟨g, cap', rfl, hrow⟩ := hh
                      rcases hrow with ⟨_, hz0⟩ | ⟨g, ds, rfl, hpos, hg, hle, hmax, hdsz, hds⟩
                      · omega
                      cases hbase
                      -- the list
                      unfold putL at hl'
                      split at hl'
                      · rename_i a1 ha1
                        obtain ⟨hc1, hl1⟩ := Lst.app_cells ha1
                        obtain ⟨hc2, hl2⟩ := Lst.app_cells hl'
                        rw [hc1, Lst.take_cells, Lst.drop_cells] at hc2
                        have hlc : l.cells.length = l.length := Lst.length_cells l
                        have hmc : m.cells.length = m.length := Lst.length_cells m
                        have hl'len : l'.length = l.length := by
                          rw [← Lst.length_cells, hc2]
                          simp only [List.length_append, List.length_take, List.length_drop]
                          omega
                        have hnl : news.length = m.length := by rw [hS.newsLen, Nat.mul_one]
                        have hst := run_storeCells_at P g (sOff p q) E' news 0 ds w hg (by rw [hnl]; omega) hS.one
                        simp only [Nat.add_zero] at hst
                        have hrun : (Builtin.copy_ #[T, T'] ty #[.slice (some ((⟨g, 0, none⟩ : Addr).add (sOff p q))) n cap, u]).run P w = .ok (.int .i64 (m.length : Int)) (w.setRow g (ds.toList.take (sOff p q) ++ news ++ ds.toList.drop (sOff p q + news.length)).toArray) := by
                          have hmin : Nat.min m.length n = m.length := Nat.min_eq_left hmn
                          simp [Builtin.copy_, run_underlying hT, hS.len, hmin, run_sizeT hE, hS.cells, Addr.add_lit, hst, goInt]
                        obtain ⟨f1, f2, f3, f4, f5⟩ := setRow_frame w g (ds.toList.take (sOff p q) ++ news ++ ds.toList.drop (sOff p q + news.length)).toArray
                        have hown : (Res.row E' l).own (.slice (some ⟨g, 0, none⟩) l.length cap') = some g := by simp [Res.own]; omega
                        have G := H.mod1 (r' := .row E' l') hr hk f1 f2 f3 f4 (fun b _ hb => f5 b fun e => hb (by rw [e, hown])) (fun mp => by
                          refine ⟨some ⟨g, 0, none⟩, cap', by rw [hl'len], .inr ⟨g, _, rfl, hpos, setRow_heap w g _ _ _ _ hg, by omega, hmax, ?_, ?_⟩⟩
                          · simp only [List.size_toArray, List.length_append, List.length_take, List.length_drop, Array.length_toList]
                            omega
                          · rw [List.toList_toArray, hl'len, hc2, hnl]
                            have e1 : (ds.toList.take (sOff p q) ++ news ++ ds.toList.drop (sOff p q + m.length)).take l.length = (ds.toList.take l.length).take (sOff p q) ++ news ++ (ds.toList.take l.length).drop (sOff p q + m.length) := by
                              have hdl : ds.toList.length = ds.size := Array.length_toList
                              rw [List.take_append, List.take_append, List.take_take, List.drop_take]
                              congr 1
                              · congr 1
                                · rw [List.take_take]; congr 1; omega
                                · rw [List.take_of_length_le]
                                  rw [List.length_take]; omega
                              · simp only [List.length_append, List.length_take]
                                congr 1; omega
                            rw [e1]
                            exact ((hds.take _).append hnews).append (hds.drop _)) (fun b hb => hb) (fun _ hn => by cases hn; simp [Res.len, hl'len]) rfl
                        refine ⟨.value (.int .i64 (m.length : Int)), _, _, ?_, .inl rfl, rfl, G.1, G.2⟩
                        simp [hrun]
                      · cases hl'
                    · cases h
                  · cases h
                · cases h
              · cases h
            · cases h
          · cases h
        · cases h
      · cases h
    · cases h
  · cases h

/-! ### a slice of the call's own is shortened -/
def eShorten (P : Program) (rs : List Res) (n : Nat) (T : TypeId) (s y : Value) : ER :=
  match P.underlying T with
  | some (.slice E) => match sizeT P E with
    | some 1 => match s with
      | .slice p len q => match p with
        | some p => match q with
          | 0 => match rs[p.block]? with
            | some r => match r with
              | .row E' l => match y with
                | .int _ y => some (some (0 ≤ y ∧ y ≤ (len : Int)), rowV n (l.take y.toNat).length, [(p.block, .dead), (n, .row E' (l.take y.toNat))])
                | _ => none
              | _ => none
            | none => none
          | _ + 1 => none
        | none => none
      | _ => none
    | _ => none
  | _ => none

theorem eShorten_ok (H : Heap w0 M rs hs w) {n : Nat} (hn : hs n = none) {T : TypeId} {v u s t c : Value} {ob : Option Prop} {ws : List (Nat × Res)} (hs0 : VR2 rs hs v s) (ht : VR2 rs hs u t)
    (h : eShorten P rs n T s t = some (ob, c, ws)) (hob : holdsOb ob) : EOK P w0 M rs hs w n (do pure (Next.value (← Instr.sliceAt T v none (some u) none))) c ws := by
  unfold eShorten at h
  split at h
  · rename_i E hT
    split at h
    · rename_i hE
      split at h
      · rename_i p len q
        split at h
        · rename_i p
          split at h
          · split at h
            · rename_i r hr
              split at h
              · rename_i E' l
                split at h
                · rename_i k y
                  cases h
                  obtain ⟨o1, o2⟩ : 0 ≤ y ∧ y ≤ (len : Int) := hob
                  obtain ⟨hk, ⟨oa, cap, rfl, hcap⟩, hlen⟩ := hs0
                  have hll := hlen _ _ hr rfl
                  rw [int_of_VR ht]
                  have hh := H.holds _ _ _ hr hk
                  have hkn : p.block ≠ n := by intro e; rw [e, hn] at hk; cases hk
                  have hkl := (List.getElem?_eq_some_iff.1 hr).1
                  have htl : (l.take y.toNat).length = y.toNat := by rw [Lst.take_length]; omega
                  have b1 : (Instr.sliceBound (.int k y) cap .sliceAcap).run P w = .ok y.toNat w := run_bound (by omega) (by omega)
                  have hrun : (do pure (Next.value (← Instr.sliceAt T (.slice oa len cap) none (some (.int k y)) none)) : Sem Next).run P w = .ok (.value (.slice oa (l.take y.toNat).length cap)) w := by
                    rw [htl]
                    have e0 : ∀ a : Addr, a.add 0 = a := fun _ => rfl
                    cases oa <;> simp [Instr.sliceAt, Instr.slice, Instr.sliceBounds, run_underlying hT, b1, run_sizeT hE, e0]
                  have G := H.put1 (w' := w) (r := .row E' (l.take y.toNat)) (h := .slice oa (l.take y.toNat).length cap) hn (some p.block) (by intro k e; cases e; exact ⟨hkn, hkl⟩) rfl rfl rfl (Nat.le_refl _) (fun _ _ _ => rfl)
                    (fun _ => by
                      obtain ⟨g, cap', e1, hrow⟩ := hh
                      cases e1
                      refine ⟨_, cap, rfl, ?_⟩
                      rcases hrow with ⟨hc0, hl0⟩ | ⟨b, ds, rfl, hpos, hg, hle, hmax, hds, hlr⟩
                      · exact .inl ⟨hc0, by omega⟩
                      · refine .inr ⟨b, ds, rfl, hpos, hg, by omega, hmax, hds, ?_⟩
                        have := hlr.take y.toNat
                        rw [List.take_take] at this
                        rw [htl, Lst.take_cells]
                        rwa [Nat.min_eq_left (by omega)] at this)
                    (fun b hb => .inr ⟨p.block, _, _, rfl, hr, hk, by
                      cases oa with
                      | none => cases hb
                      | some a => exact hb⟩)
                    (fun b hb => by cases hb)
                  exact ⟨_, _, w, _, hrun, .inl rfl, rowV_ok (put_same _ _ _) (upd_same _ _ _) rfl (by omega), G.1, G.2, fun i hi => upd_ne _ _ _ hi⟩
                · cases h
              · cases h
            · cases h
          · cases h
        · cases h
      · cases h
    · cases h
  · cases h

/-! ### all of them -/
def optE (o : Option Value) (f : Value → ER) : ER := match o with
  | some c => f c
  | none => none
def optE2 (o p : Option Value) (f : Value → Value → ER) : ER := match o with
  | some c => match p with
    | some d => f c d
    | none => none
  | none => none
theorem optE_ok {o : Option Value} {f : Value → ER} {r : Option Prop × Value × List (Nat × Res)} (h : optE o f = some r) : ∃ c, o = some c ∧ f c = some r := by
  cases o with
  | none => cases h
  | some c => exact ⟨c, rfl, h⟩
theorem optE2_ok {o p : Option Value} {f : Value → Value → ER} {r : Option Prop × Value × List (Nat × Res)} (h : optE2 o p f = some r) : ∃ c d, o = some c ∧ p = some d ∧ f c d = some r := by
  cases o with
  | none => cases h
  | some c => cases p with
    | none => cases h
    | some d => exact ⟨c, d, rfl, rfl, h⟩

def eop (P : Program) (rs : List Res) (ρ : Operand → Option Value) (n : Nat) (op : Op) : ER :=
  match op with
  | .alloc T => eAlloc P n T
  | .box T x => optE (ρ x) (eBox P n T)
  | .buildSlice T len ps => eBuildSlice P ρ n T len ps
  | .makeSlice T a b => optE2 (ρ a) (ρ b) (eMake P n T)
  | .store T a x => optE2 (ρ a) (ρ x) (eStore P rs T)
  | .load T a => optE (ρ a) (eLoadArr P rs n T)
  | .slice T x lo hi mx => match lo with
    | none => match hi with
      | some y => match mx with
        | none => optE2 (ρ x) (ρ y) (eShorten P rs n T)
        | some _ => none
      | none => none
    | some _ => none
  | .call c => match c.callee with
    | .builtin .append => match c.args.toList with
      | [x, y] => match c.argTypes.toList with
        | [T, T'] => optE2 (ρ x) (ρ y) (eAppend P rs n T T')
        | _ => none
      | _ => none
    | .builtin .copy => match c.args.toList with
      | [x, y] => match c.argTypes.toList with
        | [T, _] => optE2 (ρ x) (ρ y) (eCopy P rs T)
        | _ => none
      | _ => none
    | _ => none
  | _ => none

/-- does it take a slot? -/
def newsIn : Op → Bool
  | .store _ _ _ => false
  | _ => true

theorem eop_ok (H : Heap w0 M rs hs w) (hρ : ∀ x c, ρ x = some c → VR2 rs hs (e x) c) {n : Nat} {o : Oper} (hn : newsIn o.op = true → hs n = none) {c : Value} {ob : Option Prop} {ws : List (Nat × Res)}
    (h : eop P rs ρ n o.op = some (ob, c, ws)) (hob : holdsOb ob) : EOK P w0 M rs hs w n (execOp e o) c ws ∧ (newsIn o.op = false → EOKs P w0 M rs hs w (execOp e o) c ws) := by
  unfold execOp
  cases hop : o.op <;> rw [hop] at h hn <;> (try simp only [eop] at h) <;> first | (cases h; done) | skip
  case alloc T => exact ⟨eAlloc_ok H (hn rfl) h, by simp [newsIn]⟩
  case box T x => obtain ⟨a, h1, h2⟩ := optE_ok h; exact ⟨eBox_ok H (hn rfl) (hρ _ _ h1) h2, by simp [newsIn]⟩
  case buildSlice T len ps => exact ⟨eBuildSlice_ok H hρ (hn rfl) h, by simp [newsIn]⟩
  case load T a => obtain ⟨b, h1, h2⟩ := optE_ok h; exact ⟨eLoadArr_ok H (hn rfl) (hρ _ _ h1) h2 hob, by simp [newsIn]⟩
  case store T a x => obtain ⟨b, d, h1, h2, h3⟩ := optE2_ok h; exact ⟨(eStore_ok H (hρ _ _ h1) (hρ _ _ h2) h3 hob).to n, fun _ => eStore_ok H (hρ _ _ h1) (hρ _ _ h2) h3 hob⟩
  case makeSlice T a b => obtain ⟨x, y, h1, h2, h3⟩ := optE2_ok h; exact ⟨eMake_ok H (hn rfl) (hρ _ _ h1) (hρ _ _ h2) h3 hob, by simp [newsIn]⟩
  case slice T x lo hi mx =>
    cases lo <;> cases hi <;> cases mx <;> dsimp only at h <;> first | (cases h; done) | skip
    obtain ⟨a, b, h1, h2, h3⟩ := optE2_ok h
    exact ⟨eShorten_ok H (hn rfl) (hρ _ _ h1) (hρ _ _ h2) h3 hob, by simp [newsIn]⟩
  case call cc =>
    split at h
    · rename_i hb
      split at h
      · rename_i x y hargs
        split at h
        · rename_i T T' hts
          obtain ⟨a, b, h1, h2, h3⟩ := optE2_ok h
          have ha : cc.args = #[x, y] := Array.toList_inj.1 (by simpa using hargs)
          have ht : cc.argTypes = #[T, T'] := Array.toList_inj.1 (by simpa using hts)
          obtain ⟨x', v, w', hs', h4, h5⟩ := eAppend_ok (P := P) (ty := o.type) H (hn rfl) (hρ _ _ h1) (hρ _ _ h2) h3 hob
          refine ⟨⟨x', v, w', hs', ?_, h5⟩, by simp [newsIn]⟩
          have em : Array.map e #[x, y] = #[e x, e y] := by simp
          simp only [resolve, hb, invoke, Sem.run_bind, Sem.run_pure, Result.andThen_ok, ha, ht, em]
          exact h4
        · cases h
      · cases h
    · rename_i hb
      split at h
      · rename_i x y hargs
        split at h
        · rename_i T T' hts
          obtain ⟨a, b, h1, h2, h3⟩ := optE2_ok h
          have ha : cc.args = #[x, y] := Array.toList_inj.1 (by simpa using hargs)
          have ht : cc.argTypes = #[T, T'] := Array.toList_inj.1 (by simpa using hts)
          obtain ⟨x', v, w', h4, h5⟩ := eCopy_ok (P := P) (T' := T') (ty := o.type) H (hρ _ _ h1) (hρ _ _ h2) h3 hob
          refine ⟨EOKs.to ⟨x', v, w', ?_, h5⟩ n, by simp [newsIn]⟩
          have em : Array.map e #[x, y] = #[e x, e y] := by simp
          simp only [resolve, hb, invoke, Sem.run_bind, Sem.run_pure, Result.andThen_ok, ha, ht, em]
          exact h4
        · cases h
      · cases h
    · cases h

end
end Go.K
