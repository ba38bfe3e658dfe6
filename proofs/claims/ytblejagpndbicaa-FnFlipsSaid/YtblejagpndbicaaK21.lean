/- From a statement's words to a walk's: arguments as a statement reads them, the end as a statement wants it. -/
import Derived.Test.YtblejagpndbicaaK20
import Derived.ProofKit
import Derived.WideKeyArgs
set_option linter.unusedSimpArgs false
set_option linter.unusedVariables false
namespace Go.K
open Go.RowKit Go.ChangeShapes Go.WideShapes Go.ChangeMaps

/-- a slice that may be read, as it comes -/
structure RoIn (w : World) (v : Value) (l : Lst) : Prop where
  holds : (Res.ro l).holds [] (fun _ => none) w v
  lt : ∀ b, (Res.ro l).reads v = some b → b < w.heap.size

theorem RoIn.nil {w : World} {l : Lst} (h : l.length = 0) : RoIn w (.slice none 0 0) l :=
  ⟨⟨none, 0, by rw [h], by omega, .inl h⟩, fun b hb => by simp [Res.reads, h] at hb⟩

theorem RoIn.mk' {w : World} {a : Addr} {len cap : Nat} {l : Lst} (h1 : l.length = len) (h2 : len ≤ cap) (h : ∀ j u, l.cells[j]? = some u → ∃ v, w.cell? (a.add j) = some v ∧ VR0 [] (fun _ => none) v u) : RoIn w (.slice (some a) len cap) l := by
  refine ⟨⟨some a, cap, by rw [h1], by omega, .inr ⟨a, rfl, h⟩⟩, fun b hb => ?_⟩
  simp only [Res.reads] at hb
  split at hb
  · cases hb
  · rename_i hl
    simp only [baseOf, Option.map_some, Option.some.injEq] at hb
    subst hb
    have h0 : l.cells[0]? = some (l.get 0) := l.get_cells 0 (by omega)
    obtain ⟨v, hv, _⟩ := h 0 _ h0
    unfold World.cell? at hv
    split at hv
    · rename_i h3
      exact (Array.getElem?_eq_some_iff.1 h3).1
    · cases hv

theorem list_of {β : Type} {Q : Nat → β → Prop} : ∀ {n : Nat}, (∀ i, i < n → ∃ b, Q i b) → ∃ l : List β, l.length = n ∧ ∀ i b, l[i]? = some b → Q i b
  | 0, _ => ⟨[], rfl, fun i b h => by simp at h⟩
  | n + 1, h => by
    obtain ⟨l, h1, h2⟩ := list_of (n := n) fun i hi => h i (by omega)
    obtain ⟨b, hb⟩ := h n (by omega)
    refine ⟨l ++ [b], by simp [h1], fun i c hc => ?_⟩
    rw [List.getElem?_append] at hc
    split at hc
    · exact h2 i c hc
    · rename_i hi
      have : i - l.length = 0 := by
        have := (List.getElem?_eq_some_iff.1 hc).1
        simp at this; omega
      rw [this] at hc
      simp at hc
      subst hc
      have : i = n := by omega
      rw [this]; exact hb

section
variable {H : Type} {enc : TypeId × Value → H} {P : Program} {w : World} {base : Nat} {spare : Nat → Bool} {held : Bool}

theorem trod_flt {t : TypeId} {k : FloatKind} {fuel : Nat} {cs : List Value} {x : DataW H × List MemPlace} (ht : P.underlying t = some (.float k)) (h : DataW.trod enc P w base spare held fuel t cs = some x) :
    ∃ b, cs = [.float k b] ∧ (Lit.float k b).wf = true := by
  cases fuel with
  | zero => simp [DataW.trod] at h
  | succ n =>
    unfold DataW.trod at h
    rw [ht] at h
    split at h <;> first | (cases h; done) | skip
    all_goals rename_i e; cases e
    split at h
    · rename_i hw
      obtain ⟨rfl, hw⟩ := hw
      exact ⟨_, rfl, hw⟩
    · cases h

/-- a slice of cells of one kind -/
theorem trod_row {t e : TypeId} {fuel : Nat} {cs : List Value} {x : DataW H × List MemPlace} {β : Type} {mk : β → Value} {Q : β → Prop} (ht : P.underlying t = some (.slice e)) (hc : P.cellsOf e = 1)
    (he : ∀ {n : Nat} {cs : List Value} {y : DataW H × List MemPlace}, DataW.trod enc P w base spare held n e cs = some y → ∃ b, cs = [mk b] ∧ Q b)
    (h : DataW.trod enc P w base spare held fuel t cs = some x) :
    (cs = [.slice none 0 0]) ∨ ∃ (a : Addr) (len cap : Nat) (l : List β), cs = [.slice (some a) len cap] ∧ len ≤ cap ∧ cap ≤ maxLen ∧ l.length = len ∧ ∀ i b, l[i]? = some b → w.cell? (a.add i) = some (mk b) ∧ Q b := by
  rcases DataW.trod_slice ht h with ⟨h0, _⟩ | ⟨a, len, cap, elems, rest, n, _, rfl, _, hb, hl, hm, hlen, hel, hsp, hns⟩
  · exact .inl h0
  right
  obtain ⟨l, h1, h2⟩ := list_of (n := len) (Q := fun i b => w.cell? (a.add i) = some (mk b) ∧ Q b) (by
    intro i hi
    have h1 := hel i hi
    have hlt : i < elems.length := by omega
    rw [List.getElem?_eq_getElem hlt, hc, Nat.mul_one, Option.bind_eq_some_iff] at h1
    obtain ⟨cs', h2, h3⟩ := h1
    obtain ⟨b, rfl, hq⟩ := he h3
    exact ⟨b, cell_of_cells?_one h2, hq⟩)
  exact ⟨a, len, cap, l, rfl, hl, hm, h1, h2⟩

theorem trod_floats {t e : TypeId} {k : FloatKind} {fuel : Nat} {cs : List Value} {x : DataW H × List MemPlace} (ht : P.underlying t = some (.slice e)) (he : P.underlying e = some (.float k)) (hc : P.cellsOf e = 1)
    (h : DataW.trod enc P w base spare held fuel t cs = some x) : ∃ (v : Value) (l : List Nat), cs = [v] ∧ RoIn w v (.F k (l.map (cF k))) ∧ (∀ b ∈ l, (Lit.float k b).wf = true) ∧ l.length ≤ maxLen ∧ v = .slice (match v with | .slice a _ _ => a | _ => none) l.length (match v with | .slice _ _ c => c | _ => 0) := by
  rcases trod_row (mk := .float k) (Q := fun b => (Lit.float k b).wf = true) ht hc (fun h => trod_flt he h) h with rfl | ⟨a, len, cap, l, rfl, hl, hm, h1, h2⟩
  · exact ⟨_, [], rfl, RoIn.nil rfl, by simp, by simp, rfl⟩
  · refine ⟨_, l, rfl, RoIn.mk' (by simp [Lst.length, h1]) hl ?_, ?_, by omega, by simp [h1]⟩
    · intro j u hu
      simp only [Lst.cells, List.map_map, List.getElem?_map] at hu
      obtain ⟨b, hb, rfl⟩ := Option.map_eq_some_iff.1 hu
      exact ⟨_, (h2 j b hb).1, b, rfl, rfl⟩
    · intro b hb
      obtain ⟨i, hi⟩ := List.getElem?_of_mem hb
      exact (h2 i b hi).2

theorem trod_intsR {t e : TypeId} {k : IntKind} {fuel : Nat} {cs : List Value} {x : DataW H × List MemPlace} (ht : P.underlying t = some (.slice e)) (he : P.underlying e = some (.int k)) (hc : P.cellsOf e = 1)
    (h : DataW.trod enc P w base spare held fuel t cs = some x) : ∃ (v : Value) (l : List Int), cs = [v] ∧ RoIn w v (.I k l) ∧ (∀ b ∈ l, (Lit.int k b).wf = true) ∧ l.length ≤ maxLen ∧ v = .slice (match v with | .slice a _ _ => a | _ => none) l.length (match v with | .slice _ _ c => c | _ => 0) := by
  rcases trod_row (mk := .int k) (Q := fun b => (Lit.int k b).wf = true) ht hc (fun h => by
      obtain ⟨n, h1, _, h2⟩ := DataW.trod_int he h
      exact ⟨n, h1, h2⟩) h with rfl | ⟨a, len, cap, l, rfl, hl, hm, h1, h2⟩
  · exact ⟨_, [], rfl, RoIn.nil rfl, by simp, by simp, rfl⟩
  · refine ⟨_, l, rfl, RoIn.mk' (by simp [Lst.length, h1]) hl ?_, ?_, by omega, by simp [h1]⟩
    · intro j u hu
      simp only [Lst.cells, List.getElem?_map] at hu
      obtain ⟨b, hb, rfl⟩ := Option.map_eq_some_iff.1 hu
      exact ⟨_, (h2 j b hb).1, rfl⟩
    · intro b hb
      obtain ⟨i, hi⟩ := List.getElem?_of_mem hb
      exact (h2 i b hi).2
end

/-- slots of slices that may be read -/
inductive RoAll (w : World) : List Value → List Lst → Prop where
  | nil : RoAll w [] []
  | cons {v : Value} {l : Lst} {vs : List Value} {ls : List Lst} : RoIn w v l → RoAll w vs ls → RoAll w (v :: vs) (l :: ls)

theorem RoAll.length {w : World} {vs : List Value} {ls : List Lst} (h : RoAll w vs ls) : vs.length = ls.length := by
  induction h with
  | nil => rfl
  | cons _ _ ih => simp [ih]
theorem RoAll.get {w : World} {vs : List Value} {ls : List Lst} (h : RoAll w vs ls) : ∀ {i : Nat} {v : Value} {l : Lst}, vs[i]? = some v → ls[i]? = some l → RoIn w v l := by
  induction h with
  | nil => intro i v l h1; simp at h1
  | cons hr _ ih =>
    intro i v l h1 h2
    cases i with
    | zero => simp at h1 h2; subst h1; subst h2; exact hr
    | succ i => simp at h1 h2; exact ih h1 h2

theorem RoAll.heap {w : World} {vs : List Value} {ls : List Lst} (h : RoAll w vs ls) : Heap w [] (ls.map .ro) (fun i => vs[i]?) w where
  holds := by
    intro i r v hr hv
    simp only [List.getElem?_map] at hr
    obtain ⟨l, hl, rfl⟩ := Option.map_eq_some_iff.1 hr
    exact (h.get hv hl).holds
  sep := by
    intro i j r q v g b hr _ _ _ ho _
    simp only [List.getElem?_map] at hr
    obtain ⟨l, hl, rfl⟩ := Option.map_eq_some_iff.1 hr
    simp [Res.own] at ho
  new := by
    intro i r v b hr _ ho
    simp only [List.getElem?_map] at hr
    obtain ⟨l, hl, rfl⟩ := Option.map_eq_some_iff.1 hr
    simp [Res.own] at ho
  old := by
    intro i r v b hr hv hb
    simp only [List.getElem?_map] at hr
    obtain ⟨l, hl, rfl⟩ := Option.map_eq_some_iff.1 hr
    exact ⟨(h.get hv hl).lt b hb, by simp⟩
  fresh := by
    intro i hi
    simp only [List.length_map, ← h.length] at hi
    exact List.getElem?_eq_none hi
  free := by intro b hb; cases hb
  frame := Fr.refl _ _

theorem RoAll.vr {w : World} {vs : List Value} {ls : List Lst} (h : RoAll w vs ls) (i : Nat) {v : Value} {l : Lst} (hv : vs[i]? = some v) (hl : ls[i]? = some l) : VR0 (ls.map .ro) (fun i => vs[i]?) v (.slice (some ⟨i, 0, none⟩) l.length 0) := by
  obtain ⟨g, cap, h1, h2, _⟩ := (h.get hv hl).holds
  refine ⟨hv, ⟨g, cap, h1, h2⟩, fun r m hr hm => ?_⟩
  simp only [List.getElem?_map, hl, Option.map_some, Option.some.injEq] at hr
  subst hr
  simpa [Res.len] using hm

/-- a law that answers true is run -/
theorem ro_run {P : Program} {k : Ctr} (C : CtrOK P k) {vs : List Value} {ls : List Lst} {W : World} {lv : List LV} {cargs : List Value} {args : Array Value} (hro : RoAll W vs ls)
    (hemb : emb [] k.isv k.isr lv = some (cargs, ls.map .ro)) (hn : k.isr.length = ls.length)
    (hargs : LR (VR2 (ls.map .ro) (fun i => vs[i]?)) args.toList cargs)
    (hend : ∀ c rout, emb (ls.map .ro) k.osv k.osr [.bool true] = some ([c], rout) → c = .bool true)
    (hW : appK k.otys k.itys k.W lv (lam k.otys fun lvo => lvo = [.bool true])) :
    Calls P k.f args W (fun e W' => e = .returned (.bool true) ∧ Fr [] W W') := by
  have hnin : k.nin = ls.length := hn
  refine (C.run hemb hargs hro.heap ?_ (by simp [hnin]) hW).mono ?_
  · intro i hi
    rw [hnin, ← hro.length] at hi
    exact ⟨_, List.getElem?_eq_getElem hi⟩
  · intro e w' h
    cases e <;> first | exact h.elim | skip
    obtain ⟨lvo, c, rout, hout, rfl, h2, h3, h4, _⟩ := h
    obtain rfl := hend c rout h2
    exact ⟨by rw [show _ = Value.bool true from h3], h4.frame⟩

theorem Fr.below {W W' : World} (h : Fr [] W W') : Below W.heap.size W W' := ⟨h.os, h.tape, h.output, h.size, fun k hk => h.block k hk (by simp)⟩

section
variable {H : Type} {enc : TypeId × Value → H} {P : Program}
theorem trodAll_stays (hl : laidOutB P = true) {W W' : World} {sp : Nat → Bool} (hb : Below W.heap.size W W') : ∀ {ts : List TypeId} {vs : List Value} {ds : List (DataW H)} {ps : List MemPlace},
    (∀ t ∈ ts, P.readableRec t = true ∧ t < P.types.size) → DataW.TrodAll enc P W 0 (fun _ => true) true ts vs ds ps → (∀ p ∈ ps, p.block < W.heap.size) → (∀ p ∈ ps, sp p.block = true) → DataW.TrodAll enc P W' 0 sp true ts vs ds ps
  | [], [], [], ps, _, h, _, _ => h
  | t :: ts, v :: vs, d :: ds, ps, ht, h, hp, hs => by
    obtain ⟨p, q, h1, h2, rfl⟩ := h
    refine ⟨p, q, ?_, trodAll_stays hl hb (fun t h => ht t (by simp [h])) h2 (fun x hx => hp x (by simp [hx])) (fun x hx => hs x (by simp [hx])), rfl⟩
    exact WideElems.Trod_stays hl (ht t (by simp)).1 (ht t (by simp)).2 h1 (fun x hx => hb.same (hp x (by simp [hx]))) (fun x hx => hs x (by simp [hx]))
  | [], _ :: _, _, _, _, h, _, _ => h.elim
  | [], [], _ :: _, _, _, h, _, _ => h.elim
  | _ :: _, [], _, _, _, h, _, _ => h.elim
  | _ :: _, _ :: _, [], _, _, h, _, _ => h.elim

theorem Below.kept {W W' : World} (h : Below W.heap.size W W') (m : MemPlace → Prop) : W.keptBut W' m := by
  refine ⟨h.os, h.output, fun i hi => ?_⟩
  have e := h.block i hi
  rw [e]
  split
  · rename_i h1 h2
    rw [h1] at h2; cases h2
    exact ⟨rfl, rfl, rfl, fun _ _ => rfl⟩
  · rename_i h1 h2
    rw [h1] at h2; cases h2
    exact .inr ⟨rfl, rfl⟩
  · rfl

/-- a law that answers true and leaves its arguments -/
theorem law_post {f : Func} {s : ChangeSpec} {W W' : World} {args : Array Value} {ds gs : List (DataW H)} {before : List MemPlace} {tb : TypeId} (hl : laidOutB P = true)
    (hr : ∀ t ∈ f.params.toList, P.readableRec t = true ∧ t < P.types.size) (hW : DataW.Whole enc P f.params.toList s.vars false W args.toList ds gs before) (hv : s.vars = [])
    (hres : f.resultTypes = #[tb]) (htb : P.underlying tb = some .bool)
    (h1 : (s.fn H (ds ++ gs)).results = [.lit (.bool true)]) (h2 : (s.fn H (ds ++ gs)).args = ds) (h3 : (s.fn H (ds ++ gs)).vars = []) (hfr : Fr [] W W') :
    s.post enc P f false true false false W args (.bool true) W' := by
  have hlt := hW.lt
  obtain ⟨p, q, hA, hV, rfl, hz, hd⟩ := id hW
  have hq : q = [] ∧ gs = [] := by
    rw [hv] at hV
    cases gs with
    | nil => exact ⟨hV, rfl⟩
    | cons => exact hV.elim
  obtain ⟨rfl, rfl⟩ := hq
  refine ⟨ds, [], p ++ [], [], p, [], hW, ?_, ?_, ?_, Below.kept hfr.below _, fun h => by cases h⟩
  · rw [h1, hres]
    exact trodAll_mk1 ⟨1, by simp [DataW.trod, Value.cells, htb]⟩
  · rw [h2]
    exact trodAll_stays hl hfr.below hr hA (fun x hx => hlt x (by simp [hx])) (fun x hx => by simpa using hlt x (by simp [hx]))
  · rw [h3, hv]; rfl
end
end Go.K
