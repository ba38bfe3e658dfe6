/- The library's sort, as a contract. -/
import Derived.Test.YtblejagpndbicaaK20
import Derived.Sort.OwnSortedInts
import Derived.Lib.RowBridge
set_option linter.unusedSimpArgs false
set_option linter.unusedVariables false
namespace Go.K
open Go.RowKit Go.Sort

theorem enter_plain {P : Program} {f : FuncId} {fn : Func} (hf : P.funcs[f]? = some fn) (hname : (fn.name == "runtime.NumGoroutine") = false) (hb : fn.body.isNone = false) (args : Array Value) (w : World) : (callFunc f args).run P w = .ok (.enter f args) w := by
  unfold callFunc
  have e : ∀ w, (program : Sem Program).run P w = .ok P w := fun _ => rfl
  simp only [Sem.run_bind, e, Result.andThen_ok, hf, hname, hb]
  rfl
def sortZ (l : List Int) : List Int := l.mergeSort fun x y => decide (x ≤ y)
theorem sortZ_length (l : List Int) : (sortZ l).length = l.length := by unfold sortZ; exact List.length_mergeSort l
def sortC (f : FuncId) (E : TypeId) : Ctr := ⟨f, [.v (.a (.one (.sl 0)))], [.row E (.I .i64)], [.li], [.tup []], [.row E (.I .i64)], [.li], fun (l : List Int) (K : List Int → Prop) => l.length ≤ 1099511627776 ∧ K (sortZ l)⟩
theorem map_refl : ∀ (zs : List Int), LR (VR0 [] fun _ => none) (zs.map (Value.int .i64)) (zs.map (Value.int .i64))
  | [] => LR.nil
  | z :: zs => LR.cons rfl (map_refl zs)
theorem sort_ok {P : Program} {f : FuncId} {E : TypeId} (hent : ∀ args w, (callFunc f args).run P w = .ok (.enter f args) w)
    (hsort : ∀ (blk off cap : Nat) (zs : List Int) (w : World), Holds (Value.int .i64) w blk off zs.toArray → blk < w.heap.size → zs.length < 4611686018427387904 →
      Calls P f #[.slice (some ⟨blk, off, none⟩) zs.length cap] w fun e w' => e = .returned (.tuple #[]) ∧ ∃ n os, w' = grow (putRow (Value.int .i64) (Sort.ahead w n) blk off (zs.mergeSort fun x y => decide (x ≤ y)).toArray) os)
    (hnone : ∀ (p : Option Addr) (cap : Nat) (w : World), Calls P f #[.slice p 0 cap] w fun e w' => e = .returned (.tuple #[]) ∧ w' = w) : CtrOK P (sortC f E) := by
  refine ⟨hent, ?_⟩
  intro lv cargs rin hin args M w K he hargs H hmap hlen hK
  -- the list
  obtain ⟨l, rfl⟩ : ∃ l, lv = [.li l] := by
    unfold emb at he
    simp only [sortC, eRs, eR, lstR] at he
    cases lv with
    | nil => cases he
    | cons v r =>
      cases v <;> simp only [Lk.mk] at he <;> first | (cases he; done) | skip
      rename_i l
      simp only [e2L, e2, e1, eA, e0] at he
      cases r with
      | nil => exact ⟨l, rfl⟩
      | cons a b => cases he
  have he' : emb [] (sortC f E).isv (sortC f E).isr [.li l] = some ([.slice (some ⟨0, 0, none⟩) l.length 0], [.row E (.I .i64 l)]) := rfl
  rw [he'] at he
  cases he
  obtain ⟨hsmall, hK'⟩ : l.length ≤ 1099511627776 ∧ K [.li (sortZ l)] := hK
  obtain ⟨v, vs, hvs, hv, hnil⟩ := hargs.cons_right
  obtain rfl := hnil.nil_right
  have hargs' : args = #[v] := Array.toList_inj.1 (by simpa using hvs)
  subst hargs'
  obtain ⟨hk, _, _⟩ := hv
  have hh := H.holds 0 _ _ rfl hk
  obtain ⟨g, cap, rfl, hrow⟩ := hh
  have out : ∀ l' : List Int, l' = sortZ l → emb [Res.row E (.I .i64 l)] (sortC f E).osv (sortC f E).osr [.li l'] = some ([.tuple #[]], [.row E (.I .i64 l')]) := fun l' _ => rfl
  rcases hrow with ⟨hc0, hl0⟩ | ⟨b, ds, rfl, hpos, hg, hle, hmax, hdsz, hds⟩
  · have hl : l = [] := List.eq_nil_of_length_eq_zero hl0
    subst hl
    refine (hnone g cap w).mono ?_
    rintro e w' ⟨rfl, rfl⟩
    exact ⟨[.li (sortZ [])], .tuple #[], _, hin, hK', out _ rfl, ⟨#[], rfl, LR.nil⟩, by simpa [sortZ] using H, fun _ _ => rfl⟩
  · have hll : (Lst.I .i64 l).length = l.length := rfl
    rw [hll] at hle hds ⊢
    have hds' : ds.toList.take l.length = l.map (Value.int .i64) := by
      have hcells : (Lst.I .i64 l).cells = l.map (Value.int .i64) := rfl
      rw [hcells] at hds
      have key : ∀ (xs : List Value) (zs : List Int), LR (VR0 [] fun _ => none) xs (zs.map (Value.int .i64)) → xs = zs.map (Value.int .i64) := by
        intro xs zs
        induction zs generalizing xs with
        | nil => intro h; obtain rfl := h.nil_right; rfl
        | cons z zs ih =>
          intro h
          obtain ⟨u, us, rfl, hu, hus⟩ := h.cons_right
          have : u = Value.int .i64 z := hu
          rw [this, ih us hus]; rfl
      exact key _ _ hds
    have hholds := holds_of_blockI (ss := l) hg hds'
    have hb : b < w.heap.size := (Array.getElem?_eq_some_iff.1 hg).1
    have hmx : maxLen = 9223372036854775807 := by decide
    refine (hsort b 0 cap l w hholds hb (by omega)).mono ?_
    rintro e w' ⟨rfl, n, os, rfl⟩
    have hlen2 : (sortZ l).length = l.length := sortZ_length l
    have hgb := grownBy_sortedI (w := w) (g := b) (n := n) (os := os) (sortZ l).toArray
    obtain ⟨f1, f2, f3, f4, f5⟩ := hgb
    have hown : (Res.row E (.I .i64 l)).own (.slice (some ⟨b, 0, none⟩) l.length cap) = some b := by simp [Res.own]; omega
    have G := H.mod1 (k := 0) (r' := .row E (.I .i64 (sortZ l))) rfl hk f1 f2 f3 f4 (fun k hk1 hne => f5 k hk1 fun e => hne (by rw [hll, hown, ← e])) (fun mp => by
      refine ⟨some ⟨b, 0, none⟩, cap, by show _ = Value.slice _ (sortZ l).length _; rw [hlen2]; rfl, .inr ⟨b, _, rfl, hpos, heap_sortedI _ hg, by show (sortZ l).length ≤ cap; omega, hmax, by simp [putCells, hdsz], ?_⟩⟩
      show LR _ ((putCells (Value.int .i64) 0 (sortZ l).toArray ds).toList.take (sortZ l).length) ((sortZ l).map (Value.int .i64))
      rw [take_putCellsI ds (sortZ l) (by omega)]
      exact map_refl _) (fun k hk1 => hk1) (fun m hm => by cases hm; show _ = some (Lst.I .i64 (sortZ l)).length; show some l.length = some (sortZ l).length; rw [hlen2]) rfl
    exact ⟨[.li (sortZ l)], .tuple #[], _, hin, hK', out _ rfl, ⟨#[], rfl, LR.nil⟩, G.1, fun _ _ => rfl⟩

/-- consecutive equal ones as one -/
def compZ (l : List Int) : List Int := Lib.compact l
theorem compZ_length (l : List Int) : (compZ l).length ≤ l.length := Lib.compact_length_le l
def compC (f : FuncId) (E : TypeId) : Ctr := ⟨f, [.v (.a (.one (.sl 0)))], [.row E (.I .i64)], [.li], [.v (.a (.one (.sl 1)))], [.dead, .row E (.I .i64)], [.li], fun (l : List Int) (K : List Int → Prop) => l.length ≤ 1099511627776 ∧ K (compZ l)⟩
theorem comp_ok {P : Program} {f : FuncId} {E : TypeId} (hent : ∀ args w, (callFunc f args).run P w = .ok (.enter f args) w)
    (hcomp : ∀ (blk off cap : Nat) (zs : List Int) (w : World), Holds (Value.int .i64) w blk off zs.toArray → zs.length ≤ 9223372036854775807 → zs.length ≤ cap →
      Calls P f #[.slice (some ⟨blk, off, none⟩) zs.length cap] w fun e w' => e = .returned (.slice (some ⟨blk, off, none⟩) (Lib.compact zs).length cap) ∧ ∃ q, w' = putRow (Value.int .i64) (Sort.ahead w q) blk off (Lib.compact zs ++ List.replicate (zs.length - (Lib.compact zs).length) 0).toArray)
    (hnone : ∀ (p : Option Addr) (cap : Nat) (w : World), Calls P f #[.slice p 0 cap] w fun e w' => e = .returned (.slice p 0 cap) ∧ w' = w) : CtrOK P (compC f E) := by
  refine ⟨hent, ?_⟩
  intro lv cargs rin hin args M w K he hargs H hmap hlen hK
  obtain ⟨l, rfl⟩ : ∃ l, lv = [.li l] := by
    unfold emb at he
    simp only [compC, eRs, eR, lstR] at he
    cases lv with
    | nil => cases he
    | cons v r =>
      cases v <;> simp only [Lk.mk] at he <;> first | (cases he; done) | skip
      rename_i l
      simp only [e2L, e2, e1, eA, e0] at he
      cases r with
      | nil => exact ⟨l, rfl⟩
      | cons a b => cases he
  have he' : emb [] (compC f E).isv (compC f E).isr [.li l] = some ([.slice (some ⟨0, 0, none⟩) l.length 0], [.row E (.I .i64 l)]) := rfl
  rw [he'] at he
  cases he
  obtain ⟨hsmall, hK'⟩ : l.length ≤ 1099511627776 ∧ K [.li (compZ l)] := hK
  obtain ⟨v, vs, hvs, hv, hnil⟩ := hargs.cons_right
  obtain rfl := hnil.nil_right
  have hargs' : args = #[v] := Array.toList_inj.1 (by simpa using hvs)
  subst hargs'
  obtain ⟨hk, _, _⟩ := hv
  have hh := H.holds 0 _ _ rfl hk
  obtain ⟨g, cap, rfl, hrow⟩ := hh
  have h1 : hin 1 = none := H.fresh 1 (Nat.le_refl _)
  have out : emb [Res.row E (.I .i64 l)] (compC f E).osv (compC f E).osr [.li (compZ l)] = some ([.slice (some ⟨1, 0, none⟩) (compZ l).length 0], [.dead, .row E (.I .i64 (compZ l))]) := rfl
  have hll : (Lst.I .i64 l).length = l.length := rfl
  have hll2 : (Lst.I .i64 (compZ l)).length = (compZ l).length := rfl
  have hcl := compZ_length l
  rcases hrow with ⟨hc0, hl0⟩ | ⟨b, ds, rfl, hpos, hg, hle, hmax, hdsz, hds⟩
  · have hl : l = [] := List.eq_nil_of_length_eq_zero hl0
    subst hl
    refine (hnone g cap w).mono ?_
    rintro e w' ⟨rfl, rfl⟩
    have G := H.put1 (w' := w') (r := .row E (.I .i64 [])) (h := .slice g 0 cap) h1 (some 0) (by intro k e; cases e; exact ⟨by decide, Nat.zero_lt_one⟩) rfl rfl rfl (Nat.le_refl _) (fun _ _ _ => rfl)
      (fun _ => ⟨g, cap, rfl, .inl ⟨hc0, rfl⟩⟩)
      (fun b hb => by
        subst hc0
        cases g <;> simp [Res.own] at hb) (fun b hb => by cases hb)
    refine ⟨[.li (compZ [])], _, _, upd hin 1 (.slice g 0 cap), hK', out, ⟨upd_same _ _ _, ⟨g, cap, rfl, by omega⟩, fun r m hr hm => by cases hr; cases hm; rfl⟩, G.1, fun i hi => upd_ne _ _ _ (by have : i < 1 := hi; omega)⟩
  · rw [hll] at hle hds ⊢
    have hds' : ds.toList.take l.length = l.map (Value.int .i64) := by
      have hcells : (Lst.I .i64 l).cells = l.map (Value.int .i64) := rfl
      rw [hcells] at hds
      have key : ∀ (xs : List Value) (zs : List Int), LR (VR0 [] fun _ => none) xs (zs.map (Value.int .i64)) → xs = zs.map (Value.int .i64) := by
        intro xs zs
        induction zs generalizing xs with
        | nil => intro h; obtain rfl := h.nil_right; rfl
        | cons z zs ih =>
          intro h
          obtain ⟨u, us, rfl, hu, hus⟩ := h.cons_right
          have : u = Value.int .i64 z := hu
          rw [this, ih us hus]; rfl
      exact key _ _ hds
    have hholds := holds_of_blockI (ss := l) hg hds'
    refine (hcomp b 0 cap l w hholds (by omega) hle).mono ?_
    rintro e w' ⟨rfl, q, hw⟩
    have hcompl : Lib.compact l = compZ l := rfl
    rw [hcompl] at hw ⊢
    generalize hts : compZ l ++ List.replicate (l.length - (compZ l).length) 0 = ts at hw
    have htl : ts.length = l.length := by rw [← hts]; simp; omega
    have hw2 : w' = grow (putRow (Value.int .i64) (Sort.ahead w q) b 0 ts.toArray) #[] := by rw [grow_empty]; exact hw
    subst hw2
    obtain ⟨f1, f2, f3, f4, f5⟩ := grownBy_sortedI (w := w) (g := b) (n := q) (os := #[]) ts.toArray
    have hown : (Res.row E (.I .i64 l)).own (.slice (some ⟨b, 0, none⟩) l.length cap) = some b := by simp [Res.own]; omega
    have G := H.put1 (w' := grow (putRow (Value.int .i64) (Sort.ahead w q) b 0 ts.toArray) #[]) (r := .row E (.I .i64 (compZ l))) (h := .slice (some ⟨b, 0, none⟩) (compZ l).length cap) h1 (some 0) (by intro k e; cases e; exact ⟨by decide, Nat.zero_lt_one⟩) f1 f2 f3 f4
      (fun k hk1 hne => f5 k hk1 fun e => hne 0 _ _ rfl rfl hk (by rw [hll, hown, ← e]))
      (fun _ => by
        refine ⟨some ⟨b, 0, none⟩, cap, rfl, .inr ⟨b, _, rfl, hpos, heap_sortedI _ hg, by rw [hll2]; omega, hmax, by simp [putCells, hdsz], ?_⟩⟩
        rw [hll2]
        have h2 := take_putCellsI ds ts (by omega)
        have h3 : (putCells (Value.int .i64) 0 ts.toArray ds).toList.take (compZ l).length = (compZ l).map (Value.int .i64) := by
          have h4 : ((putCells (Value.int .i64) 0 ts.toArray ds).toList.take ts.length).take (compZ l).length = (ts.map (Value.int .i64)).take (compZ l).length := by rw [h2]
          rw [List.take_take, Nat.min_eq_left (by omega)] at h4
          rw [h4, ← hts, List.map_append, List.take_left' (by rw [List.length_map])]
        rw [h3]
        exact map_refl _)
      (fun k hk1 => .inr ⟨0, _, _, rfl, rfl, hk, by
        rw [hll, hown]
        simp [Res.own] at hk1
        exact congrArg some hk1.2⟩) (fun b hb => by cases hb)
    exact ⟨[.li (compZ l)], _, _, upd hin 1 (.slice (some ⟨b, 0, none⟩) (compZ l).length cap), hK', out, ⟨upd_same _ _ _, ⟨_, cap, rfl, by omega⟩, fun r m hr hm => by cases hr; cases hm; rfl⟩, G.1, fun i hi => upd_ne _ _ _ (by have : i < 1 := hi; omega)⟩
end Go.K
