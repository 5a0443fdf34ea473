/- The operations that make memory, and write it. -/
import Derived.Test.YtnglcmfgkcdgcaaGreatAmA6
import Derived.Laws.Tables
import Derived.Laws.MakeOwn
namespace Go.AM
open Go
set_option linter.unusedVariables false
set_option linter.unusedSimpArgs false

variable {w0 w w' : World} {Wr : Nat → Prop} {s s' : St} {gh gh' gh0 : Gh} {P : Program} {call : Call}
variable {N : Nat} {a : Act} {Q : Exit → Act → World → Prop} {o : Oper}

theorem zeroV {T : TypeId} {ti : TypeInfo} {z : Value} (hi : P.info? T = some ti) (hz : ti.zero = some z) : (zeroValue T).run P w = .ok z w := by
  simp [zeroValue, typeInfo, hi, hz]

/-- Constants as an object's cells. -/
theorem cells_const {vs : List Value} (h1 : ∀ v ∈ vs, v.oneCell' = true) : ∀ (c : Nat) d, (vs.map oneV)[c]? = some d → cellC d = true ∧ ∃ u, vs[c]? = some u ∧ u.oneCell' = true ∧ CRep w gh none d u := by
  intro c d hd
  simp only [List.getElem?_map, Option.map_eq_some_iff] at hd
  obtain ⟨u, hu, rfl⟩ := hd
  have hu1 := h1 u (List.mem_of_getElem? hu)
  refine ⟨?_, u, hu, hu1, rep_oneV u⟩
  rcases oneV_cases u with ⟨e, _⟩ | e
  · rw [e]; rfl
  · rw [e]; cases u <;> simp_all [cellC, pureC, Value.oneCell']

theorem newCells_one {row : List DV} {cur : Array Value} (hl : row.length = cur.size)
    (h : ∀ (c : Nat) d, row[c]? = some d → cellC d = true ∧ ∃ u, cur.toList[c]? = some u ∧ u.oneCell' = true ∧ CRep w gh none d u) : NewCells w gh row.length [row] cur := by
  refine ⟨by simp [hl], fun i r hr => ?_⟩
  cases i with
  | zero =>
    simp only [List.getElem?_cons_zero, Option.some.injEq] at hr
    subst hr
    refine ⟨rfl, fun c d hd => ?_⟩
    obtain ⟨k0, u, k1, k2⟩ := h c d hd
    exact ⟨k0, u, by simpa using k1, k2⟩
  | succ i => simp at hr

theorem ok_alloc {d : Nat} {T : TypeId} {zero : List Value} {g : Bool} {δ : De} {ti : TypeInfo} {z : Value} (h : AI w0 gh0 Wr N s gh a w) (hdst : o.dst = some d) (hd : d < N)
    (ho : o.op = .alloc T) (hi : P.info? T = some ti) (hz : ti.zero = some z) (hzc : z.cells.toList = zero) (h1 : ∀ v ∈ zero, v.oneCell' = true) (hs : stepD P call s (.alloc d T zero g) = some δ) :
    o.wp P a w (fun a' w' => Mod w0 gh0 Wr N (s.ap (some d) δ) a' w') Q := by
  have hr : (execOp a.eval o).run P w = .ok (.value (.pointer (some ⟨w.heap.size, 0, none⟩))) (w.alloc (.cells z.cells T)) := by
    simp [execOp, ho, Instr.alloc, zeroV hi hz, newVar, newRow]
  have hc : NewCells w gh (zero.map oneV).length [zero.map oneV] z.cells := newCells_one (by simp [← hzc]) (fun c d hd => by rw [hzc]; exact cells_const h1 c d hd)
  cases g with
  | true =>
    simp only [stepD, if_true, Option.some.injEq] at hs
    subst hs
    refine wp_value hr ⟨{ gh with mu := upd gh.mu s.gl.nx w.heap.size, sz := upd gh.sz s.gl.nx (zero.map oneV).length, hb := hbNewGl gh.hb s.gl.nx d, nx := gh.nx + 1 }, ?_, by simpa using h.size, by simpa using h.defers⟩
    rw [hdst, tm_put _ _ _ (by rw [h.size]; exact hd)]
    exact h.inv.newGl d hc
  | false =>
    simp only [stepD, Bool.false_eq_true, if_false, Option.some.injEq] at hs
    subst hs
    refine wp_value hr ⟨{ gh with lmu := upd gh.lmu d w.heap.size, lsz := upd gh.lsz d (zero.map oneV).length, hb := hbNewLoc gh.hb d }, ?_, by simpa using h.size, by simpa using h.defers⟩
    rw [hdst, tm_put _ _ _ (by rw [h.size]; exact hd)]
    exact h.inv.newLoc d hc (.inl ⟨rfl, rfl⟩)

/-- A value's cells, one by one. -/
theorem cellsD_rep {d : DV} {v : Value} (h : SRep w gh none d v) (hall : ∀ x ∈ cellsD d, cellC x = true) : (cellsD d).length = v.cells.size ∧
    ∀ (c : Nat) x, (cellsD d)[c]? = some x → ∃ u, v.cells.toList[c]? = some u ∧ u.oneCell' = true ∧ CRep w gh none x u := by
  have one : (∀ cs, d ≠ .agg cs) → cellsD d = [d] := by cases d <;> simp [cellsD]
  by_cases hagg : ∃ cs, d = .agg cs
  · obtain ⟨cs, rfl⟩ := hagg
    obtain ⟨vs, rfl, h1, h2⟩ := h
    refine ⟨h1.symm, fun c x hx => ?_⟩
    simp only [cellsD] at hx hall
    have hc : c < vs.size := by rw [h1]; exact (List.getElem?_eq_some_iff.1 hx).1
    have hu : vs[c]? = some vs[c] := by simp [hc]
    have hxc := hall x (List.mem_of_getElem? hx)
    exact ⟨vs[c], by simp [Value.cells, hc], ((h2 c x _ hx hu).2.cell hxc).2.2, (h2 c x _ hx hu).2⟩
  · have e := one fun cs hc => hagg ⟨cs, hc⟩
    rw [e] at hall ⊢
    have hdc := hall d (by simp)
    have hC : CRep w gh none d v := by
      cases d with
      | agg cs => exact absurd ⟨cs, rfl⟩ hagg
      | tup cs => simp [cellC, pureC] at hdc
      | clo f caps =>
        obtain ⟨vs, rfl, h1, h2⟩ := h
        refine Rep.clo h1 (fun j c u hc hu => ?_)
        have hcu := h2 j c u hc hu
        simp only [cellC, pureC, List.all_eq_true] at hdc
        have hcc := hdc c (List.mem_of_getElem? hc)
        cases c with
        | lst o rows =>
          cases o with
          | false => exact hcu
          | true =>
            rcases hcu.2 with ⟨rfl, A, rfl⟩ | ⟨g, _, _, _, _, hx, _⟩
            · exact .nil A
            · simp at hx
        | val x => exact hcu
        | pim cs => exact hcu
        | _ => simp at hcc
      | _ => exact h
    obtain ⟨_, _, h1⟩ := hC.cell hdc
    have hv : v.cells = #[v] := by cases v <;> simp_all [Value.cells, Value.oneCell']
    refine ⟨by simp [hv], fun c x hx => ?_⟩
    cases c with
    | zero =>
      simp only [List.getElem?_cons_zero, Option.some.injEq] at hx
      subst hx
      exact ⟨v, by simp [hv], h1, hC⟩
    | succ c => simp at hx

theorem pureC_cellC {d : DV} (h : pureC d = true) : cellC d = true := by cases d <;> simp_all [cellC, pureC]

/-- Plain data of one cell, whose own objects it can't name. -/
theorem CRep.pure {d : DV} {v : Value} {ℓ : Option Own} (hp : pureC d = true) (h : CRep w gh ℓ d v) : Rep w gh.S (AM.wk1 d) v := by
  cases d with
  | lst o rows => cases o with
    | true => exact h.1
    | false => exact h
  | _ => first | exact h | simp [pureC] at hp

theorem newCell {cur : Array Value} {T : TypeId} (j : Nat) : (w.alloc (.cells cur T)).cell? ⟨w.heap.size, j, none⟩ = cur[j]? :=
  cell_of_row _ _ _ cur T (0, 0) (heap_alloc_new w _)

/-- A new block whose first cells can't change any more. -/
theorem Inv.fresh (h : Inv w0 gh0 Wr s gh (tm a) w) (cur : Array Value) (T : TypeId) (n : Nat) :
    Inv w0 gh0 Wr s { gh with S := upd gh.S w.heap.size n } (tm a) (w.alloc (.cells cur T)) ∧ Keeps w gh.S (w.alloc (.cells cur T)) (upd gh.S w.heap.size n) ∧
      ∀ k, ¬ Uses s gh k w.heap.size := by
  have hsz : (w.alloc (.cells cur T)).heap.size = w.heap.size + 1 := by simp
  refine ⟨h.world (Ext.alloc w _) _ (fun b hb => upd_ne _ _ (by omega)) (fun b hb => ?_), ?_, fun k hu => ?_⟩
  · rw [hsz] at hb
    rw [upd_ne _ _ (by omega)]
    exact h.marks b (by omega)
  · refine h.keeps fun b hb _ => ⟨(Ext.alloc w _).block b hb, by rw [upd_ne _ _ (by omega)]; exact Nat.le_refl _⟩
  · have := (h.uses k _ hu).2; omega

theorem ok_box {d mode : Nat} {T : TypeId} {x : Opd} {ox : Operand} {δ : De} (h : AI w0 gh0 Wr N s gh a w) (hdst : o.dst = some d) (hd : d < N)
    (ho : o.op = .box T ox) (hx : OpdM ox x) (hs : stepD P call s (.box d T x mode) = some δ) :
    o.wp P a w (fun a' w' => Mod w0 gh0 Wr N (s.ap (some d) δ) a' w') Q := by
  have hv := h.getW hx
  have hr : (execOp a.eval o).run P w = .ok (.value (.pointer (some ⟨w.heap.size, 0, none⟩))) (w.alloc (.cells (a.eval ox).cells T)) := by
    simp [execOp, ho, Instr.box, newVar, newRow]
  simp only [stepD] at hs
  by_cases h0 : mode = 0
  · simp only [h0, if_true] at hs
    split at hs <;> simp only [Option.some.injEq, reduceCtorEq] at hs
    rename_i hp
    subst hs
    have hp' : ∀ y ∈ cellsD (getW s.fr x), pureC y = true := fun y hy => List.all_eq_true.1 hp y hy
    obtain ⟨hl, hcells⟩ := cellsD_rep hv (fun y hy => pureC_cellC (hp' y hy))
    obtain ⟨hI, hk, _⟩ := h.inv.fresh (a.eval ox).cells T (cellsD (getW s.fr x)).length
    refine wp_value hr ⟨{ gh with S := upd gh.S w.heap.size (cellsD (getW s.fr x)).length, hb := updO gh.hb (.sl d) none }, ?_, by simpa using h.size, by simpa using h.defers⟩
    rw [hdst, tm_put _ _ _ (by rw [h.size]; exact hd)]
    refine hI.put d (d := .pim ((cellsD (getW s.fr x)).map wk1)) ?_
    have hu : ∀ j, ∃ u, j < (cellsD (getW s.fr x)).length → (a.eval ox).cells[j]? = some u ∧ u.oneCell' = true ∧ ∀ y, (cellsD (getW s.fr x))[j]? = some y → CRep w gh none y u := by
      intro j
      by_cases hj : j < (cellsD (getW s.fr x)).length
      · obtain ⟨u, k1, k2, k3⟩ := hcells j (cellsD (getW s.fr x))[j] (by simp)
        refine ⟨u, fun _ => ⟨by simpa using k1, k2, fun y hy => ?_⟩⟩
        simp [hj] at hy
        subst hy; exact k3
      · exact ⟨undef, fun hj' => absurd hj' hj⟩
    have ⟨f, hf⟩ := Classical.axiomOfChoice hu
    refine Rep.pim (u := f) (fun j hj => ?_) (fun j d hd => ?_)
    · simp only [List.length_map] at hj
      refine ⟨?_, by simp; omega, (hf j hj).2.1⟩
      rw [newCell]; simpa using (hf j hj).1
    · simp only [List.getElem?_map, Option.map_eq_some_iff] at hd
      obtain ⟨y, hy, rfl⟩ := hd
      have hj : j < (cellsD (getW s.fr x)).length := (List.getElem?_eq_some_iff.1 hy).1
      exact (((hf j hj).2.2 y hy).pure (hp' y (List.mem_of_getElem? hy))).keep hk
  · simp only [h0, if_false] at hs
    split at hs
    case isFalse => simp at hs
    rename_i hp
    have hp' : ∀ y ∈ cellsD (getW s.fr x), cellC y = true := fun y hy => List.all_eq_true.1 hp y hy
    obtain ⟨hl, hcells⟩ := cellsD_rep hv hp'
    have hc : NewCells w gh (cellsD (getW s.fr x)).length [cellsD (getW s.fr x)] (a.eval ox).cells :=
      newCells_one hl (fun c d hd => ⟨hp' d (List.mem_of_getElem? hd), hcells c d hd⟩)
    split at hs <;> simp only [Option.some.injEq] at hs <;> subst hs
    · refine wp_value hr ⟨{ gh with lmu := upd gh.lmu d w.heap.size, lsz := upd gh.lsz d (cellsD (getW s.fr x)).length, hb := hbNewLoc gh.hb d }, ?_, by simpa using h.size, by simpa using h.defers⟩
      rw [hdst, tm_put _ _ _ (by rw [h.size]; exact hd)]
      exact h.inv.newLoc d hc (.inl ⟨rfl, rfl⟩)
    · refine wp_value hr ⟨{ gh with mu := upd gh.mu s.gl.nx w.heap.size, sz := upd gh.sz s.gl.nx (cellsD (getW s.fr x)).length, hb := hbNewGl gh.hb s.gl.nx d, nx := gh.nx + 1 }, ?_, by simpa using h.size, by simpa using h.defers⟩
      rw [hdst, tm_put _ _ _ (by rw [h.size]; exact hd)]
      exact h.inv.newGl d hc

end Go.AM
