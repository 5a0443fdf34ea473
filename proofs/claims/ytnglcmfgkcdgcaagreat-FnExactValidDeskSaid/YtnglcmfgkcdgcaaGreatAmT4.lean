/- Typed operations are operations: calls, values. -/
import Derived.Test.YtnglcmfgkcdgcaaGreatAmT3
namespace Go.AM
open Go
set_option linter.unusedVariables false
set_option linter.unusedSimpArgs false

variable {P : Program} {sig : List Sm} {call : Call} {T : TSt} {β : Type} {r : β}

theorem rows_pure {t : Ty} (h : t.pureB = true) (ys : List t.den) : (ys.map t.row).all (·.all pureC) = true := by
  rw [List.all_eq_true]
  intro x hx
  simp only [List.mem_map] at hx
  obtain ⟨y, _, rfl⟩ := hx
  exact pureB_ok h

theorem rows_wk1 {t : Ty} (ys : List t.den) : (ys.map t.row).map (·.map wk1) = ys.map t.row := by
  simp [List.map_map, Function.comp_def, row_wk1]

theorem drop_pure (c : Nat) (row : List TV) : ((row.map TV.er).drop c).all pureC = (row.drop c).all pureT := by
  rw [← List.map_drop, all_pure]

theorem closeKT_ok {v : TV} {K : TV → Option β} (h : closeKT T v K = some r) : ∃ u, closeC T.er v.er = some u.er ∧ K u = some r := by
  cases v <;> simp only [closeKT, reduceCtorEq, Option.bind_eq_some_iff] at h
  · exact ⟨_, rfl, h⟩
  · exact ⟨_, rfl, h⟩
  · exact ⟨_, rfl, h⟩
  · obtain ⟨o, h1, h2⟩ := h
    obtain ⟨row, h3, h4⟩ := rowK_ok h2
    simp only [cond_eq_ite, Option.ite_none_right_eq_some] at h4
    refine ⟨_, ?_, h4.2⟩
    simp only [closeC, TV.er, TSt.er, TGl.er, h1, Option.map_some, Option.bind_some, h3, drop_pure, h4.1, if_true]
    simp [ers_eq, List.map_drop, Function.comp_def, wkT1_er]
  · rename_i g off len
    obtain ⟨o, h1, h2⟩ := h
    obtain ⟨t, ys, h3, h4, _, h5⟩ := winK_ok h2
    simp only [cond_eq_ite, Option.ite_none_right_eq_some] at h5
    refine ⟨_, ?_, h5.2⟩
    have hc : (decide (off + len ≤ o.er.length) && ((o.er.drop off).take len).all (·.all pureC)) = true := by
      rw [h4, rows_pure h5.1]
      simp [h3]
    simp only [closeC, TV.er, TSt.er, TGl.er, h1, Option.map_some, Option.bind_some]
    rw [if_pos hc, h4, rows_wk1]
  · obtain ⟨o, h1, h2⟩ := h
    obtain ⟨row, h3, h4⟩ := rowK_ok h2
    simp only [cond_eq_ite, Option.ite_none_right_eq_some] at h4
    refine ⟨_, ?_, h4.2⟩
    simp only [closeC, TV.er, TSt.er, TGl.er, h1, Option.map_some, Option.bind_some, h3, drop_pure, h4.1, if_true]
    simp [ers_eq, List.map_drop, Function.comp_def, wkT1_er]
  · rename_i g off len
    obtain ⟨o, h1, h2⟩ := h
    obtain ⟨t, ys, h3, h4, _, h5⟩ := winK_ok h2
    simp only [cond_eq_ite, Option.ite_none_right_eq_some] at h5
    refine ⟨_, ?_, h5.2⟩
    have hc : (decide (off + len ≤ o.er.length) && ((o.er.drop off).take len).all (·.all pureC)) = true := by
      rw [h4, rows_pure h5.1]
      simp [h3]
    simp only [closeC, TV.er, TSt.er, h1, Option.map_some, Option.bind_some]
    rw [if_pos hc, h4, rows_wk1]
  · simp only [cond_eq_ite, Option.ite_none_right_eq_some] at h
    refine ⟨_, ?_, h.2⟩
    have := pure_er (.clo _ _) ▸ h.1
    rw [er_clo] at this ⊢
    simp only [closeC, this, if_true]

theorem closeLK_ok : ∀ {cs : List TV} {K : List TV → Option β}, closeLK T cs K = some r → ∃ us : List TV, mapO (closeC T.er) (cs.map TV.er) = some (us.map TV.er) ∧ K us = some r
  | [], K, h => ⟨[], rfl, h⟩
  | v :: q, K, h => by
    simp only [closeLK] at h
    obtain ⟨u, h1, h2⟩ := closeKT_ok h
    obtain ⟨us, h3, h4⟩ := closeLK_ok h2
    exact ⟨u :: us, by simp [mapO, h1, h3], h4⟩

theorem closeAK_ok {v : TV} {K : TV → Option β} (h : closeAK T v K = some r) : ∃ u, closeA T.er v.er = some u.er ∧ K u = some r := by
  unfold closeAK at h
  split at h
  · obtain ⟨us, h1, h2⟩ := closeLK_ok h
    exact ⟨_, by simp [er_agg, closeA, h1], h2⟩
  · obtain ⟨us, h1, h2⟩ := closeLK_ok h
    exact ⟨_, by simp [er_clo, closeA, h1], h2⟩
  · rename_i h1 h2
    obtain ⟨u, h3, h4⟩ := closeKT_ok h
    refine ⟨u, ?_, h4⟩
    cases v with
    | agg cs => exact absurd rfl (h1 cs)
    | clo f cs => exact absurd rfl (h2 f cs)
    | _ => simpa only [closeA, TV.er] using h3

theorem closeAllK_ok : ∀ {cs : List TV} {K : List TV → Option β}, closeAllK T cs K = some r → ∃ us : List TV, mapO (closeA T.er) (cs.map TV.er) = some (us.map TV.er) ∧ K us = some r
  | [], K, h => ⟨[], rfl, h⟩
  | v :: q, K, h => by
    simp only [closeAllK] at h
    obtain ⟨u, h1, h2⟩ := closeAK_ok h
    obtain ⟨us, h3, h4⟩ := closeAllK_ok h2
    exact ⟨u :: us, by simp [mapO, h1, h3], h4⟩

theorem looks1_er (v : TV) : looks1 v.er = looksT1 v := by cases v <;> simp [TV.er, looks1, looksT1]
theorem looks_er (v : TV) : looks v.er = looksT v := by
  cases v with
  | agg cs => simp only [er_agg, looks, looksT, List.any_map]; congr 1; funext c; exact looks1_er c
  | clo f cs => simp only [er_clo, looks, looksT, List.any_map]; congr 1; funext c; exact looks1_er c
  | _ => simp [TV.er, looks, looksT, looks1, looksT1]

theorem flatC_er (v : TV) : flatC v.er = flatCT v := by cases v <;> simp [TV.er, flatC, flatCT]

theorem flat_row : ∀ {t : Ty} {x : t.den}, t.flat = true → (t.row x).all flatC = true
  | .unit, _, _ => rfl
  | .int _, _, _ => rfl
  | .bool, _, _ => rfl
  | .str, _, _ => rfl
  | .lst _, _, h => by simp [Ty.flat] at h
  | .pim _, _, h => by simp [Ty.flat] at h
  | .clo _ _, _, h => by simp [Ty.flat] at h
  | .pair a b, x, h => by
    simp only [Ty.flat, Bool.and_eq_true] at h
    simp only [Ty.row, List.all_append, flat_row h.1, flat_row h.2, Bool.and_self]

theorem flat_er {v : TV} (h : flatT v = true) : flatR v.er = true := by
  cases v with
  | val x => rfl
  | agg cs => simpa [er_agg, flatR, flatT, Function.comp_def, flatC_er] using h
  | tup cs => simpa [er_tup, flatR, flatT, Function.comp_def, flatC_er] using h
  | lst o t xs =>
    cases o with
    | false => simp [flatT] at h
    | true =>
      simp only [flatT] at h
      simp only [TV.er, flatR, List.all_map, List.all_eq_true, Function.comp_apply]
      intro x _ d hd
      exact List.all_eq_true.1 (flat_row h) d hd
  | _ => simp [flatT] at h

theorem closed1_er (v : TV) : closedC v.er = closedT1 v := by
  cases v with
  | clo f cs => have := pure_er (.clo f cs); rw [er_clo] at this ⊢; exact this
  | _ => simp [TV.er, closedC, closedT1]

theorem closed_er (v : TV) : closedR v.er = closedT v := by
  cases v with
  | agg cs => simp only [er_agg, closedR, closedT, List.all_map]; congr 1; funext c; exact closed1_er c
  | tup cs =>
    simp only [er_tup, closedR, closedT, List.all_map]
    congr 1
    funext c
    cases c with
    | agg cs => simp only [Function.comp, er_agg, List.all_map]; congr 1; funext c; exact closed1_er c
    | clo f cs => exact closed1_er (.clo f cs)
    | _ => simp [Function.comp, TV.er, closedC, closedT1]
  | clo f cs => exact closed1_er (.clo f cs)
  | _ => simp [TV.er, closedR, closedT, closedC, closedT1]

theorem noLoc1_er (v : TV) : noLocA1 v.er = noLocT1 v := by cases v <;> simp [TV.er, noLocA1, noLocT1]
theorem noLoc_er (v : TV) : noLocA v.er = noLocT v := by
  cases v with
  | agg cs => simp only [er_agg, noLocA, noLocT, List.all_map]; congr 1; funext c; exact noLoc1_er c
  | clo f cs => simp only [er_clo, noLocA, noLocT, List.all_map]; congr 1; funext c; exact noLoc1_er c
  | _ => simp [TV.er, noLocA, noLocT]
theorem resNoLoc1_er (v : TV) : resNoLoc1 v.er = noLocT1 v := by cases v <;> simp [TV.er, resNoLoc1, noLocT1]
theorem resNoLoc_er (v : TV) : resNoLoc v.er = resNoLocT v := by
  cases v with
  | agg cs => simp only [er_agg, resNoLoc, resNoLocT, List.all_map]; congr 1; funext c; exact resNoLoc1_er c
  | clo f cs => simp only [er_clo, resNoLoc, resNoLocT, List.all_map]; congr 1; funext c; exact resNoLoc1_er c
  | tup cs => simp only [er_tup, resNoLoc, resNoLocT, List.all_map]; congr 1; funext c; exact resNoLoc1_er c
  | _ => simp [TV.er, resNoLoc, resNoLocT]

theorem okMulti_er (v : TV) : okMulti v.er = okMultiT v := by
  cases v with
  | agg cs => simp only [er_agg, okMulti, okMultiT, all_pure]
  | clo f cs => have := pure_er (.clo f cs); rw [er_clo] at this ⊢; simpa only [okMulti, okMultiT] using this
  | _ => simp [TV.er, okMulti, okMultiT]

/-- What a function computes is what the machine computes. -/
structure SmOK (call : Call) (S : Sm) : Prop where
  good : S.kin.args S.np = true
  ok : ∀ v x, S.fn v = some x → call S.f ((List.range S.np).map fun i => ((S.kin.enc v).fr.get i).er) (S.kin.enc v).gl.er = some ((resT (S.kout.enc (S.un x)).fr S.nres).er, (S.kout.enc (S.un x)).gl.er)

theorem frameOf_get : ∀ {as : List TV} {n i : Nat}, (frameOf n as).get (n + i) = (as[i]?).getD .any
  | [], n, i => rfl
  | v :: q, n, i => by
    simp only [frameOf, TFr.get, aget, nbeq, cond_eq_ite, decide_eq_true_eq]
    cases i with
    | zero => simp
    | succ i =>
      rw [if_neg (by omega)]
      have := frameOf_get (as := q) (n := n + 1) (i := i)
      simp only [TFr.get] at this
      rw [show n + (i + 1) = n + 1 + i by omega, this]
      simp

theorem callK_ok {as : List TV} {gl : TGl} {f : FuncId} {K : TSt → Nat → Option β} : ∀ {sig : List Sm}, (∀ S ∈ sig, SmOK call S) → callK sig f as.length ⟨frameOf 0 as, [], gl⟩ K = some r →
    ∃ U n, call f (as.map TV.er) gl.er = some ((resT U.fr n).er, U.gl.er) ∧ K U n = some r
  | [], _, h => by simp [callK] at h
  | S :: q, hS, h => by
    simp only [callK, cond_eq_ite, Bool.and_eq_true, nbeq_iff] at h
    split at h
    · rename_i hf
      obtain ⟨rfl, hn⟩ := hf
      split at h
      · rename_i v hv
        simp only [Option.bind_eq_some_iff] at h
        obtain ⟨x, h1, h2⟩ := h
        obtain ⟨hg, hok⟩ := hS S (by simp)
        have := hok v x h1
        rw [ks_gl hv] at this
        refine ⟨_, _, ?_, h2⟩
        rw [← this]
        congr 1
        refine List.ext_getElem? fun i => ?_
        simp only [List.getElem?_map]
        by_cases hi : i < S.np
        · rw [List.getElem?_range hi]
          simp only [Option.map_some, ks_arg hv hg, if_pos hi]
          have hi' : i < as.length := by omega
          have hfr : TFr.get (frameOf 0 as) i = (as[i]?).getD .any := by
            have := frameOf_get (as := as) (n := 0) (i := i)
            rwa [Nat.zero_add] at this
          rw [hfr]
          simp [hi']
        · have e1 : (List.range S.np)[i]? = none := List.getElem?_eq_none (by simp; omega)
          have e2 : as[i]? = none := List.getElem?_eq_none (by omega)
          rw [e1, e2]
          rfl
      · exact callK_ok (fun S h => hS S (by simp [h])) h
    · exact callK_ok (fun S h => hS S (by simp [h])) h

theorem doCallK_ok {f : FuncId} {args : List TV} {op : Bool} {K : TDe → Option β} (hS : ∀ S ∈ sig, SmOK call S) (h : doCallK sig T f args op K = some r) :
    ∃ e, doCall call T.er f (args.map TV.er) op = some e.er ∧ K e = some r := by
  unfold doCallK at h
  cases op with
  | true =>
    simp only [cond_true] at h
    rw [cond_eq_ite, Option.ite_none_right_eq_some] at h
    obtain ⟨h1, h2⟩ := h
    obtain ⟨U, n, h3, h4⟩ := callK_ok hS h2
    rw [cond_eq_ite, Option.ite_none_right_eq_some] at h4
    refine ⟨_, ?_, h4.2⟩
    have h5 : (args.map TV.er).all noLocA = true := by simpa [Function.comp_def, noLoc_er] using h1
    have h6 : resNoLoc (resT U.fr n).er = true := by rw [resNoLoc_er]; exact h4.1
    have h3' : call f (args.map TV.er) T.er.gl = some ((resT U.fr n).er, U.gl.er) := h3
    simp only [doCall, if_true, h5, h3', Option.bind_some, h6, TDe.er]
  | false =>
    simp only [cond_false] at h
    obtain ⟨us, h1, h2⟩ := closeAllK_ok h
    obtain ⟨U, n, h3, h4⟩ := callK_ok hS h2
    simp only [cond_eq_ite, Option.ite_none_right_eq_some, Bool.and_eq_true, Bool.or_eq_true] at h4
    refine ⟨_, ?_, h4.2⟩
    have he : (args.map TV.er).any looks = args.any looksT := by simp [Function.comp_def, looks_er]
    have h3' : call f (us.map TV.er) Gl.empty = some ((resT U.fr n).er, U.gl.er) := h3
    have h6 : (closedR (resT U.fr n).er && (!((args.map TV.er).any looks) || flatR (resT U.fr n).er)) = true := by
      rw [closed_er, he, h4.1.1]
      rcases h4.1.2 with e | e
      · simp only [e, Bool.true_or, Bool.and_self]
      · simp only [flat_er e, Bool.or_true, Bool.and_self]
    simp only [doCall, Bool.false_eq_true, if_false, h1, Option.bind_some, h3', h6, if_true, TDe.er]

theorem cells_of' (v : TV) : (cellsD v.er) = (cellsT v).map TV.er := (cells_of v).symm

theorem setCellsT_er (row : List TV) (c : Nat) (vs : List TV) : (setCellsT row c vs).map TV.er = setCells (row.map TV.er) c (vs.map TV.er) := by
  simp [setCellsT, setCells, List.map_take, List.map_drop]

theorem fillParts_ok : ∀ {parts : List (Nat × Nat × Opd)} {cells out : List TV}, fillPartsT T.fr cells parts = some out → fillParts T.er.fr (cells.map TV.er) parts = some (out.map TV.er)
  | [], cells, out, h => by simp only [fillPartsT, Option.some.injEq] at h; subst h; rfl
  | (off, n, x) :: rest, cells, out, h => by
    simp only [fillPartsT, cond_eq_ite, Option.ite_none_right_eq_some, Bool.and_eq_true, nbeq_iff] at h
    obtain ⟨⟨⟨h1, h2⟩, h3⟩, h4⟩ := h
    have := fillParts_ok h4
    rw [setCellsT_er, cells_of, getTW_er] at this
    simp only [fillParts]
    rw [if_pos]
    · exact this
    · rw [← getTW_er, cells_of']
      exact ⟨by simpa using h1, by simpa using Nat.le_of_ble_eq_true h2, by rw [all_cell]; exact h3⟩

theorem fillRows_ok {t : Ty} : ∀ {parts : List (Nat × Opd)} {xs out : List t.den}, t.pureB = true → fillRowsT T.fr t xs parts = some out → fillRows T.er.fr (xs.map t.row) t.w parts = some (out.map t.row)
  | [], xs, out, _, h => by simp only [fillRowsT, Option.some.injEq] at h; subst h; rfl
  | (i, x) :: rest, xs, out, hp, h => by
    simp only [fillRowsT, cond_eq_ite, Option.ite_none_right_eq_some] at h
    obtain ⟨h1, h2⟩ := h
    split at h2
    · rename_i y hy
      have := fillRows_ok hp h2
      have e := of_er hy
      rw [wkT1_ers, cells_of, getTW_er] at e
      simp only [fillRows, e]
      rw [if_pos]
      · rw [← this, List.map_set]
      · exact ⟨row_len t y, by have := Nat.le_of_ble_eq_true h1; simp; omega, pureB_ok hp⟩
    · simp at h2

end Go.AM
