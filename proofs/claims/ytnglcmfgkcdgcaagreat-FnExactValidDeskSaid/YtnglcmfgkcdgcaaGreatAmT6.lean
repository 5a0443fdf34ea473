/- Each typed operation is an operation. -/
import Derived.Test.YtnglcmfgkcdgcaaGreatAmT5
namespace Go.AM
open Go
set_option linter.unusedVariables false
set_option linter.unusedSimpArgs false

variable {P : Program} {sig : List Sm} {call : Call} {T : TSt} {β : Type} {r : β} {ty : Ty} {K : TDe → Option β}

theorem putW {v : TV} {d : DV} {src : Option Nat} (h : v.er = d) : De.put d src = (TDe.put v src).er := by rw [← h]; rfl

theorem step_mv {d : Nat} {x : Opd} {tr : Bool} (h : tstepK P sig T ty (.mv d x tr) K = some r) : ∃ e, stepD P call T.er (.mv d x tr) = some e.er ∧ K e = some r := by
  cases tr with
  | false => exact ⟨_, by simp [stepD, ← getTW_er, TDe.er], h⟩
  | true =>
    cases x with
    | t n =>
      simp only [tstepK, cond_true] at h
      simp only [nbeq, cond_eq_ite, decide_eq_true_eq, Option.ite_none_left_eq_some] at h
      refine ⟨_, ?_, h.2⟩
      simp only [stepD, if_true, if_neg h.1]
      rfl
    | k v => exact ⟨_, by simp [stepD, ← getTW_er, TDe.er], h⟩
    | f n => exact ⟨_, by simp [stepD, ← getTW_er, TDe.er], h⟩

theorem step_nilc {d : Nat} {x : Opd} (h : tstepK P sig T ty (.nilc d x) K = some r) : ∃ e, stepD P call T.er (.nilc d x) = some e.er ∧ K e = some r := by
  simp only [tstepK] at h
  split at h
  case h_5 => simp at h
  all_goals
    rename_i e
    refine ⟨_, ?_, h⟩
    simp only [stepD, ← getTW_er, e, TDe.er, TV.er]

theorem step_pick {d : Nat} {c a b : Opd} (h : tstepK P sig T ty (.pick d c a b) K = some r) : ∃ e, stepD P call T.er (.pick d c a b) = some e.er ∧ K e = some r := by
  simp only [tstepK] at h
  split at h
  · rename_i t e
    split at h
    · rename_i ht
      exact ⟨_, by simp [stepD, ← getTW_er, ← getT_er, e, TDe.er, TV.er, ht], h⟩
    · rename_i ht
      exact ⟨_, by simp [stepD, ← getTW_er, ← getT_er, e, TDe.er, TV.er, ht], h⟩
  · simp at h

theorem one_er (cs : List TV) : (TR.one cs).er = [cs.map TV.er] := by simp [TR.er, ers_eq]

theorem step_alloc {d : Nat} {U : TypeId} {zero : List Value} {g : Bool} (h : tstepK P sig T ty (.alloc d U zero g) K = some r) : ∃ e, stepD P call T.er (.alloc d U zero g) = some e.er ∧ K e = some r := by
  cases g with
  | true => exact ⟨_, by simp [stepD, TDe.er, one_er, Function.comp_def, oneT_er], h⟩
  | false => exact ⟨_, by simp [stepD, TDe.er, one_er, Function.comp_def, oneT_er, TV.er], h⟩

theorem step_box {d : Nat} {U : TypeId} {x : Opd} {mode : Nat} (h : tstepK P sig T ty (.box d U x mode) K = some r) : ∃ e, stepD P call T.er (.box d U x mode) = some e.er ∧ K e = some r := by
  have e := cells_of (getTW T.fr x)
  rw [getTW_er] at e
  simp only [tstepK, nbeq, cond_eq_ite, decide_eq_true_eq] at h
  split at h
  · rename_i h0
    subst h0
    simp only [Option.ite_none_right_eq_some] at h
    refine ⟨_, ?_, h.2⟩
    simp only [stepD, ← e, all_pure, h.1, if_true, TDe.er, er_pim, wkT1_ers]
  · rename_i h0
    simp only [Option.ite_none_right_eq_some] at h
    obtain ⟨h1, h⟩ := h
    split at h
    · rename_i h2
      refine ⟨_, ?_, h⟩
      simp only [stepD, ← e, if_neg h0, all_cell, h1, if_true, if_pos h2, TDe.er, one_er, TV.er]
    · rename_i h2
      refine ⟨_, ?_, h⟩
      simp only [stepD, ← e, if_neg h0, all_cell, h1, if_true, if_neg h2, TDe.er, one_er]

theorem step_build {d : Nat} {U : TypeId} {zero : List Value} {parts : List (Nat × Nat × Opd)} (h : tstepK P sig T ty (.build d U zero parts) K = some r) : ∃ e, stepD P call T.er (.build d U zero parts) = some e.er ∧ K e = some r := by
  simp only [tstepK] at h
  split at h
  · rename_i cs e
    have := fillParts_ok e
    rw [zero_er] at this
    exact ⟨_, by simp only [stepD, this, Option.map_some, TDe.er, er_agg], h⟩
  · simp at h

theorem step_bsl {d n sz : Nat} {U : TypeId} {zero : List Value} {parts : List (Nat × Opd)} (h : tstepK P sig T ty (.bsl d U sz zero n parts) K = some r) : ∃ e, stepD P call T.er (.bsl d U sz zero n parts) = some e.er ∧ K e = some r := by
  simp only [tstepK] at h
  split at h
  · rename_i z ez
    simp only [cond_eq_ite, Option.ite_none_right_eq_some, Bool.and_eq_true, nbeq_iff] at h
    obtain ⟨⟨⟨h1, h2⟩, hp⟩, h3⟩ := h
    split at h3
    · rename_i xs ex
      have e1 := of_er ez
      rw [zero_er'] at e1
      have hw : ty.w = sz := by rw [← row_len ty z, ← e1]; simpa using h1
      have := fillRows_ok hp ex
      rw [hw, List.map_replicate, ← e1] at this
      refine ⟨_, ?_, h3⟩
      simp only [stepD]
      rw [if_pos ⟨h1, Nat.le_of_ble_eq_true h2⟩, this]
      rfl
    · simp at h3
  · simp at h

theorem loadT_ok {n : Nat} {ag : Bool} {p : TV} {K : TV → Option β} (h : (match p with
      | .pim cs => bif Nat.ble n cs.length && (cs.take n).all cellCT then (match mkVT ag (cs.take n) with | some v => K v | none => none) else none
      | p => (match lookT T p with
        | some (r, i, c) => rowK r i fun row => bif Nat.ble (c + n) row.length && ((row.drop c).take n).all cellCT then (match mkVT ag (((row.drop c).take n).map wkT1) with | some v => K v | none => none) else none
        | none => none)) = some r) : ∃ v, loadD T.er n ag p.er = some v.er ∧ K v = some r := by
  split at h
  · rename_i cs
    simp only [cond_eq_ite, Option.ite_none_right_eq_some, Bool.and_eq_true] at h
    obtain ⟨⟨h1, h2⟩, h3⟩ := h
    split at h3
    · rename_i v e
      have hm := mkVT_ok e
      rw [List.map_take] at hm
      refine ⟨v, ?_, h3⟩
      have h2' : ((cs.map TV.er).take n).all cellC = true := by rw [← List.map_take, all_cell]; exact h2
      simp only [loadD, er_pim]
      rw [if_pos (by simp [Nat.le_of_ble_eq_true h1]; simpa using h2'), hm]
    · simp at h3
  · rename_i q hp
    split at h
    · rename_i o i c e
      obtain ⟨row, h1, h2⟩ := rowK_ok h
      have hl := lookT_ok e
      simp only at hl
      simp only [cond_eq_ite, Option.ite_none_right_eq_some, Bool.and_eq_true] at h2
      obtain ⟨⟨k1, k2⟩, h3⟩ := h2
      split at h3
      · rename_i v e
        have hm := mkVT_ok e
        rw [wkT1_ers, List.map_take, List.map_drop] at hm
        refine ⟨v, ?_, h3⟩
        have h2' : (((row.map TV.er).drop c).take n).all cellC = true := by rw [← List.map_drop, ← List.map_take, all_cell]; exact k2
        have hd : loadD T.er n ag p.er = (look T.er p.er).bind fun x => (x.1[x.2.1]?).bind fun row =>
          if x.2.2 + n ≤ row.length && ((row.drop x.2.2).take n).all cellC then mkV ag (((row.drop x.2.2).take n).map wk1) else none := by
          cases p with
          | pim cs => exact absurd rfl (hp cs)
          | _ => rfl
        rw [hd, hl]
        simp only [Option.bind_some, h1]
        rw [if_pos (by simp [Nat.le_of_ble_eq_true k1]; simpa using h2'), hm]
      · simp at h3
    · simp at h

theorem step_ld {d n : Nat} {U : TypeId} {ag tr : Bool} {a : Opd} (h : tstepK P sig T ty (.ld d U n ag a tr) K = some r) : ∃ e, stepD P call T.er (.ld d U n ag a tr) = some e.er ∧ K e = some r := by
  cases tr with
  | false =>
    simp only [tstepK, cond_false] at h
    obtain ⟨v, h1, h2⟩ := loadT_ok (K := fun v => K (.put v none)) h
    rw [getT_er] at h1
    exact ⟨_, by simp [stepD, h1, TDe.er], h2⟩
  | true =>
    simp only [tstepK, cond_true] at h
    split at h
    · rename_i cs c e
      have hl := lookT_ok e
      simp only [one_er] at hl
      split at h
      · rename_i v hv
        simp only [cond_eq_ite, Option.ite_none_left_eq_some, Bool.or_eq_true, Bool.not_eq_true', not_or, Bool.not_eq_true] at h
        obtain ⟨⟨⟨h1, h2⟩, h3⟩, h4⟩ := h
        refine ⟨_, ?_, h4⟩
        have hn : n = 1 := by
          have := h2
          rw [Bool.not_eq_false] at this
          exact nbeq_iff.1 this
        have h3' : cellC v.er = true := by rw [cell_er]; simpa using h3
        simp only [stepD, if_true, ← getT_er, hl, Option.bind_some, List.getElem?_cons_zero, List.getElem?_map, hv, Option.map_some]
        rw [if_neg (by simp [h1, hn, h3'])]
        simp only [TDe.er, one_er, setCellsT_er, List.map_cons, List.map_nil, wkT1_er, Option.map_some, List.set_cons_zero]
      · simp at h
    · simp at h

theorem step_st {n : Nat} {U : TypeId} {tr : Bool} {a x : Opd} (h : tstepK P sig T ty (.st U n a x tr) K = some r) : ∃ e, stepD P call T.er (.st U n a x tr) = some e.er ∧ K e = some r := by
  simp only [tstepK] at h
  split at h
  · rename_i o i c e
    obtain ⟨row, h1, h2⟩ := rowK_ok h
    have hl := lookT_ok e
    simp only at hl
    rw [getT_er] at hl
    simp only [cond_eq_ite, Option.ite_none_right_eq_some, Bool.and_eq_true, nbeq_iff] at h2
    obtain ⟨⟨⟨k1, k2⟩, k3⟩, h3⟩ := h2
    have hv : cellsD (if tr then getO T.er.fr x else getW T.er.fr x) = (cellsT (if tr = true then getT T.fr x else getTW T.fr x)).map TV.er := by
      rw [cells_of]
      cases tr <;> simp [getT_er, getTW_er]
    split at h3
    · rename_i o' eo
      refine ⟨_, ?_, h3⟩
      have e2 := setRow_ok eo h1
      simp only [stepD, hl, Option.bind_some, h1, hv]
      rw [if_pos ⟨by simpa using k1, by simpa using Nat.le_of_ble_eq_true k2, by rw [all_cell]; exact k3⟩]
      simp only [TDe.er, e2, setCellsT_er, getT_er, Option.map_none]
    · simp at h3
  · simp at h

theorem step_bin {d : Nat} {op : BinOp} {U : TypeId} {x y : Opd} (h : tstepK P sig T ty (.bin d op U x y) K = some r) : ∃ e, stepD P call T.er (.bin d op U x y) = some e.er ∧ K e = some r := by
  simp only [tstepK] at h
  split at h
  · rename_i a b e1 e2
    obtain ⟨v, h1, h2⟩ := vbin_ok h
    refine ⟨_, ?_, h2⟩
    simp only [stepD, ← getTW_er, exact_er e1, exact_er e2, Option.bind_some, h1, Option.map_some, TDe.er, TV.er]
  · simp at h

theorem step_un {d : Nat} {op : UnOp} {x : Opd} (h : tstepK P sig T ty (.un d op x) K = some r) : ∃ e, stepD P call T.er (.un d op x) = some e.er ∧ K e = some r := by
  simp only [tstepK] at h
  split at h
  · rename_i a e1
    obtain ⟨v, h1, h2⟩ := vun_ok (P := P) h
    simp only [Option.bind_eq_some_iff] at h1
    obtain ⟨z, h1, h3⟩ := h1
    refine ⟨_, ?_, h2⟩
    simp only [stepD, ← getTW_er, exact1_er e1, Option.bind_some, h1, h3, Option.map_some, TDe.er, TV.er]
  · simp at h

theorem step_conv {d : Nat} {src dst : TypeId} {x : Opd} (h : tstepK P sig T ty (.conv d src dst x) K = some r) : ∃ e, stepD P call T.er (.conv d src dst x) = some e.er ∧ K e = some r := by
  simp only [tstepK] at h
  split at h
  · rename_i a e1
    obtain ⟨v, h1, h2⟩ := vconv_ok h
    simp only [Option.bind_eq_some_iff] at h1
    obtain ⟨z, h1, h3⟩ := h1
    refine ⟨_, ?_, h2⟩
    simp only [stepD, ← getTW_er, exact1_er e1, Option.bind_some, h1, h3, Option.map_some, TDe.er, TV.er]
  · simp at h

theorem cutL_ok {α : Type} {xs ys : List α} {l h : Nat} (hc : cutL xs l h = some ys) : l ≤ h ∧ h ≤ xs.length ∧ ys = (xs.take h).drop l := by
  simp only [cutL, Option.ite_none_right_eq_some, Option.some.injEq] at hc
  exact ⟨hc.1.1, hc.1.2, hc.2.symm⟩

theorem win_all {t : Ty} {xs : List t.den} {off len sz : Nat} (hw : t.w = sz) : (((xs.map t.row).drop off).take len).all (fun x => decide (x.length = sz)) = true := by
  rw [← List.map_drop, ← List.map_take]
  exact all_len _ hw

theorem step_slc {d sz : Nat} {U : TypeId} {str : Bool} {x : Opd} {lo hi mx : Option Opd} (h : tstepK P sig T ty (.slc d U str sz x lo hi mx) K = some r) : ∃ e, stepD P call T.er (.slc d U str sz x lo hi mx) = some e.er ∧ K e = some r := by
  cases str with
  | true =>
    simp only [tstepK, cond_true] at h
    split at h
    · rename_i b e
      obtain ⟨l, h1, h⟩ := optK_ok h
      obtain ⟨u, h2, h⟩ := optK_ok h
      simp only [Option.bind_eq_some_iff] at h
      obtain ⟨c, h3, h4⟩ := h
      simp only [cutS, Option.ite_none_right_eq_some, Option.some.injEq] at h3
      obtain ⟨h3, rfl⟩ := h3
      refine ⟨_, ?_, h4⟩
      simp only [stepD, if_true, ← getTW_er, e, TV.er, h1, h2, Option.bind_some]
      rw [if_pos ⟨h3.1, h3.2, rfl⟩]
      rfl
    · simp at h
  | false =>
    simp only [tstepK, cond_false] at h
    split at h
    · rename_i o t xs e
      simp only [cond_eq_ite, Option.ite_none_right_eq_some, nbeq_iff] at h
      obtain ⟨hw, h⟩ := h
      obtain ⟨l, h1, h⟩ := optK_ok h
      obtain ⟨u, h2, h⟩ := optK_ok h
      simp only [Option.bind_eq_some_iff] at h
      obtain ⟨c, h3, h4⟩ := h
      obtain ⟨k1, k2, rfl⟩ := cutL_ok h3
      refine ⟨_, ?_, h4⟩
      have h2' : optN T.er.fr (xs.map t.row).length hi = some u := by simpa using h2
      simp only [stepD, Bool.false_eq_true, if_false, ← getTW_er, e, TV.er, rowsOf, Option.bind_some, h1, h2', all_len xs hw, Bool.not_true, sliceRows]
      rw [if_pos ⟨k1, by simpa using k2, by simp⟩]
      simp [TDe.er, TV.er]
    · rename_i s off len e
      split at h
      · rename_i t xs ea
        simp only [cond_eq_ite, Option.ite_none_right_eq_some, nbeq_iff] at h
        obtain ⟨hw, h⟩ := h
        obtain ⟨l, h1, h⟩ := optK_ok h
        obtain ⟨u, h2, h⟩ := optK_ok h
        simp only [Option.ite_none_right_eq_some] at h
        obtain ⟨k1, k2, k3, h4⟩ := h
        refine ⟨_, ?_, h4⟩
        have hlo : T.er.lo s = some (xs.map t.row) := by simp [TSt.er, ea, TR.er]
        have hro : rowsOf T.er (.larr s off len) = some (((xs.map t.row).drop off).take len) := by
          simp [rowsOf, hlo, k3]
        have hl : (((xs.map t.row).drop off).take len).length = len := by simp; omega
        simp only [stepD, Bool.false_eq_true, if_false, ← getTW_er, e, TV.er, hro, Option.bind_some, h1, hl, h2, win_all hw, Bool.not_true, sliceRows]
        rw [if_pos ⟨k1, k2, trivial⟩]
        rfl
      · simp at h
    · rename_i s off len e
      split at h
      · rename_i t xs ea
        simp only [cond_eq_ite, Option.ite_none_right_eq_some, nbeq_iff] at h
        obtain ⟨hw, h⟩ := h
        obtain ⟨l, h1, h⟩ := optK_ok h
        obtain ⟨u, h2, h⟩ := optK_ok h
        simp only [Option.ite_none_right_eq_some] at h
        obtain ⟨k1, k2, k3, h4⟩ := h
        refine ⟨_, ?_, h4⟩
        have hlo : T.er.gl.ob s = some (xs.map t.row) := by simp [TSt.er, TGl.er, ea, TR.er]
        have hro : rowsOf T.er (.arr s off len) = some (((xs.map t.row).drop off).take len) := by
          simp [rowsOf, hlo, k3]
        have hl : (((xs.map t.row).drop off).take len).length = len := by simp; omega
        simp only [stepD, Bool.false_eq_true, if_false, ← getTW_er, e, TV.er, hro, Option.bind_some, h1, hl, h2, win_all hw, Bool.not_true, sliceRows]
        rw [if_pos ⟨k1, k2, trivial⟩]
        rfl
      · simp at h
    · simp at h

theorem step_fad {d fi off n : Nat} {U : TypeId} {x : Opd} (h : tstepK P sig T ty (.fad d U fi off n x) K = some r) : ∃ e, stepD P call T.er (.fad d U fi off n x) = some e.er ∧ K e = some r := by
  simp only [tstepK] at h
  split at h
  case h_4 => simp at h
  all_goals
    rename_i e
    refine ⟨_, ?_, h⟩
    simp only [stepD, ← getT_er, e, TDe.er, TV.er, ers_eq, List.map_drop, List.map_take]

theorem step_iad {d sz : Nat} {U : TypeId} {x i : Opd} (h : tstepK P sig T ty (.iad d U sz x i) K = some r) : ∃ e, stepD P call T.er (.iad d U sz x i) = some e.er ∧ K e = some r := by
  simp only [tstepK] at h
  split at h
  · rename_i k n ei
    split at h
    · rename_i o t xs e
      simp only [cond_eq_ite, Option.ite_none_right_eq_some, nbeq_iff, Option.bind_eq_some_iff] at h
      obtain ⟨hw, y, h1, h2⟩ := h
      obtain ⟨k1, k2, k3⟩ := getI_ok h1
      refine ⟨_, ?_, h2⟩
      simp only [stepD, ← getT_er, ei, e, TV.er, intOfD, Option.bind_some]
      rw [if_pos ⟨k1, by simpa using k2⟩]
      simp [k3, row_len, hw, TDe.er, er_pim, cells_er]
    · rename_i g off len e
      simp only [Option.ite_none_right_eq_some] at h
      obtain ⟨k1, k2, h⟩ := h
      split at h
      · rename_i o eo
        obtain ⟨row, h1, h2⟩ := rowK_ok h
        simp only [cond_eq_ite, Option.ite_none_right_eq_some, nbeq_iff] at h2
        refine ⟨_, ?_, h2.2⟩
        simp only [stepD, ← getT_er, ei, e, TV.er, intOfD, Option.bind_some]
        rw [if_pos ⟨k1, k2⟩]
        simp [TSt.er, TGl.er, eo, h1, h2.1, TDe.er, TV.er]
      · simp at h
    · rename_i g off len e
      simp only [Option.ite_none_right_eq_some] at h
      obtain ⟨k1, k2, h⟩ := h
      split at h
      · rename_i o eo
        obtain ⟨row, h1, h2⟩ := rowK_ok h
        simp only [cond_eq_ite, Option.ite_none_right_eq_some, nbeq_iff] at h2
        refine ⟨_, ?_, h2.2⟩
        simp only [stepD, ← getT_er, ei, e, TV.er, intOfD, Option.bind_some]
        rw [if_pos ⟨k1, k2⟩]
        simp [TSt.er, eo, h1, h2.1, TDe.er, TV.er]
      · simp at h
    · simp at h
  · simp at h

theorem step_idx {d : Nat} {U : TypeId} {x i : Opd} (h : tstepK P sig T ty (.idx d U x i) K = some r) : ∃ e, stepD P call T.er (.idx d U x i) = some e.er ∧ K e = some r := by
  simp only [tstepK] at h
  split at h
  · rename_i s k n es ei
    split at h
    · rename_i hu
      simp only [Option.bind_eq_some_iff] at h
      obtain ⟨c, h1, h2⟩ := h
      obtain ⟨b, h3, rfl⟩ := byteAt_ok h1
      refine ⟨_, ?_, h2⟩
      have hc : calcP P (Instr.index U (.string s) (.int k n)) = some (.int .u8 b.toNat) := by
        simp only [Instr.index, calcP_bind, calcP_under hu, Option.bind_some, asIntOf, calcP_pure, h3]
      simp only [stepD, ← getTW_er, es, ei, TV.er, exact1, Option.bind_some, hc, scal, Option.map_some, TDe.er]
    · simp at h
  · simp at h

theorem step_ext {d i : Nat} {x : Opd} (h : tstepK P sig T ty (.ext d x i) K = some r) : ∃ e, stepD P call T.er (.ext d x i) = some e.er ∧ K e = some r := by
  simp only [tstepK] at h
  split at h
  · rename_i cs e
    split at h
    · rename_i c ec
      split at h
      · simp at h
      · simp at h
      · simp at h
      · rename_i h1 h2 h3
        refine ⟨_, ?_, h⟩
        have hx : extOK c.er = true := by
          cases c with
          | lref a b c => exact absurd rfl (h1 a b c)
          | larr a b c => exact absurd rfl (h2 a b c)
          | clo a b => exact absurd rfl (h3 a b)
          | _ => rfl
        simp only [stepD, ← getT_er, e, er_tup, List.getElem?_map, ec, Option.map_some, Option.bind_some, hx, if_true, TDe.er, wkT_er]
    · simp at h
  · simp at h

theorem step_call {d : Option Nat} {f : FuncId} {args : List Opd} {op : Bool} (hS : ∀ S ∈ sig, SmOK call S) (h : tstepK P sig T ty (.call d f args op) K = some r) : ∃ e, stepD P call T.er (.call d f args op) = some e.er ∧ K e = some r := by
  obtain ⟨e, h1, h2⟩ := doCallK_ok hS h
  rw [getWs_er] at h1
  exact ⟨e, h1, h2⟩

theorem step_callv {d : Option Nat} {x : Opd} {args : List Opd} {op : Bool} (hS : ∀ S ∈ sig, SmOK call S) (h : tstepK P sig T ty (.callv d x args op) K = some r) : ∃ e, stepD P call T.er (.callv d x args op) = some e.er ∧ K e = some r := by
  simp only [tstepK] at h
  split at h
  · rename_i f caps e
    obtain ⟨δ, h1, h2⟩ := doCallK_ok hS h
    rw [List.map_append, getWs_er] at h1
    exact ⟨δ, by simp only [stepD, ← getTW_er T x, e, er_clo]; exact h1, h2⟩
  · simp at h

theorem step_len {d : Nat} {str : Bool} {x : Opd} (h : tstepK P sig T ty (.len d str x) K = some r) : ∃ e, stepD P call T.er (.len d str x) = some e.er ∧ K e = some r := by
  cases str with
  | true =>
    simp only [tstepK, cond_true] at h
    split at h
    · rename_i b e
      exact ⟨_, by simp only [stepD, if_true, ← getTW_er, e, TV.er, TDe.er], h⟩
    · simp at h
  | false =>
    simp only [tstepK, cond_false] at h
    split at h
    · rename_i o t xs e
      exact ⟨_, by simp [stepD, ← getTW_er, e, TV.er, TDe.er, rowsOf], h⟩
    · rename_i s off len e
      split at h
      · rename_i t xs ea
        simp only [Option.ite_none_right_eq_some] at h
        refine ⟨_, ?_, h.2⟩
        have hro : rowsOf T.er (.larr s off len) = some (((xs.map t.row).drop off).take len) := by
          simp [rowsOf, TSt.er, ea, TR.er, h.1]
        have hl : (((xs.map t.row).drop off).take len).length = len := by simp; omega
        simp only [stepD, Bool.false_eq_true, if_false, ← getTW_er, e, TV.er, hro, Option.map_some, hl, TDe.er]
      · simp at h
    · rename_i s off len e
      split at h
      · rename_i t xs ea
        simp only [Option.ite_none_right_eq_some] at h
        refine ⟨_, ?_, h.2⟩
        have hro : rowsOf T.er (.arr s off len) = some (((xs.map t.row).drop off).take len) := by
          simp [rowsOf, TSt.er, TGl.er, ea, TR.er, h.1]
        have hl : (((xs.map t.row).drop off).take len).length = len := by simp; omega
        simp only [stepD, Bool.false_eq_true, if_false, ← getTW_er, e, TV.er, hro, Option.map_some, hl, TDe.er]
      · simp at h
    · simp at h

theorem step_app {d sz : Nat} {U : TypeId} {x y : Opd} (h : tstepK P sig T ty (.app d U sz x y) K = some r) : ∃ e, stepD P call T.er (.app d U sz x y) = some e.er ∧ K e = some r := by
  simp only [tstepK] at h
  split at h
  · rename_i t xs e
    obtain ⟨t', ys, h1, h'⟩ := rowsK_ok h
    clear h
    have h := h'
    clear h'
    split at h
    · rename_i xs' ys' e1 e2
      simp only [cond_eq_ite, Option.ite_none_right_eq_some, nbeq_iff, Bool.and_eq_true] at h
      obtain ⟨⟨hw, hp⟩, h⟩ := h
      have c1 := castL_er e1
      have c2 := castL_er e2
      rw [getTW_er, c2] at h1
      have fin : ∀ zs, appL xs' ys' = some zs → ((ys'.map ty.row).all (fun r => decide (r.length = sz) && r.all pureC) && (xs'.map ty.row).all (fun r => decide (r.length = sz)) && decide ((xs'.map ty.row).length + (ys'.map ty.row).length ≤ roomN)) = true ∧ zs.map ty.row = xs'.map ty.row ++ (ys'.map ty.row).map (·.map wk1) := by
        intro zs hz
        simp only [appL, Option.ite_none_right_eq_some, Option.some.injEq] at hz
        obtain ⟨hz, rfl⟩ := hz
        refine ⟨?_, by rw [rows_wk1]; simp⟩
        have a1 : (ys'.map ty.row).all (fun r => decide (r.length = sz) && r.all pureC) = true := by
          rw [List.all_eq_true]
          intro q hq
          simp only [List.mem_map] at hq
          obtain ⟨y, _, rfl⟩ := hq
          simp only [row_len, hw, decide_true, pureB_ok hp, Bool.and_self]
        rw [a1, all_len _ hw]
        simpa using hz
      split at h
      · rename_i n
        simp only [Option.ite_none_left_eq_some, nbeq_iff, Option.bind_eq_some_iff] at h
        obtain ⟨hn, zs, h3, h4⟩ := h
        obtain ⟨f1, f2⟩ := fin zs h3
        refine ⟨_, ?_, h4⟩
        have e' : getO T.er.fr (.t n) = .lst true (xs'.map ty.row) := by rw [← getT_er, e]; simp [TV.er, c1]
        simp only [stepD, h1, Option.bind_some, e']
        rw [if_pos f1, if_neg hn, ← f2]
        rfl
      · rename_i hx
        simp only [Option.bind_eq_some_iff] at h
        obtain ⟨zs, h3, h4⟩ := h
        obtain ⟨f1, f2⟩ := fin zs h3
        refine ⟨_, ?_, h4⟩
        have e' : getO T.er.fr x = .lst true (xs'.map ty.row) := by rw [← getT_er, e]; simp [TV.er, c1]
        simp only [stepD, h1, Option.bind_some, e']
        rw [if_pos f1]
        cases x with
        | t n => exact absurd rfl (hx n)
        | k v => simp only [← f2]; rfl
        | f v => simp only [← f2]; rfl
    · simp at h
  · simp at h

theorem step_mnx {d : Nat} {b : Bool} {args : List Opd} (h : tstepK P sig T ty (.mnx d b args) K = some r) : ∃ e, stepD P call T.er (.mnx d b args) = some e.er ∧ K e = some r := by
  simp only [tstepK] at h
  split at h
  · rename_i v vs e
    split at h
    · rename_i u eu
      have e' := mapO_er e
      rw [getWs_er] at e'
      by_cases hv : ∃ k n, v = .int k n
      · obtain ⟨h1, k, n, rfl⟩ := vmnx_ok hv eu
        refine ⟨_, ?_, h⟩
        simp only [stepD, e', Option.bind_some]
        have : calcP P (if b then Builtin.max_ #[] 0 (v :: vs).toArray else Builtin.min_ #[] 0 (v :: vs).toArray) = some (.int k n) := by
          cases b with
          | true => simpa [Builtin.max_] using h1
          | false => simpa [Builtin.min_] using h1
        rw [this]
        rfl
      · cases v with
        | int k n => exact absurd ⟨k, n, rfl⟩ hv
        | _ => simp [vmnx] at eu
    · simp at h
  · simp at h

theorem step_mkf {d : Nat} {f : FuncId} {caps : List Opd} (h : tstepK P sig T ty (.mkf d f caps) K = some r) : ∃ e, stepD P call T.er (.mkf d f caps) = some e.er ∧ K e = some r := by
  simp only [tstepK, cond_eq_ite, Option.ite_none_right_eq_some] at h
  refine ⟨_, ?_, h.2⟩
  simp only [stepD]
  rw [if_pos, ← getWs_er]
  · simp only [TDe.er, er_clo]
  · rw [← getWs_er, List.all_map]
    refine Eq.trans (congrArg (List.all _) (funext fun c => ?_)) h.1
    cases c <;> simp [TV.er] <;> rfl

theorem step_mks {d sz : Nat} {U : TypeId} {zero : List Value} {l c : Opd} {lo : Bool} (h : tstepK P sig T ty (.mks d U sz zero l c lo) K = some r) : ∃ e, stepD P call T.er (.mks d U sz zero l c lo) = some e.er ∧ K e = some r := by
  simp only [tstepK] at h
  split at h
  · rename_i z ez
    have e1 := of_er ez
    rw [zero_er'] at e1
    obtain ⟨n, h1, h⟩ := natK_ok h
    obtain ⟨m, h2, h⟩ := natK_ok h
    rw [getT_er] at h1 h2
    simp only [cond_eq_ite, Option.ite_none_right_eq_some, Bool.and_eq_true, nbeq_iff, Bool.not_eq_true'] at h
    obtain ⟨rfl, k1, ⟨k2, k3⟩, h⟩ := h
    have k3' : sz ≠ 0 := by
      intro e
      rw [nbeq_iff.2 e] at k3
      simp at k3
    cases lo with
    | true =>
      simp only [if_true] at h
      refine ⟨_, ?_, h⟩
      simp only [stepD, h1, h2, Option.bind_some]
      rw [if_pos ⟨trivial, k1, k2, k3'⟩]
      simp [TDe.er, TR.er, TV.er, e1]
    | false =>
      simp only [Bool.false_eq_true, if_false] at h
      refine ⟨_, ?_, h⟩
      simp only [stepD, h1, h2, Option.bind_some]
      rw [if_pos ⟨trivial, k1, k2, k3'⟩]
      simp [TDe.er, TV.er, e1]
  · simp at h

theorem tstep_ok {o : AOp} (hS : ∀ S ∈ sig, SmOK call S) (h : tstepK P sig T ty o K = some r) : ∃ e, stepD P call T.er o = some e.er ∧ K e = some r := by
  cases o with
  | mv => exact step_mv h
  | nilc => exact step_nilc h
  | pick => exact step_pick h
  | alloc => exact step_alloc h
  | box => exact step_box h
  | build => exact step_build h
  | bsl => exact step_bsl h
  | ld => exact step_ld h
  | st => exact step_st h
  | bin => exact step_bin h
  | un => exact step_un h
  | conv => exact step_conv h
  | slc => exact step_slc h
  | fad => exact step_fad h
  | iad => exact step_iad h
  | idx => exact step_idx h
  | ext => exact step_ext h
  | call => exact step_call hS h
  | callv => exact step_callv hS h
  | len => exact step_len h
  | app => exact step_app h
  | mnx => exact step_mnx h
  | mkf => exact step_mkf h
  | mks => exact step_mks h

end Go.AM
