/- Typed operations are operations. -/
import Derived.Test.YtnglcmfgkcdgcaaGreatAmT2
namespace Go.AM
open Go
set_option linter.unusedVariables false
set_option linter.unusedSimpArgs false

variable {P : Program} {sig : List Sm} {call : Call} {T : TSt} {β : Type} {r : β}

def TDe.er : TDe → De
  | .put v src => .put v.er src
  | .loc rows v => .loc rows.er v.er
  | .glo rows => .glo rows.er
  | .wr p rows src v => .wr p.er rows.er src (v.map TV.er)
  | .opn v gl => .opn v.er gl.er

theorem tfr (T : TSt) (i : Nat) : T.er.fr i = (T.fr.get i).er := rfl

theorem fr_aput (f : TFr) (d : Option Nat) (v : TV) : (fun i => (TFr.get (aput f d v) i).er) = putO (fun i => (f.get i).er) d v.er := by
  cases d with
  | none => rfl
  | some d =>
    funext i
    simp only [aput, putO, upd, get_set]
    split <;> rfl

theorem fr_wkA (f : TFr) (src : Option Nat) : (fun i => (TFr.get (wkA f src) i).er) = wkO (fun i => (f.get i).er) src := by
  cases src with
  | none => rfl
  | some d =>
    funext i
    simp only [wkA, wkO, upd, get_set]
    split
    · rw [wkT_er]
    · rfl

theorem kill_er (d : Nat) (v : TV) : (killT d v).er = kill d v.er := by
  cases v with
  | lref s i c => simp only [killT, kill, TV.er, nbeq, cond_eq_ite, decide_eq_true_eq]; split <;> rfl
  | larr s i c => simp only [killT, kill, TV.er, nbeq, cond_eq_ite, decide_eq_true_eq]; split <;> rfl
  | clo f caps =>
    simp only [killT, kill, er_clo, cond_eq_ite, List.any_map]
    refine Eq.trans (apply_ite TV.er _ _ _) ?_
    refine ite_congr (congrArg (· = true) (congrArg caps.any (funext fun c => ?_))) (fun _ => rfl) (fun _ => er_clo _ _)
    cases c <;> simp [TV.er, nbeq] <;> rfl
  | _ => simp [killT, kill, TV.er]

theorem lo_aset (l : List (Nat × TR)) (d : Nat) (x : TR) : (fun i => (aget (aset l d x) i).map TR.er) = upd (fun i => (aget l i).map TR.er) d (some x.er) := by
  funext i
  simp only [upd, aget_aset]
  split <;> rfl

theorem setOb_er (T : TSt) (p : TV) (rows : TR) : (T.setOb p rows).er = AM.setOb T.er p.er rows.er := by
  cases p with
  | ref g i c => simp only [TSt.setOb, AM.setOb, TV.er, TSt.er, TGl.er, lo_aset]
  | lref g i c => simp only [TSt.setOb, AM.setOb, TV.er, TSt.er, TGl.er, lo_aset]
  | _ => simp only [TSt.setOb, AM.setOb, TV.er]

theorem setObT_fr (T : TSt) (p : TV) (rows : TR) : (T.setOb p rows).fr = T.fr := by
  cases p <;> rfl

theorem ap_er (T : TSt) (d : Option Nat) (e : TDe) : (T.ap d e).er = T.er.ap d e.er := by
  cases e with
  | put v src =>
    simp only [TSt.ap, St.ap, TDe.er, TSt.er, fr_aput, St.mk.injEq, and_true, and_self]
    rw [fr_wkA]
  | loc rows v =>
    simp only [TSt.ap, St.ap, TDe.er, TSt.er, fr_aput, lo_aset, St.mk.injEq, and_true, and_self]
    congr 1
    funext i
    rw [get_amap _ rfl, kill_er]
  | glo rows =>
    simp only [TSt.ap, St.ap, TDe.er, TSt.er, fr_aput, TGl.er, lo_aset, TV.er]
  | wr p rows src v =>
    simp only [TSt.ap, St.ap, TDe.er]
    rw [← setOb_er]
    cases v with
    | none => simp only [TSt.er, Option.map_none, fr_wkA, setObT_fr]
    | some v => simp only [TSt.er, Option.map_some, fr_aput, fr_wkA, setObT_fr]
  | opn v gl => simp only [TSt.ap, St.ap, TDe.er, TSt.er, fr_aput]

theorem oneT_er (v : Value) : (oneT v).er = oneV v := by
  unfold oneT oneV
  split <;> simp [TV.er]

theorem tvOf_er (v : Value) : (tvOf v).er = dvOf v := by
  cases v with
  | agg vs => simp [tvOf, dvOf, er_agg, Function.comp_def, oneT_er]
  | _ => simp only [tvOf, dvOf, oneT_er]

theorem getT_er (T : TSt) (x : Opd) : (getT T.fr x).er = getO T.er.fr x := by
  cases x with
  | t n => rfl
  | k v => exact tvOf_er v
  | f n => simp [getT, getO, TV.er, ers_eq]

theorem getTW_er (T : TSt) (x : Opd) : (getTW T.fr x).er = getW T.er.fr x := by
  cases x with
  | t n => exact wkT_er _
  | k v => exact tvOf_er v
  | f n => simp [getTW, getW, TV.er, ers_eq]

theorem pure_er (v : TV) : pureC v.er = pureT v := by
  cases v with
  | clo f caps =>
    simp only [er_clo, pureC, pureT, List.all_map]
    congr 1
    funext c
    cases c <;> simp [TV.er]
  | val x => rfl
  | _ => simp [TV.er, pureC, pureT]

theorem cell_er (v : TV) : cellC v.er = cellCT v := by
  cases v with
  | ref => rfl
  | arr => rfl
  | val x => exact pure_er (.val x)
  | clo f caps => have := pure_er (.clo f caps); rw [er_clo] at this ⊢; exact this
  | _ => simp [TV.er, cellC, cellCT, pureC, pureT]

theorem all_pure (cs : List TV) : (cs.map TV.er).all pureC = cs.all pureT := by
  simp [List.all_map, Function.comp_def, pure_er]
theorem all_cell (cs : List TV) : (cs.map TV.er).all cellC = cs.all cellCT := by
  simp [List.all_map, Function.comp_def, cell_er]

theorem cells_of (v : TV) : (cellsT v).map TV.er = cellsD v.er := by
  cases v <;> simp [cellsT, cellsD, TV.er, ers_eq]

theorem rowK_ok {o : TR} {i : Nat} {K : List TV → Option β} (h : rowK o i K = some r) : ∃ row, o.er[i]? = some (row.map TV.er) ∧ K row = some r := by
  unfold rowK at h
  cases o with
  | one cs =>
    cases i with
    | zero => exact ⟨cs, by simp [TR.er, ers_eq], h⟩
    | succ i => simp at h
  | many t xs =>
    simp only [Option.bind_eq_some_iff] at h
    obtain ⟨x, h1, h2⟩ := h
    exact ⟨_, by simp [TR.er, h1, cells_er], h2⟩

theorem lookT_ok {v : TV} {x : TR × Nat × Nat} (h : lookT T v = some x) : look T.er v.er = some (x.1.er, x.2.1, x.2.2) := by
  cases v <;> simp only [lookT, reduceCtorEq, Option.map_eq_some_iff] at h
  · obtain ⟨o, h1, rfl⟩ := h
    simp [look, TV.er, TSt.er, TGl.er, h1]
  · obtain ⟨o, h1, rfl⟩ := h
    simp [look, TV.er, TSt.er, h1]

theorem setRow_ok {o o' : TR} {i : Nat} {row : List TV} {old : List DV} (h : setRow o i row = some o') (hi : o.er[i]? = some old) : o'.er = o.er.set i (row.map TV.er) := by
  cases o with
  | one cs =>
    simp only [setRow, Option.some.injEq] at h
    subst h
    cases i with
    | zero => simp [TR.er, ers_eq]
    | succ i => simp [TR.er] at hi
  | many t xs =>
    simp only [setRow, Option.map_eq_some_iff] at h
    obtain ⟨x, h1, rfl⟩ := h
    simp [TR.er, List.map_set, of_er h1]

theorem natK_ok {v : TV} {K : Nat → Option β} (h : natK v K = some r) : ∃ n, natOfD v.er = some n ∧ K n = some r := by
  unfold natK at h
  split at h
  · split at h
    · rename_i hn
      exact ⟨_, by simp [TV.er, natOfD, hn], h⟩
    · simp at h
  · simp at h

theorem optK_ok {d : Nat} {o : Option Opd} {K : Nat → Option β} (h : optK T.fr d o K = some r) : ∃ n, optN T.er.fr d o = some n ∧ K n = some r := by
  cases o with
  | none => exact ⟨d, rfl, h⟩
  | some x =>
    obtain ⟨n, h1, h2⟩ := natK_ok h
    exact ⟨n, by rw [getT_er] at h1; exact h1, h2⟩

theorem winK_ok {o : TR} {off len : Nat} {K : (t : Ty) → List t.den → Option β} (h : winK o off len K = some r) :
    ∃ t, ∃ ys : List t.den, off + len ≤ o.er.length ∧ (o.er.drop off).take len = ys.map t.row ∧ ys.length = len ∧ K t ys = some r := by
  unfold winK at h
  split at h
  · rename_i t xs
    simp only [Option.ite_none_right_eq_some] at h
    refine ⟨t, _, by simpa [TR.er] using h.1, by simp [TR.er, List.map_take, List.map_drop], by simp; omega, h.2⟩
  · simp at h

theorem rowsK_ok {v : TV} {K : (t : Ty) → List t.den → Option β} (h : rowsK T v K = some r) : ∃ t, ∃ ys : List t.den, rowsOf T.er v.er = some (ys.map t.row) ∧ K t ys = some r := by
  cases v <;> simp only [rowsK, reduceCtorEq, Option.bind_eq_some_iff] at h
  · exact ⟨_, _, rfl, h⟩
  · obtain ⟨o, h1, h2⟩ := h
    obtain ⟨t, ys, h3, h4, _, h5⟩ := winK_ok h2
    exact ⟨t, ys, by simp [rowsOf, TV.er, TSt.er, TGl.er, h1, h3, h4], h5⟩
  · obtain ⟨o, h1, h2⟩ := h
    obtain ⟨t, ys, h3, h4, _, h5⟩ := winK_ok h2
    exact ⟨t, ys, by simp [rowsOf, TV.er, TSt.er, h1, h3, h4], h5⟩

theorem cap_ok : ∀ {t : Ty} {x : t.den}, t.cap = true → (t.row x).all (fun | .val _ => true | .lst _ _ => true | .pim _ => true | _ => false) = true
  | .unit, _, _ => rfl
  | .int _, _, _ => rfl
  | .bool, _, _ => rfl
  | .str, _, _ => rfl
  | .lst _, _, _ => rfl
  | .pim _, _, _ => rfl
  | .clo _ _, _, h => by simp [Ty.cap] at h
  | .pair a b, x, h => by
    simp only [Ty.cap, Bool.and_eq_true] at h
    simp only [Ty.row, List.all_append, cap_ok h.1, cap_ok h.2, Bool.and_self]

theorem pureB_ok : ∀ {t : Ty} {x : t.den}, t.pureB = true → (t.row x).all pureC = true
  | .unit, _, _ => rfl
  | .int _, _, _ => rfl
  | .bool, _, _ => rfl
  | .str, _, _ => rfl
  | .lst _, _, _ => rfl
  | .pim _, _, _ => rfl
  | .clo _ t, x, h => by
    simp only [Ty.pureB] at h
    simp only [Ty.row, List.all_cons, List.all_nil, Bool.and_true, pureC]
    exact cap_ok h
  | .pair a b, x, h => by
    simp only [Ty.pureB, Bool.and_eq_true] at h
    simp only [Ty.row, List.all_append, pureB_ok h.1, pureB_ok h.2, Bool.and_self]

end Go.AM
