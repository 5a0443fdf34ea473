/- Typed code is code; typed functions are functions. -/
import Derived.Test.YtnglcmfgkcdgcaaGreatAmT6
import Derived.Test.YtnglcmfgkcdgcaaGreatAmC2
namespace Go.AM
open Go
set_option linter.unusedVariables false
set_option linter.unusedSimpArgs false

variable {P : Program} {sig : List Sm} {call : Call} {T : TSt} {β : Type} {r : β}

theorem noMem_er (T : TSt) : T.noMem.er = T.er.noMem := rfl

theorem oneK_ok {o : GOp} {K : TDe → Option β} (hS : ∀ S ∈ sig, SmOK call S) (h : oneK P sig T o K = some r) : ∃ e, oneD P call T.er o = some e.er ∧ K e = some r := by
  unfold oneK at h
  cases hp : o.pu with
  | true =>
    rw [hp] at h
    simp only [cond_true] at h
    obtain ⟨e, h1, h2⟩ := tstep_ok hS h
    unfold putK at h2
    split at h2
    · rename_i v src
      refine ⟨_, ?_, h2⟩
      rw [noMem_er] at h1
      simp only [oneD, hp, if_true, h1, Option.bind_some, TDe.er, isPut]
    · simp at h2
  | false =>
    rw [hp] at h
    simp only [cond_false] at h
    obtain ⟨e, h1, h2⟩ := tstep_ok hS h
    exact ⟨e, by simp only [oneD, hp, Bool.false_eq_true, if_false, h1], h2⟩

theorem know_er {n : Nat} {b : Bool} (h : T.fr.get n = .val (.bool b)) : (T.know n b).er = T.er := by
  simp only [TSt.know, TSt.er, St.mk.injEq, and_true]
  funext i
  rw [get_set]
  split
  · rename_i e
    rw [e, h]
  · rfl

theorem knowO_er {x : Opd} {b : Bool} (h : getT T.fr x = .val (.bool b)) : (T.knowO x b).er = T.er := by
  cases x with
  | t n => exact know_er h
  | _ => rfl

theorem gK_ok {o : GOp} {K : TSt → TDe → Option β} (hS : ∀ S ∈ sig, SmOK call S) (h : gK P sig T o K = some r) : ∃ T' e, T'.er = T.er ∧ gD P call T.er o = some e.er ∧ K T' e = some r := by
  have hskip : (De.put skipV none) = (TDe.put (.tup []) none).er := rfl
  unfold gK at h
  split at h
  · rename_i hg
    obtain ⟨e, h1, h2⟩ := oneK_ok hS h
    exact ⟨T, e, rfl, by simp only [gD, hg, h1], h2⟩
  · rename_i g b hg
    split at h
    · rename_i t ht
      have hf : T.er.fr g = .val (.bool t) := by rw [tfr, ht]; rfl
      cases b with
      | true =>
        simp only at h
        split at h
        · rename_i e
          subst e
          have hk := know_er ht
          obtain ⟨δ, h1, h2⟩ := oneK_ok hS h
          rw [hk] at h1
          exact ⟨_, δ, hk, by simp only [gD, hg, hf, if_true, h1], h2⟩
        · rename_i e
          have e' : t = false := by simpa using e
          subst e'
          exact ⟨_, _, know_er ht, by simp only [gD, hg, hf, e, if_false]; rfl, h⟩
      | false =>
        simp only at h
        split at h
        · rename_i e
          subst e
          exact ⟨_, _, know_er ht, by simp only [gD, hg, hf, Bool.true_eq_false, if_false]; rfl, h⟩
        · rename_i e
          have e' : t = false := by simpa using e
          subst e'
          have hk := know_er ht
          obtain ⟨δ, h1, h2⟩ := oneK_ok hS h
          rw [hk] at h1
          exact ⟨_, δ, hk, by simp only [gD, hg, hf, if_true, h1], h2⟩
    · rename_i ht
      have hf : T.er.fr g = .tup [] := by rw [tfr, ht]; rfl
      exact ⟨T, _, rfl, by simp only [gD, hg, hf]; rfl, h⟩
    · simp at h

theorem regK_ok : ∀ {ops : List GOp} {T : TSt} {K : TSt → Option β}, (∀ S ∈ sig, SmOK call S) → regK P sig ops T K = some r → ∃ T', steps P call T.er ops = some T'.er ∧ K T' = some r
  | [], T, K, _, h => ⟨T, rfl, h⟩
  | o :: q, T, K, hS, h => by
    simp only [regK] at h
    obtain ⟨T1, e, h0, h1, h2⟩ := gK_ok hS h
    obtain ⟨T', h3, h4⟩ := regK_ok hS h2
    rw [ap_er, h0] at h3
    exact ⟨T', by simp only [steps, gstep, h1, Option.map_some, Option.bind_some, h3], h4⟩

theorem forget_er (T : TSt) (d : Nat) : (T.forget d).er = T.er.forget d := by
  simp only [TSt.forget, St.forget, TSt.er, St.mk.injEq, and_true]
  refine ⟨funext fun i => ?_, funext fun i => ?_⟩
  · rw [get_amap _ rfl, kill_er]
  · simp only [upd, aget_adel]
    split <;> rfl

theorem forgets_er : ∀ (ops : List GOp) (T : TSt), (forgetsT T ops).er = forgets T.er ops
  | [], T => rfl
  | o :: q, T => by
    simp only [forgetsT, forgets]
    split
    · rename_i d hd
      rw [hd, forgets_er q, forget_er]
    · rename_i hd
      rw [hd, forgets_er q]

theorem frzVK_ok {l : Nat} {o : TR} {v : TV} {K : TV → Option β} (hp : ∀ row ∈ o.er, row.map wk1 = row) (h : frzVK l o v K = some r) : ∃ u : TV, u.er = frzV l o.er v.er ∧ K u = some r := by
  unfold frzVK at h
  split at h
  · rename_i s off len
    simp only [nbeq, cond_eq_ite, decide_eq_true_eq] at h
    split at h
    · rename_i e
      obtain ⟨t, ys, h1, h2, h3, h4⟩ := winK_ok h
      refine ⟨_, ?_, h4⟩
      simp only [frzV, TV.er, if_pos e, if_pos h1, h2, rows_wk1]
    · rename_i e
      exact ⟨_, by simp only [frzV, TV.er, if_neg e], h⟩
  · rename_i hv
    refine ⟨_, ?_, h⟩
    rw [kill_er]
    cases v with
    | larr a b c => exact absurd rfl (hv a b c)
    | _ => rfl

theorem frzFK_ok {l : Nat} {o : TR} (hp : ∀ row ∈ o.er, row.map wk1 = row) : ∀ {q : TFr} {K : TFr → Option β}, frzFK l o q K = some r → ∃ q' : TFr, (∀ i, (q'.get i).er = frzV l o.er (q.get i).er) ∧ K q' = some r
  | [], K, h => ⟨[], fun i => rfl, h⟩
  | (j, v) :: q, K, h => by
    simp only [frzFK] at h
    obtain ⟨u, h1, h2⟩ := frzVK_ok hp h
    obtain ⟨q', h3, h4⟩ := frzFK_ok hp h2
    refine ⟨_, fun i => ?_, h4⟩
    have := h3 i
    simp only [TFr.get] at this ⊢
    simp only [aget, nbeq, cond_eq_ite, decide_eq_true_eq]
    split
    · exact h1
    · exact this

theorem frzK_ok {l : Nat} {K : TSt → Option β} (h : frzK T l K = some r) : ∃ T', T.er.freeze l = some T'.er ∧ K T' = some r := by
  unfold frzK at h
  split at h
  case h_2 => simp at h
  rename_i o ho
  split at h
  case h_2 => simp at h
  rename_i t xs
  simp only [cond_eq_ite, Option.ite_none_right_eq_some] at h
  obtain ⟨hp, h⟩ := h
  obtain ⟨q', h1, h2⟩ := frzFK_ok (fun row hr => by
    simp only [TR.er, List.mem_map] at hr
    obtain ⟨y, _, rfl⟩ := hr
    exact row_wk1 t y) h
  refine ⟨_, ?_, h2⟩
  have hlo : T.er.lo l = some (xs.map t.row) := by simp [TSt.er, ho, TR.er]
  simp only [St.freeze, hlo, Option.bind_some]
  rw [if_pos (rows_pure hp xs)]
  simp only [TSt.er, Option.some.injEq, St.mk.injEq, and_true]
  refine ⟨funext fun i => (h1 i).symm, funext fun i => ?_⟩
  simp only [upd, aget_adel]
  split <;> rfl

theorem out_ok : ∀ {outs : List (Ex × KS)} {e : Ex} {T : TSt} {o : outDen outs} {K : Ex → TSt → Option β}, outPut outs e T = some o → outK outs o K = some r →
    ∃ T', keepX outs (e, T.er) = some (e, T'.er) ∧ K e T' = some r
  | [], e, T, o, K, h, _ => by simp [outPut] at h
  | [(x, k)], e, T, o, K, h, hK => by
    simp only [outPut, Option.ite_none_right_eq_some] at h
    obtain ⟨rfl, h⟩ := h
    exact ⟨_, by simp only [keepX, outOf, if_true, Option.map_some, ks_keep h], hK⟩
  | (x, k) :: p :: q, e, T, o, K, h, hK => by
    simp only [outPut] at h
    split at h
    · rename_i hx
      subst hx
      simp only [Option.map_eq_some_iff] at h
      obtain ⟨y, h, rfl⟩ := h
      exact ⟨_, by simp only [keepX, outOf, if_true, Option.map_some, ks_keep h], hK⟩
    · rename_i hx
      simp only [Option.map_eq_some_iff] at h
      obtain ⟨y, h, rfl⟩ := h
      obtain ⟨T', h1, h2⟩ := out_ok (K := K) h hK
      refine ⟨T', ?_, h2⟩
      rw [← h1]
      simp only [keepX, outOf, if_neg hx]

theorem codeK_ok {L : Nat} (hS : ∀ S ∈ sig, SmOK call S) : ∀ (c : AC) {β : Type} {r : β} {T : TSt} {K : Ex → TSt → Option β}, codeK P sig L c T K = some r → ∃ ex T', exec P call L c T.er = some (ex, T'.er) ∧ K ex T' = some r := by
  intro c
  induction c with
  | frz l b ih =>
    intro β r T K h
    simp only [codeK] at h
    obtain ⟨T1, h1, h2⟩ := frzK_ok h
    obtain ⟨ex, T', h3, h4⟩ := ih h2
    exact ⟨ex, T', by simp only [exec, h1, Option.bind_some, h3], h4⟩
  | skip => intro β r T K h; exact ⟨_, _, rfl, h⟩
  | reg ops dr =>
    intro β r T K h
    simp only [codeK] at h
    obtain ⟨T', h1, h2⟩ := regK_ok hS h
    refine ⟨_, T', ?_, h2⟩
    cases dr with
    | true => simp only [cond_true, forgets_er] at h1; simp only [exec, if_true, h1, Option.map_some]
    | false => simp only [cond_false] at h1; simp only [exec, Bool.false_eq_true, if_false, h1, Option.map_some]
  | seq a b iha ihb =>
    intro β r T K h
    simp only [codeK] at h
    obtain ⟨ex, T1, h1, h2⟩ := iha h
    cases ex with
    | normal =>
      obtain ⟨ex', T2, h3, h4⟩ := ihb h2
      exact ⟨ex', T2, by simp only [exec, h1, Option.bind_some, if_true, h3], h4⟩
    | exit id => exact ⟨_, T1, by simp only [exec, h1, Option.bind_some, reduceCtorEq, if_false], h2⟩
    | ret => exact ⟨_, T1, by simp only [exec, h1, Option.bind_some, reduceCtorEq, if_false], h2⟩
  | cond c a b iha ihb =>
    intro β r T K h
    simp only [codeK] at h
    split at h
    · rename_i t e
      have hg : getO T.er.fr c = .val (.bool t) := by rw [← getT_er, e]; rfl
      split at h
      · rename_i ht
        subst ht
        obtain ⟨ex, T', h1, h2⟩ := iha h
        rw [knowO_er e] at h1
        exact ⟨ex, T', by simp only [exec, hg, if_true, h1], h2⟩
      · rename_i ht
        have e' : t = false := by simpa using ht
        subst e'
        obtain ⟨ex, T', h1, h2⟩ := ihb h
        rw [knowO_er e] at h1
        exact ⟨ex, T', by simp only [exec, hg, Bool.false_eq_true, if_false, h1], h2⟩
    · simp at h
  | block id b ih =>
    intro β r T K h
    simp only [codeK] at h
    obtain ⟨ex, T1, h1, h2⟩ := ih h
    cases ex with
    | normal => exact ⟨_, T1, by simp only [exec, h1, Option.map_some, reduceCtorEq, if_false], h2⟩
    | ret => exact ⟨_, T1, by simp only [exec, h1, Option.map_some, reduceCtorEq, if_false], h2⟩
    | exit i =>
      simp only [nbeq, cond_eq_ite, decide_eq_true_eq] at h2
      split at h2
      · rename_i hi
        subst hi
        exact ⟨_, T1, by simp only [exec, h1, Option.map_some, if_true], h2⟩
      · rename_i hi
        exact ⟨_, T1, by simp only [exec, h1, Option.map_some, Ex.exit.injEq, hi, if_false], h2⟩
  | loop H outs b ih =>
    intro β r T K h
    simp only [codeK] at h
    split at h
    case h_2 => simp at h
    rename_i v hv
    simp only [Option.bind_eq_some_iff] at h
    obtain ⟨o, h1, h2⟩ := h
    have key : ∀ (n : Nat) (v : H.den), iterS (fun v => codeK P sig L b (H.enc v) fun e T => match e with | .normal => (match H.dec true T with | some w => some (.inl w) | none => none) | e => (match outPut outs e T with | some w => some (.inr w) | none => none)) n v = some o →
        ∃ e T', iter (fun s => (exec P call L b s).bind (keepX ((.normal, H) :: outs))) n (H.enc v).er = some (e, T'.er) ∧ K e T' = some r := by
      intro n
      induction n with
      | zero => intro v h; simp [iterS] at h
      | succ n ihn =>
        intro v h
        simp only [iterS, Option.bind_eq_some_iff] at h
        obtain ⟨s, hs, h⟩ := h
        obtain ⟨ex, T1, k1, k2⟩ := ih hs
        cases ex with
        | normal =>
          simp only at k2
          split at k2
          · rename_i w hw
            simp only [Option.some.injEq] at k2
            subst k2
            obtain ⟨e, T', k3, k4⟩ := ihn w h
            refine ⟨e, T', ?_, k4⟩
            simp only [iter, k1, Option.bind_some, keepX, outOf, if_true, Option.map_some, ← ks_keep hw, k3]
          · simp at k2
        | exit i =>
          simp only at k2
          split at k2
          · rename_i w hw
            simp only [Option.some.injEq] at k2
            subst k2
            simp only [Sum.elim_inr, Option.some.injEq] at h
            subst h
            obtain ⟨T', k3, k4⟩ := out_ok hw h2
            refine ⟨_, T', ?_, k4⟩
            have k5 : keepX ((Ex.normal, H) :: outs) (Ex.exit i, T1.er) = keepX outs (Ex.exit i, T1.er) := by simp [keepX, outOf]
            simp only [iter, k1, Option.bind_some, k5, k3, reduceCtorEq, if_false]
          · simp at k2
        | ret =>
          simp only at k2
          split at k2
          · rename_i w hw
            simp only [Option.some.injEq] at k2
            subst k2
            simp only [Sum.elim_inr, Option.some.injEq] at h
            subst h
            obtain ⟨T', k3, k4⟩ := out_ok hw h2
            refine ⟨_, T', ?_, k4⟩
            have k5 : keepX ((Ex.normal, H) :: outs) (Ex.ret, T1.er) = keepX outs (Ex.ret, T1.er) := by simp [keepX, outOf]
            simp only [iter, k1, Option.bind_some, k5, k3, reduceCtorEq, if_false]
          · simp at k2
    obtain ⟨e, T', k1, k2⟩ := key L v h1
    rw [ks_keep hv] at k1
    exact ⟨e, T', by simp only [exec]; exact k1, k2⟩
  | scope outs b ih =>
    intro β r T K h
    simp only [codeK, Option.bind_eq_some_iff] at h
    obtain ⟨o, h1, h2⟩ := h
    obtain ⟨ex, T1, k1, k2⟩ := ih h1
    obtain ⟨T', k3, k4⟩ := out_ok k2 h2
    exact ⟨ex, T', by simp only [exec, k1, Option.bind_some, k3], k4⟩
  | exit id => intro β r T K h; exact ⟨_, _, rfl, h⟩
  | ret => intro β r T K h; exact ⟨_, _, rfl, h⟩

theorem resK_ok {x : RV} {K : TV → Option β} (h : resK T x K = some r) : ∃ v, resOf T.er x = some v.er ∧ K v = some r := by
  cases x with
  | tmp t => exact ⟨_, rfl, h⟩
  | cell t U n ag => exact loadT_ok h

theorem resAllK_ok : ∀ {xs : List RV} {K : List TV → Option β}, resAllK T xs K = some r → ∃ vs : List TV, mapO (resOf T.er) xs = some (vs.map TV.er) ∧ K vs = some r
  | [], K, h => ⟨[], rfl, h⟩
  | x :: q, K, h => by
    simp only [resAllK] at h
    obtain ⟨v, h1, h2⟩ := resK_ok h
    obtain ⟨vs, h3, h4⟩ := resAllK_ok h2
    exact ⟨v :: vs, by simp [mapO, h1, h3], h4⟩

/-- Results as one value. -/
def resD : List DV → DV
  | [d] => d
  | ds => .tup ds

theorem resT_er {fr : TFr} {ds : List TV} (h : ∀ i, i < ds.length → (fr.get i).er = ((ds[i]?).getD .any).er) : (resT fr ds.length).er = resD (ds.map TV.er) := by
  match ds, h with
  | [d], h => simpa [resT, resD] using h 0 (by simp)
  | [], h => rfl
  | a :: b :: q, h =>
    have : (resT fr (a :: b :: q).length) = .tup ((List.range (a :: b :: q).length).map fr.get) := by
      unfold resT
      split
      · rename_i e; simp at e
      · rfl
    rw [this, er_tup]
    show DV.tup _ = DV.tup ((a :: b :: q).map TV.er)
    refine congrArg DV.tup (List.ext_getElem? fun i => ?_)
    rw [List.getElem?_map, List.getElem?_map, List.getElem?_map]
    by_cases hi : i < (a :: b :: q).length
    · rw [List.getElem?_range hi]
      have := h i hi
      rw [List.getElem?_eq_getElem hi] at this ⊢
      simpa using this
    · have e1 : (List.range (a :: b :: q).length)[i]? = none := List.getElem?_eq_none (by simp only [List.length_range]; omega)
      have e2 : (a :: b :: q)[i]? = none := List.getElem?_eq_none (by omega)
      rw [e1, e2]
      rfl

/-- An entry of a table: a function, the functions among its arguments, its code. -/
structure TE where
  f : FuncId
  cl : List (Nat × FuncId)
  af : AF

def tblOf : List TE → FuncId → List DV → Option AF
  | [], _, _ => none
  | e :: r, f, args => bif Nat.beq e.f f && e.cl.all (fun p => match args[p.1]? with | some (.clo g _) => Nat.beq g p.2 | _ => false) then some e.af else tblOf r f args

def FMs (P : Program) : List TE → Prop
  | [] => True
  | e :: r => FM P e.f e.af ∧ FMs P r

theorem tblOf_ok : ∀ {l : List TE}, FMs P l → ∀ f args af, tblOf l f args = some af → FM P f af
  | [], _, f, args, af, h => by simp [tblOf] at h
  | e :: r, hl, f, args, af, h => by
    simp only [tblOf, cond_eq_ite] at h
    split at h
    · rename_i hc
      simp only [Bool.and_eq_true, nbeq_iff] at hc
      simp only [Option.some.injEq] at h
      obtain ⟨rfl, _⟩ := hc
      subst h
      exact hl.1
    · exact tblOf_ok hl.2 f args af h

theorem fun_ok {tbl : FuncId → List DV → Option AF} {L k : Nat} {f : FuncId} {af : AF} {np nres : Nat} {kin kout : KS} {R : Type} {un : R → kout.den} {pr : kout.den → R} {fn : kin.den → Option R}
    (haf : ∀ v : kin.den, tbl f ((List.range np).map fun i => ((kin.enc v).fr.get i).er) = some af) (hnp : af.nparams = np) (hS : ∀ S ∈ sig, SmOK (den P tbl L k) S) (hun : ∀ y, un (pr y) = y) (hgood : kin.args np = true)
    (hfn : ∀ v x, fn v = some x → funK P sig L af kin nres kout pr v = some x) : SmOK (den P tbl L (k + 1)) ⟨f, np, kin, nres, kout, R, un, fn⟩ := by
  refine ⟨hgood, fun v x hx => ?_⟩
  have h := hfn v x hx
  subst hnp
  simp only [funK, cond_eq_ite, Option.ite_none_right_eq_some, Bool.and_eq_true] at h
  obtain ⟨⟨_, hko⟩, h⟩ := h
  obtain ⟨ex, T1, h1, h2⟩ := codeK_ok hS _ h
  have hent : (⟨args0 ((List.range af.nparams).map fun i => ((kin.enc v).fr.get i).er), fun _ => none, (kin.enc v).gl.er⟩ : St) = (kin.enc v).er := by
    simp only [TSt.er, St.mk.injEq, and_true]
    refine ⟨funext fun i => ?_, funext fun i => ?_⟩
    · simp only [args0, List.getElem?_map]
      by_cases hi : i < af.nparams
      · rw [List.getElem?_range hi]
        rfl
      · have e1 : (List.range af.nparams)[i]? = none := List.getElem?_eq_none (by simp; omega)
        rw [e1, ks_hi hgood v (by omega)]
        rfl
    · rw [ks_nolo hgood v]
      rfl
  have fin : (resAllK T1 af.res fun ds => if ((Nat.beq ds.length nres = true) ∧ (match ds with | [d] => resNoLocT d | ds => ds.all okMultiT) = true) then
      (match kout.dec false ⟨frameOf 0 (match ds with | [d] => [d] | ds => ds.map wkT), [], T1.gl⟩ with | some y => some (pr y) | none => none) else none) = some x →
      (results T1.er af.res).map (fun d => (d, T1.er.gl)) = some ((resT (kout.enc (un x)).fr nres).er, (kout.enc (un x)).gl.er) := by
    intro h
    obtain ⟨ds, h3, h4⟩ := resAllK_ok h
    simp only [Option.ite_none_right_eq_some, nbeq_iff] at h4
    obtain ⟨⟨hl, hc⟩, h4⟩ := h4
    split at h4
    case h_2 => simp at h4
    rename_i y hy
    simp only [Option.some.injEq] at h4
    subst h4
    rw [hun]
    have hg := ks_gl hy
    simp only at hg
    rw [hg]
    have hres : ∀ ds' : List TV, ds'.length = nres → kout.dec false ⟨frameOf 0 ds', [], T1.gl⟩ = some y → (resT (kout.enc y).fr nres).er = resD (ds'.map TV.er) := by
      intro ds' hl' hy'
      subst hl'
      refine resT_er fun i hi => ?_
      rw [ks_arg hy' hko, if_pos hi]
      have := frameOf_get (as := ds') (n := 0) (i := i)
      rw [Nat.zero_add] at this
      rw [this]
    simp only [results, h3, Option.bind_some]
    match ds, hl, hc, hy with
    | [d], hl, hc, hy =>
      simp only at hc hy
      rw [← resNoLoc_er] at hc
      have := hres [d] hl hy
      simp only [List.map_cons, List.map_nil, resD] at this
      simp only [List.map_cons, List.map_nil, hc, if_true, Option.map_some, this]
      rfl
    | [], hl, hc, hy =>
      have := hres [] hl hy
      rw [this]
      rfl
    | a :: b :: q, hl, hc, hy =>
      simp only at hc hy
      have hres' := hres _ (by simpa using hl) hy
      simp only [List.map_cons, resD] at hres'
      have hall : ((a :: b :: q).map TV.er).all okMulti = true := by
        rw [← hc, List.all_map]
        congr 1
        funext c
        exact okMulti_er c
      simp only [List.map_cons] at hall ⊢
      rw [if_pos hall, hres']
      simp only [List.map_map, Function.comp_def, wkT_er, Option.map_some]
      rfl
  simp only [den, haf v, Option.bind_some, List.length_map, List.length_range, if_true]
  rw [hent, h1]
  simp only [Option.bind_some]
  cases ex with
  | exit i => simp at h2
  | normal => exact fin h2
  | ret => exact fin h2

end Go.AM
