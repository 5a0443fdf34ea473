/- Functions: a table of abstract functions answers as the program does. -/
import Derived.Test.YtnglcmfgkcdgcaaGreatAmA17
namespace Go.AM
open Go
set_option linter.unusedVariables false
set_option linter.unusedSimpArgs false

variable {w0 w w' : World} {Wr : Nat → Prop} {s s' : St} {gh gh' gh0 : Gh} {P : Program} {call : Call} {t t' : Nat → Value}
variable {N : Nat} {a : Act} {Q : Exit → Act → World → Prop} {o : Oper}

def RVM (P : Program) : ResultVar → RV → Prop
  | .tmp t, .tmp t' => t = t'
  | .cell a T, .cell a' T' n ag => a = a' ∧ ∃ ti dsc, P.underlying T = some dsc ∧ tyAg dsc = ag ∧ P.info? T = some ti ∧ ti.size = n
  | _, _ => False

def RVsM (P : Program) : List ResultVar → List RV → Prop
  | [], [] => True
  | x :: xs, y :: ys => RVM P x y ∧ RVsM P xs ys
  | _, _ => False

/-- A function is what the abstract one says. -/
def FM (P : Program) (f : FuncId) (af : AF) : Prop :=
  ∃ fn c, P.funcs[f]? = some fn ∧ fn.body = some c ∧ (fn.name == "runtime.NumGoroutine") = false ∧ af.nparams ≤ fn.ntmps ∧ RVsM P fn.results.toList af.res ∧ CM P fn.ntmps c af.body

def resSem (a : Array Value) : ResultVar → Sem Value
  | .tmp t => pure (a.getD t undef)
  | .cell x t => do loadVar t (← asAddr (a.getD x undef))

theorem resOf_run (h : AI w0 gh0 Wr N s gh a w) {x : ResultVar} {y : RV} {d : DV} (hm : RVM P x y) (hs : resOf s y = some d) :
    ∃ v, (resSem a.tmps x).run P w = .ok v w ∧ ((∃ t, y = .tmp t ∧ d = s.fr t ∧ v = tm a t) ∨ SRep w gh none d v) := by
  cases x <;> cases y <;> simp only [RVM] at hm
  · subst hm
    simp only [resOf, Option.some.injEq] at hs
    exact ⟨_, rfl, .inl ⟨_, rfl, hs.symm, rfl⟩⟩
  · obtain ⟨rfl, ti, dsc, h1, h2, h3, h4⟩ := hm
    simp only [resOf] at hs
    obtain ⟨b, p, f, he, hcell, h5, hrep⟩ := loadD_rep h.inv (h.inv.slots _) hs
    have := run_loadVar' h1 h2 h3 h4 h5 hcell
    simp only [tm] at he
    exact ⟨_, by simp only [resSem, he, asAddr, Sem.run_bind]; simpa using this, .inr hrep⟩

theorem resOf_all (h : AI w0 gh0 Wr N s gh a w) : ∀ {xs : List ResultVar} {ys : List RV} {ds : List DV}, RVsM P xs ys → mapO (resOf s) ys = some ds →
    ∃ vs : List Value, (xs.mapM (resSem a.tmps)).run P w = .ok vs w ∧ vs.length = ds.length ∧ ds.length = ys.length ∧ ∀ (j : Nat) d v, ds[j]? = some d → vs[j]? = some v → (∃ t, ys[j]? = some (.tmp t) ∧ d = s.fr t ∧ v = tm a t) ∨ SRep w gh none d v
  | [], [], ds, _, hm => by
    simp only [mapO, Option.some.injEq] at hm
    subst hm
    exact ⟨[], by simp, rfl, rfl, fun j d v hd => by simp at hd⟩
  | x :: xs, y :: ys, ds, hR, hm => by
    obtain ⟨h1, h2⟩ := hR
    simp only [mapO, Option.bind_eq_some_iff, Option.map_eq_some_iff] at hm
    obtain ⟨d, hd, ds, hds, rfl⟩ := hm
    obtain ⟨v, hv, hrep⟩ := resOf_run h h1 hd
    obtain ⟨vs, hvs, hl, hl', hall⟩ := resOf_all h h2 hds
    refine ⟨v :: vs, by simp [List.mapM_cons, hv, hvs], by simp [hl], by simp [hl'], fun j d' v' hd' hv' => ?_⟩
    cases j with
    | zero =>
      simp only [List.getElem?_cons_zero, Option.some.injEq] at hd' hv' ⊢
      subst hd' hv'
      exact hrep
    | succ j =>
      simp only [List.getElem?_cons_succ] at hd' hv' ⊢
      exact hall j d' v' hd' hv'
  | [], _ :: _, _, hR, _ => hR.elim
  | _ :: _, [], _, hR, _ => hR.elim

theorem multi_rep {ℓ : Option Own} {d : DV} {v : Value} (ho : okMulti d = true) (h : SRep w gh ℓ d v) : noL (wk d) = true ∧ CRep w gh none (wk d) v := by
  cases d with
  | agg cs =>
    refine ⟨rfl, ?_⟩
    simp only [okMulti, List.all_eq_true] at ho
    obtain ⟨vs, rfl, h1, h2⟩ := h
    refine Rep.agg (by simpa using h1) (fun j c u hc hu => ?_)
    simp only [List.getElem?_map, Option.map_eq_some_iff] at hc
    obtain ⟨c0, hc0, rfl⟩ := hc
    exact (h2 j c0 u hc0 hu).2.pure (ho c0 (List.mem_of_getElem? hc0))
  | clo f caps =>
    refine ⟨rfl, ?_⟩
    simp only [okMulti, pureC, List.all_eq_true] at ho
    obtain ⟨vs, rfl, h1, h2⟩ := h
    refine Rep.clo h1 (fun j c u hc hu => ?_)
    have := ho c (List.mem_of_getElem? hc)
    have hcu := h2 j c u hc hu
    cases c <;> simp only [reduceCtorEq, Bool.false_eq_true] at this
    · exact hcu
    · rename_i b rows
      cases b with
      | false => exact hcu
      | true =>
        rcases hcu.2 with ⟨rfl, A, rfl⟩ | ⟨_, _, _, _, _, hx, _⟩
        · exact .nil A
        · simp at hx
    · exact hcu
  | lst b rows =>
    refine ⟨rfl, ?_⟩
    cases b with
    | true => exact h.1
    | false => exact h
  | val x => exact ⟨rfl, h⟩
  | pim x => exact ⟨rfl, h⟩
  | ref x y z => exact ⟨rfl, h⟩
  | arr x y z => exact ⟨rfl, h⟩
  | _ => simp [okMulti] at ho

/-- What a frame returns. -/
theorem results_run (h : AI w0 gh0 Wr N s gh a w) {fn : Func} {rs : List RV} {r : DV} (hm : RVsM P fn.results.toList rs) (hs : results s rs = some r) :
    ∃ v, (Go.results fn a.tmps).run P w = .ok v w ∧ lnames r = false ∧ ((∃ t, r = s.fr t ∧ v = tm a t) ∨ SRep w gh none r v) := by
  simp only [results, Option.bind_eq_some_iff] at hs
  obtain ⟨ds, hds, hs⟩ := hs
  obtain ⟨vs, hvs, hl, hl', hall⟩ := resOf_all h hm hds
  have hrun : (fn.results.mapM (resSem a.tmps)).run P w = .ok vs.toArray w := by
    rw [Array.mapM_eq_mapM_toList]
    simp [hvs]
  have hrun' : (Go.results fn a.tmps).run P w = .ok (if h : vs.toArray.size = 1 then vs.toArray[0] else .tuple vs.toArray) w := by
    have he : Go.results fn a.tmps = (fn.results.mapM (resSem a.tmps) >>= fun vs => pure (if h : vs.size = 1 then vs[0] else .tuple vs)) := by
      unfold Go.results
      refine congrArg (fun f => Array.mapM f fn.results >>= _) ?_
      funext x; cases x <;> rfl
    rw [he, Sem.run_bind, hrun]
    rfl
  refine ⟨_, hrun', ?_⟩
  split at hs
  · rename_i d
    simp only [Option.ite_none_right_eq_some, Option.some.injEq] at hs
    obtain ⟨h1, rfl⟩ := hs
    refine ⟨resNoLoc_lnames h1, ?_⟩
    obtain ⟨v, rfl⟩ : ∃ v, vs = [v] := by
      cases vs with
      | nil => simp at hl
      | cons v l => cases l with
        | nil => exact ⟨v, rfl⟩
        | cons => simp at hl
    · rcases hall 0 d v rfl rfl with ⟨t, _, e1, e2⟩ | e
      · exact .inl ⟨t, e1, by simpa using e2⟩
      · exact .inr (by simpa using e)
  · rename_i hne
    simp only [Option.ite_none_right_eq_some, Option.some.injEq] at hs
    obtain ⟨h1, rfl⟩ := hs
    refine ⟨rfl, .inr ?_⟩
    have hn1 : vs.toArray.size ≠ 1 := by
      intro hx
      simp only [List.size_toArray, hl] at hx
      cases ds with
      | nil => simp at hx
      | cons d l => cases l with
        | nil => exact hne d rfl
        | cons => simp at hx
    rw [dif_neg hn1]
    simp only [List.all_eq_true] at h1
    refine ⟨_, rfl, by simp [hl], fun j c u hc hu => ?_⟩
    simp only [List.getElem?_map, Option.map_eq_some_iff] at hc
    obtain ⟨c0, hc0, rfl⟩ := hc
    have ho := h1 c0 (List.mem_of_getElem? hc0)
    rcases hall j c0 u hc0 (by simpa using hu) with ⟨t, _, rfl, rfl⟩ | e
    · exact multi_rep ho (h.inv.slots t)
    · exact multi_rep ho e

/-- The state that a frame leaves. -/
theorem exit_inv (h : Inv w0 gh0 Wr s gh t w) {r : DV} {v : Value} (hn : lnames r = false) (hr : (∃ i, r = s.fr i ∧ v = t i) ∨ SRep w gh none r v) :
    ∃ gh', Inv w0 gh0 Wr (exitS r s.gl) gh' (upd (fun _ => undef) 0 v) w := by
  obtain ⟨src, hsrc⟩ : ∃ src : Option Own, SRep w gh src r v ∧ ∀ ℓ, src = some ℓ → ∃ i, ℓ = .sl i ∧ r = s.fr i := by
    rcases hr with ⟨i, rfl, rfl⟩ | hr
    · exact ⟨_, h.slots i, fun ℓ hl => ⟨i, (Option.some.inj hl).symm, rfl⟩⟩
    · exact ⟨none, hr, fun ℓ hl => by simp at hl⟩
  let hb' : Own → Option Nat := fun ℓ => match ℓ with | .sl 0 => src.bind gh.hb | .ge g i c => gh.hb (.ge g i c) | _ => none
  let mp : Key → Option Key := fun k => match k with
    | .own (.sl 0) => src.map .own
    | .own (.ge g i c) => some (.own (.ge g i c))
    | .go g => some (.go g)
    | _ => none
  have back : ∀ k b, Uses (exitS r s.gl) { gh with hb := hb' } k b → ∃ k', mp k = some k' ∧ Uses s gh k' b := by
    intro k b hu
    match k, hu with
    | .own (.sl 0), hu =>
      obtain ⟨⟨rows, h1⟩, h2⟩ := hu
      simp only [exitS, upd, if_true] at h1
      simp only [hb', Option.bind_eq_some_iff] at h2
      obtain ⟨ℓ, hl, h2⟩ := h2
      obtain ⟨i, rfl, hi⟩ := hsrc.2 ℓ hl
      exact ⟨.own (.sl i), by simp [mp, hl], ⟨⟨rows, by rw [← hi]; exact h1⟩, h2⟩⟩
    | .own (.sl (j + 1)), hu => exact absurd hu.2 (by simp [hb'])
    | .own (.ge g i c), hu => exact ⟨_, rfl, hu⟩
    | .own (.le g i c), hu => exact absurd hu.2 (by simp [hb'])
    | .go g, hu => exact ⟨_, rfl, hu⟩
    | .lo l, hu => have := hu.1; simp [exitS] at this
  have inj : ∀ k1 k2 k', mp k1 = some k' → mp k2 = some k' → k1 = k2 := by
    intro k1 k2 k' h1 h2
    have sl0 : ∀ {k}, src.map Key.own = some k → ∃ i, k = .own (.sl i) := by
      intro k hk
      simp only [Option.map_eq_some_iff] at hk
      obtain ⟨ℓ, hl, rfl⟩ := hk
      obtain ⟨i, rfl, _⟩ := hsrc.2 ℓ hl
      exact ⟨i, rfl⟩
    match k1, k2 with
    | .own (.sl 0), .own (.sl 0) => rfl
    | .own (.sl 0), .own (.ge ..) => obtain ⟨i, rfl⟩ := sl0 h1; simp [mp] at h2
    | .own (.sl 0), .go _ => obtain ⟨i, rfl⟩ := sl0 h1; simp [mp] at h2
    | .own (.ge ..), .own (.sl 0) => obtain ⟨i, rfl⟩ := sl0 h2; simp [mp] at h1
    | .go _, .own (.sl 0) => obtain ⟨i, rfl⟩ := sl0 h2; simp [mp] at h1
    | .own (.ge ..), .own (.ge ..) => simp only [mp, Option.some.injEq] at h1 h2; exact h1.trans h2.symm
    | .own (.ge ..), .go _ => simp only [mp, Option.some.injEq] at h1 h2; subst h1; simp at h2
    | .go _, .own (.ge ..) => simp only [mp, Option.some.injEq] at h1 h2; subst h1; simp at h2
    | .go _, .go _ => simp only [mp, Option.some.injEq] at h1 h2; exact h1.trans h2.symm
    | .own (.sl (_ + 1)), _ => simp [mp] at h1
    | .own (.le ..), _ => simp [mp] at h1
    | .lo _, _ => simp [mp] at h1
    | _, .own (.sl (_ + 1)) => simp [mp] at h2
    | _, .own (.le ..) => simp [mp] at h2
    | _, .lo _ => simp [mp] at h2
  have mpown : ∀ k k', mp k = some k' → (∀ ℓ, k ≠ .own ℓ) → ∀ ℓ, k' ≠ .own ℓ := by
    intro k k' hk hne
    match k, hk with
    | .own ℓ, _ => exact absurd rfl (hne ℓ)
    | .go g, hk => simp only [mp, Option.some.injEq] at hk; subst hk; simp
    | .lo g, hk => simp [mp] at hk
  refine ⟨{ gh with hb := hb' }, { os := h.os, tape := h.tape, output := h.output, size := h.size, frame := h.frame, wrNew := h.wrNew, s0 := h.s0, keep0 := h.keep0, m0 := h.m0, marks := h.marks, slots := fun i => ?_, gobs := fun g rows hg => ?_, lobs := fun l rows hl => by simp [exitS] at hl, zero := fun k b hu hk => ?_, uses := fun k b hu => ?_, one := fun k k' b hu hu' => ?_, nx := h.nx }⟩
  · by_cases hi : i = 0
    · subst hi
      simp only [exitS, upd, if_true]
      refine SRep.keep (gh := gh) (ℓ := src) (Keeps.refl _ _) (.inr fun _ hg => ⟨hg, rfl, rfl⟩) (.inl hn) (fun rows _ hown => ?_) hsrc.1
      simpa [hb'] using hown
    · simp only [exitS, upd, if_neg hi]
      exact Rep.any _
  · exact (h.gobs g rows hg).keep (Keeps.refl _ _) (fun g hg => ⟨hg, rfl, rfl⟩) rfl (fun i c r row v _ _ hown => hown)
  · obtain ⟨k', hk', hu'⟩ := back k b hu
    exact h.zero k' b hu' (mpown k k' hk' hk)
  · obtain ⟨k', hk', hu'⟩ := back k b hu
    exact h.uses k' b hu'
  · obtain ⟨k1, e1, u1⟩ := back k b hu
    obtain ⟨k2, e2, u2⟩ := back k' b hu'
    have := h.one k1 k2 b u1 u2
    subst this
    exact inj _ _ _ e1 e2

theorem tm_entry {vs : Array Value} {n : Nat} : tm { tmps := vs ++ Array.replicate n undef, defers := [] } = fun i => vs.getD i undef := by
  funext i
  simp only [tm, Array.getD_eq_getD_getElem?, Array.getElem?_append]
  split
  · rfl
  · rename_i h
    have h1 : vs[i]? = none := by simp; omega
    rw [h1, Array.getElem?_replicate]
    split <;> rfl

/-- A table of abstract functions answers as the program does. -/
theorem den_ok {tbl : FuncId → List DV → Option AF} (hT : ∀ f args af, tbl f args = some af → FM P f af) (L : Nat) : ∀ k, CallOK P (den P tbl L k)
  | 0 => fun f args gl r gl' h => by simp [den] at h
  | k + 1 => fun f args gl r gl' h => by
    simp only [den, Option.bind_eq_some_iff] at h
    obtain ⟨af, haf, h⟩ := h
    split at h
    case isFalse => simp at h
    rename_i hlen
    simp only [Option.bind_eq_some_iff] at h
    obtain ⟨⟨ex, s1⟩, hex, h⟩ := h
    obtain ⟨fn, c, h1, h2, h3, h4, h5, h6⟩ := hT f args af haf
    refine ⟨⟨fn, h1, by simp [h2], h3⟩, fun w gh Wr vs hvs hI => ?_⟩
    refine calls_of_wp h1 h2 ?_
    have hM : Mod w gh Wr fn.ntmps (entryS args gl) { tmps := vs ++ Array.replicate (fn.ntmps - vs.size) undef, defers := [] } w := by
      refine ⟨gh, ?_, by simp; omega, rfl⟩
      rw [tm_entry]
      exact hI
    refine wp_mono (exec_ok (den_ok hT L k) h6 L _ _ _ _ _ hM hex) fun e a w' he => ?_
    obtain ⟨he1, gh1, hA⟩ := he
    simp only at h
    have fin : (results s1 af.res).map (fun d => (d, s1.gl)) = some (r, gl') → a.defers = [] ∧ ∃ v, (Go.results fn a.tmps).run P w' = .ok v w' ∧ ∃ v_1 gh', Ending.returned v = .returned v_1 ∧ Inv w gh Wr (exitS r gl') gh' (upd (fun _ => undef) 0 v_1) w' := by
      intro hres
      simp only [Option.map_eq_some_iff, Prod.mk.injEq] at hres
      obtain ⟨r', hres, rfl, rfl⟩ := hres
      obtain ⟨v, hrun, hn, hrep⟩ := results_run hA h5 hres
      obtain ⟨gh', hE⟩ := exit_inv hA.inv hn hrep
      exact ⟨hA.defers, v, hrun, v, gh', rfl, hE⟩
    cases e with
    | normal =>
      simp only [exOf, Option.some.injEq] at he1
      subst he1
      exact fin h
    | ret =>
      simp only [exOf, Option.some.injEq] at he1
      subst he1
      exact fin h
    | exit id =>
      simp only [exOf, Option.some.injEq] at he1
      subst he1
      simp at h
    | _ => simp [exOf] at he1

end Go.AM
