/- Stores, loads that take, values built, slices. -/
import Derived.Test.YtnglcmfgkcdgcaaGreatAmA8
namespace Go.AM
open Go
set_option linter.unusedVariables false
set_option linter.unusedSimpArgs false

variable {w0 w w' : World} {Wr : Nat → Prop} {s s' : St} {gh gh' gh0 : Gh} {P : Program} {call : Call} {t t' : Nat → Value}
variable {N : Nat} {a : Act} {Q : Exit → Act → World → Prop} {o : Oper}

theorem put_none (a : Act) (v : Value) : a.put none v = a := rfl

theorem ok_st {n : Nat} {T : TypeId} {tr : Bool} {p x : Opd} {op ox : Operand} {δ : De} {ti : TypeInfo} (h : AI w0 gh0 Wr N s gh a w) (hdst : o.dst = none)
    (ho : o.op = .store T op ox) (hi : P.info? T = some ti) (hsz : ti.size = n) (hp : OpdM op p) (hx : OpdM ox x) (hs : stepD P call s (.st T n p x tr) = some δ) :
    o.wp P a w (fun a' w' => Mod w0 gh0 Wr N (s.ap none δ) a' w') Q := by
  obtain ⟨ℓ, hrp⟩ := h.getO hp
  simp only [stepD, Option.bind_eq_some_iff] at hs
  obtain ⟨⟨rows, i, c⟩, hlook, row, hrow, hs⟩ := hs
  simp only [Option.ite_none_right_eq_some, Option.some.injEq] at hrow hs
  obtain ⟨⟨hlen, hfit, hall⟩, hs⟩ := hs
  subst hs
  obtain ⟨q, g, hro, he, hset, _⟩ := look_obj hrp hlook
  have hall' : ∀ y ∈ cellsD (if tr = true then getO s.fr x else getW s.fr x), cellC y = true := fun y hy => List.all_eq_true.1 hall y hy
  have key : ∃ src : Option Nat, srcOf tr x = src ∧
      (cellsD (if tr = true then getO s.fr x else getW s.fr x)).length = (a.eval ox).cells.size ∧
      ∀ (j : Nat) d, (cellsD (if tr = true then getO s.fr x else getW s.fr x))[j]? = some d → cellC d = true ∧ ∃ u, (a.eval ox).cells.toList[j]? = some u ∧ u.oneCell' = true ∧
        (CRep w gh none d u ∨ (∃ m rws, src = some m ∧ s.fr m = .lst true rws ∧ d = .lst true rws ∧ j = 0 ∧ CRep w gh (some (.sl m)) d u)) := by
    have plain : ∀ dv, SRep w gh none dv (a.eval ox) → (∀ y ∈ cellsD dv, cellC y = true) → ∀ src : Option Nat, (cellsD dv).length = (a.eval ox).cells.size ∧
        ∀ (j : Nat) d, (cellsD dv)[j]? = some d → cellC d = true ∧ ∃ u, (a.eval ox).cells.toList[j]? = some u ∧ u.oneCell' = true ∧
          (CRep w gh none d u ∨ (∃ m rws, src = some m ∧ s.fr m = .lst true rws ∧ d = .lst true rws ∧ j = 0 ∧ CRep w gh (some (.sl m)) d u)) := by
      intro dv hdv hal src
      obtain ⟨h1, h2⟩ := cellsD_rep hdv hal
      refine ⟨h1, fun j d hd => ⟨hal d (List.mem_of_getElem? hd), ?_⟩⟩
      obtain ⟨u, k1, k2, k3⟩ := h2 j d hd
      exact ⟨u, k1, k2, .inl k3⟩
    cases tr with
    | false =>
      simp only [Bool.false_eq_true, if_false] at hall' ⊢
      exact ⟨none, by cases x <;> rfl, plain _ (h.getW hx) hall' none⟩
    | true =>
      simp only [if_true] at hall' ⊢
      cases x with
      | k v =>
        cases ox <;> simp only [OpdM] at hx
        subst hx
        exact ⟨none, rfl, plain _ (rep_dvOf _) hall' none⟩
      | f n =>
        cases ox <;> simp only [OpdM] at hx
        subst hx
        exact ⟨none, rfl, plain _ (rep_clo _) hall' none⟩
      | t m =>
        refine ⟨some m, rfl, ?_⟩
        obtain ⟨m', rfl, rfl⟩ : ∃ m', ox = .tmp m' ∧ m' = m := by cases ox <;> simp_all [OpdM]
        have hsl := h.inv.slots m'
        by_cases hown : ∃ rws, s.fr m' = .lst true rws
        · obtain ⟨rws, hfm⟩ := hown
          simp only [getO, hfm, cellsD] at hall' ⊢
          rw [hfm] at hsl
          have hC : CRep w gh (some (.sl m')) (.lst true rws) (tm a m') := hsl
          have h1 := (hC.cell rfl).2.2
          have hv : (a.eval (.tmp m')).cells = #[tm a m'] := by
            show (tm a m').cells = _
            generalize hg : tm a m' = v at *
            cases v <;> simp_all [Value.cells, Value.oneCell']
          refine ⟨by simp [hv], fun j d hd => ?_⟩
          cases j with
          | zero =>
            simp only [List.getElem?_cons_zero, Option.some.injEq] at hd
            subst hd
            exact ⟨rfl, tm a m', by simp [hv], h1, .inr ⟨m', rws, rfl, hfm, rfl, rfl, hC⟩⟩
          | succ j => simp at hd
        · have hn : SRep w gh none (s.fr m') (tm a m') := by
            refine hsl.keep (gh := gh) (Keeps.refl _ _) (.inr fun _ hg => ⟨hg, rfl, rfl⟩) (.inr fun _ => ⟨rfl, rfl⟩) (fun rws hd _ => absurd ⟨rws, hd⟩ hown)
          exact plain _ hn hall' _
  obtain ⟨src, hsrc, hl, hv⟩ := key
  obtain ⟨gh', w', hrun, hinv⟩ := h.inv.store (P := P) hro hrow _ (a.eval ox).cells.toList (by simpa using hl) (by rw [hlen]; exact hfit) src hv
  have hrun' : (execOp a.eval o).run P w = .ok .skip w' := by
    have hsz' : (a.eval ox).cells.size = ti.size := by rw [← hl, hlen, hsz]
    simp [execOp, ho, Instr.storeAt, Instr.sureAddr, he, storeVar, sizeOf, typeInfo, hi, hsz', hrun]
  refine wp_skip' hrun' ⟨gh', ?_, by simpa using h.size, by simpa using h.defers⟩
  rw [hdst, put_none]
  have : s.ap none (.wr (getO s.fr p) (rows.set i (setCells row c (cellsD (if tr = true then getO s.fr x else getW s.fr x)))) src none) =
      oset { s with fr := wkO s.fr src } q g (rows.set i (setCells row c (cellsD (if tr = true then getO s.fr x else getW s.fr x)))) := by
    simp only [St.ap, hset]
    cases q <;> rfl
  rw [hsrc, this]
  exact hinv

/-- An object's cell gives its list away, with the right to append. -/
theorem ok_ldtr {d n : Nat} {T : TypeId} {ag : Bool} {x : Opd} {ox : Operand} {δ : De} {ti : TypeInfo} {dsc : TypeDesc} (h : AI w0 gh0 Wr N s gh a w) (hdst : o.dst = some d) (hd : d < N)
    (ho : o.op = .load T ox) (hT : P.underlying T = some dsc) (hag : tyAg dsc = ag) (hi : P.info? T = some ti) (hsz : ti.size = n)
    (hx : OpdM ox x) (hs : stepD P call s (.ld d T n ag x true) = some δ) :
    o.wp P a w (fun a' w' => Mod w0 gh0 Wr N (s.ap (some d) δ) a' w') Q := by
  obtain ⟨ℓ, hr⟩ := h.getO hx
  simp only [stepD, if_true, Option.bind_eq_some_iff] at hs
  obtain ⟨⟨rows, i, c⟩, hlook, row, hrow, hs⟩ := hs
  simp only at hrow hs
  split at hs
  case h_2 => simp at hs
  rename_i v hv
  split at hs <;> simp only [Option.some.injEq, reduceCtorEq] at hs
  rename_i hnag
  have hag' : ag = false := by
    cases ag
    · rfl
    · simp at hnag
  have hn1 : n = 1 := by
    rcases Nat.decEq n 1 with h1 | h1
    · exact absurd (Or.inr (Or.inl h1)) hnag
    · exact h1
  subst hs hag' hn1
  obtain ⟨q, g, hro, he, hset, _⟩ := look_obj hr hlook
  obtain ⟨cur, e, hcur, hszo, hcells⟩ := h.inv.obj hro
  obtain ⟨k0, u, hu, hu1, hrep⟩ := (hcells i row hrow).2 c v hv
  have hi' : i < rows.length := (List.getElem?_eq_some_iff.1 hrow).1
  have hc' : c < row.length := (List.getElem?_eq_some_iff.1 hv).1
  have hcell : w.cell? ⟨oblk gh q g, i * osz gh q g + c, none⟩ = some u := by rw [cell_of_row w _ _ cur e (0, 0) hcur]; exact hu
  have hrun : (execOp a.eval o).run P w = .ok (.value u) w := by
    have := run_loadVar' (w := w) (b := oblk gh q g) (p := i * osz gh q g + c) (f := fun _ => u) hT hag hi hsz (.inr (Nat.le_refl 1)) (fun j hj => by obtain rfl : j = 0 := (by omega); exact hcell)
    simp only [Bool.false_eq_true, if_false] at this
    simp [execOp, ho, Instr.loadAt, Instr.sureAddr, he, this]
  let hb' : Own → Option Nat := fun ℓ => if ℓ = .sl d then gh.hb (ohome q g i c) else if ℓ = ohome q g i c then none else gh.hb ℓ
  have hlenrow : (setCells row c [wk1 v]).length = row.length := setCells_len (by simp; omega)
  have hs0 := h.inv.keeps (S' := gh.S) (w' := w) (fun b hb _ => ⟨rfl, Nat.le_refl _⟩)
  refine wp_value hrun ⟨{ gh with hb := hb' }, ?_, by simpa using h.size, by simpa using h.defers⟩
  rw [hdst, tm_put _ _ _ (by rw [h.size]; exact hd)]
  have hap : s.ap (some d) (.wr (getO s.fr x) (rows.set i (setCells row c [wk1 v])) none (some v)) = oset { s with fr := upd s.fr d v } q g (rows.set i (setCells row c [wk1 v])) := by
    simp only [St.ap, hset, wkO, putO]
    cases q <;> rfl
  rw [hap]
  have cellNew : ∀ i' row' c' dd, (rows.set i (setCells row c [wk1 v]))[i']? = some row' → row'[c']? = some dd →
      (i' = i ∧ c' = c ∧ dd = wk1 v) ∨ (¬ (i' = i ∧ c' = c) ∧ ∃ row0, rows[i']? = some row0 ∧ row0[c']? = some dd) := by
    intro i' row' c' dd hr' hd'
    by_cases hei : i = i'
    · subst hei
      rw [List.getElem?_set_self hi'] at hr'
      simp only [Option.some.injEq] at hr'
      subst hr'
      rw [setCells_get (by simp; omega)] at hd'
      simp only [List.length_singleton] at hd'
      split at hd'
      · exact .inr ⟨by omega, row, hrow, hd'⟩
      · split at hd'
        · obtain rfl : c' = c := by omega
          simp at hd'
          exact .inl ⟨rfl, rfl, hd'.symm⟩
        · exact .inr ⟨by omega, row, hrow, hd'⟩
    · rw [List.getElem?_set_ne hei] at hr'
      exact .inr ⟨by omega, row', hr', hd'⟩
  have hwk : ∀ r, wk1 v ≠ .lst true r := by intro r; cases v <;> simp [wk1]
  refine h.inv.write hro rfl rfl rfl rfl (fun _ _ => rfl) (upd s.fr d v) _ hb' (fun j => ?_) ?_ (fun ℓ h1 h2 => ?_) (fun ℓ => if ℓ = .sl d then ohome q g i c else ℓ) (fun ℓ b ha hb => ?_) (fun ℓ ℓ' b ha ha' hb hb2 heq => ?_)
  · by_cases ej : j = d
    · subst ej
      rw [upd_same, upd_same]
      have hC : CRep w { gh with hb := hb' } (some (.sl j)) v u := by
        refine hrep.keep (gh := gh) hs0 (.inr fun _ hg => ⟨hg, rfl, rfl⟩) (.inl (cellC_noL k0)) (fun r hdv hown => ?_)
        show OwnR w gh.S (hb' (.sl j)) r u
        simp only [hb', if_true]
        exact hown
      cases v with
      | agg cs => simp [cellC, pureC] at k0
      | tup cs => simp [cellC, pureC] at k0
      | clo f caps => exact (Rep.toS (d := .clo f caps) hC)
      | _ => exact hC
    · rw [upd_ne _ _ ej, upd_ne _ _ ej]
      refine (h.inv.slots j).rehb hb' (fun x hx => ?_)
      cases hx
      simp only [hb']
      rw [if_neg (by simpa using ej), if_neg (fun hx => ohome_ne_sl hx.symm)]
  · refine ⟨cur, e, hcur, by simpa using hszo, fun i' row' hr' => ⟨?_, fun c' dd hd' => ?_⟩⟩
    · by_cases hei : i = i'
      · subst hei
        rw [List.getElem?_set_self hi'] at hr'
        simp only [Option.some.injEq] at hr'
        subst hr'
        rw [hlenrow]; exact (hcells i row hrow).1
      · rw [List.getElem?_set_ne hei] at hr'
        exact (hcells i' row' hr').1
    · rcases cellNew i' row' c' dd hr' hd' with ⟨rfl, rfl, rfl⟩ | ⟨hn, row0, hr0, hd0⟩
      · refine ⟨?_, u, hu, hu1, ?_⟩
        · cases v <;> simp_all [wk1, cellC, pureC]
        · exact (hrep.wk1).keep (gh := gh) hs0 (.inr fun _ hg => ⟨hg, rfl, rfl⟩) (.inl (noL_wk1 (cellC_noL k0))) (fun r hdv _ => absurd hdv (hwk r))
      · obtain ⟨k0', u', hu', hu1', hrep'⟩ := (hcells i' row0 hr0).2 c' dd hd0
        refine ⟨k0', u', hu', hu1', hrep'.keep (gh := gh) hs0 (.inr fun _ hg => ⟨hg, rfl, rfl⟩) (.inl (cellC_noL k0')) (fun r hdv hown => ?_)⟩
        show OwnR w gh.S (hb' (ohome q g i' c')) r u'
        simp only [hb']
        rw [if_neg ohome_ne_sl, if_neg (fun hx => hn (ohome_inj hx))]
        exact hown
  · simp only [hb']
    rw [if_neg (h1 d), if_neg (h2 i c)]
  · simp only [hb'] at hb
    by_cases hℓ : ℓ = .sl d
    · subst hℓ
      simp only [if_true] at hb ⊢
      obtain ⟨r, hr'⟩ := ha
      rw [fr_oset] at hr'
      simp only [upd_same] at hr'
      exact ⟨act_home.2 ⟨rows, row, r, hro, hrow, by rw [hv, hr']⟩, hb⟩
    · rw [if_neg hℓ] at hb ⊢
      split at hb
      · simp at hb
      · rename_i hne
        refine ⟨?_, hb⟩
        rcases own_cases ℓ with ⟨j, rfl⟩ | ⟨q', g', i', c', rfl⟩
        · obtain ⟨r, hr'⟩ := ha
          rw [fr_oset] at hr'
          refine ⟨r, ?_⟩
          simp only at hr'
          rwa [upd_ne _ _ (fun e => hℓ (by rw [e]))] at hr'
        · rw [act_home] at ha ⊢
          obtain ⟨rs, row', rws, e1, e2, e3⟩ := ha
          by_cases hsame : q' = q ∧ g' = g
          · obtain ⟨rfl, rfl⟩ := hsame
            rw [orows_oset] at e1
            cases e1
            rcases cellNew i' row' c' _ e2 e3 with ⟨_, _, hx⟩ | ⟨_, row0, hr0, hd0⟩
            · exact absurd hx.symm (hwk _)
            · exact ⟨rows, row0, rws, hro, hr0, hd0⟩
          · rw [orows_oset_ne hsame] at e1
            exact ⟨rs, row', rws, e1, e2, e3⟩
  · have nh : ∀ ℓ b, hb' ℓ = some b → ℓ ≠ .sl d → ℓ ≠ ohome q g i c := by
      intro ℓ b hb hne hx
      simp only [hb'] at hb
      rw [if_neg hne, if_pos hx] at hb
      simp at hb
    by_cases e1 : ℓ = .sl d <;> by_cases e2 : ℓ' = .sl d <;> simp only [e1, e2, if_true, if_false] at heq ⊢
    · exact absurd heq.symm (nh ℓ' b hb2 e2)
    · exact absurd heq (nh ℓ b hb e1)
    · exact heq

end Go.AM
