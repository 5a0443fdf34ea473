/- Stores. -/
import Derived.Test.YtnglcmfgkcdgcaaGreatAmA7
namespace Go.AM
open Go
set_option linter.unusedVariables false
set_option linter.unusedSimpArgs false

variable {w0 w w' : World} {Wr : Nat → Prop} {s s' : St} {gh gh' gh0 : Gh} {P : Program} {call : Call} {t t' : Nat → Value}
variable {N : Nat} {a : Act} {Q : Exit → Act → World → Prop} {o : Oper}

theorem ohome_inj {q : Bool} {g i c i' c' : Nat} (h : ohome q g i c = ohome q g i' c') : i = i' ∧ c = c' := by
  cases q <;> simp only [ohome, Own.ge.injEq, Own.le.injEq] at h <;> exact h.2

theorem ohome_ne_sl {q : Bool} {g i c j : Nat} : ohome q g i c ≠ .sl j := by cases q <;> simp [ohome]

theorem setCells_len {row vs : List DV} {c : Nat} (h : c + vs.length ≤ row.length) : (setCells row c vs).length = row.length := length_splice row vs c h

theorem setCells_get {row vs : List DV} {c : Nat} (h : c + vs.length ≤ row.length) (k : Nat) :
    (setCells row c vs)[k]? = if k < c then row[k]? else if k < c + vs.length then vs[k - c]? else row[k]? := get_splice row vs c k h

theorem mul_lt_row {i i' sz c : Nat} (hc : c < sz) (h : i < i') : i * sz + c < i' * sz := by
  have : (i + 1) * sz ≤ i' * sz := Nat.mul_le_mul_right _ h
  rw [Nat.add_mul] at this
  omega

/-- Act' of an object's cell, by its kind. -/
theorem act_home {q : Bool} {g i c : Nat} {s : St} : Act' s (ohome q g i c) ↔ ∃ rs row rows, orows s q g = some rs ∧ rs[i]? = some row ∧ row[c]? = some (.lst true rows) := by
  cases q <;> rfl

theorem orows_oset {s : St} {q : Bool} {g : Nat} {rows : Rows} : orows (oset s q g rows) q g = some rows := by cases q <;> simp [orows, oset]

theorem orows_oset_ne {s : St} {q q' : Bool} {g g' : Nat} {rows : Rows} (h : ¬ (q' = q ∧ g' = g)) : orows (oset s q g rows) q' g' = orows s q' g' := by
  cases q <;> cases q' <;> simp only [orows, oset] <;> first | rfl | (rw [upd_ne _ _ (fun e => h ⟨rfl, e⟩)])

theorem own_cases (ℓ : Own) : (∃ j, ℓ = .sl j) ∨ ∃ q g i c, ℓ = ohome q g i c := by
  cases ℓ with
  | sl j => exact .inl ⟨j, rfl⟩
  | ge g i c => exact .inr ⟨true, g, i, c, rfl⟩
  | le g i c => exact .inr ⟨false, g, i, c, rfl⟩

theorem ohome_inj' {q q' : Bool} {g g' i i' c c' : Nat} (h : ohome q g i c = ohome q' g' i' c') : q = q' ∧ g = g' ∧ i = i' ∧ c = c' := by
  cases q <;> cases q' <;> simp_all [ohome]

theorem fr_oset {s : St} {q : Bool} {g : Nat} {rows : Rows} : (oset s q g rows).fr = s.fr := by cases q <;> rfl

/-- Cells are written in an object's row. 'src': the slot whose right to append goes along. -/
theorem Inv.store (h : Inv w0 gh0 Wr s gh t w) {q : Bool} {g i c : Nat} {rows : Rows} {row : List DV} (hr : orows s q g = some rows) (hrow : rows[i]? = some row)
    (vs : List DV) (us : List Value) (hlen : vs.length = us.length) (hfit : c + vs.length ≤ row.length) (src : Option Nat)
    (hv : ∀ (j : Nat) d, vs[j]? = some d → cellC d = true ∧ ∃ u, us[j]? = some u ∧ u.oneCell' = true ∧
      (CRep w gh none d u ∨ (∃ m rws, src = some m ∧ s.fr m = .lst true rws ∧ d = .lst true rws ∧ j = 0 ∧ CRep w gh (some (.sl m)) d u))) :
    ∃ gh' w', (storeCells ⟨oblk gh q g, i * osz gh q g + c, none⟩ us).run P w = .ok () w' ∧
      Inv w0 gh0 Wr (oset { s with fr := wkO s.fr src } q g (rows.set i (setCells row c vs))) gh' t w' := by
  obtain ⟨cur, e, hcur, hsz, hcells⟩ := h.obj hr
  have hi : i < rows.length := (List.getElem?_eq_some_iff.1 hrow).1
  have hrl := (hcells i row hrow).1
  have hfit' : i * osz gh q g + c + us.length ≤ cur.size := by
    have h1 : (i + 1) * osz gh q g ≤ rows.length * osz gh q g := Nat.mul_le_mul_right _ hi
    rw [Nat.add_mul] at h1
    omega
  have h1 : ∀ v ∈ us, v.oneCell' = true := by
    intro v hvm
    obtain ⟨j, hj⟩ := List.getElem?_of_mem hvm
    have hjl : j < vs.length := by rw [hlen]; exact (List.getElem?_eq_some_iff.1 hj).1
    obtain ⟨_, u, hu, h1, _⟩ := hv j vs[j] (by simp)
    rw [hj] at hu; cases hu; exact h1
  have hst := run_storeCells_at P (oblk gh q g) (i * osz gh q g + c) e us 0 cur w hcur (by simpa using hfit') h1
  simp only [Nat.add_zero] at hst
  let B := oblk gh q g
  let isOwn : Prop := ∃ m rws, src = some m ∧ s.fr m = .lst true rws ∧ vs[0]? = some (.lst true rws)
  let hbs : Option Nat := src.bind fun m => gh.hb (.sl m)
  let hb' : Own → Option Nat := open Classical in fun ℓ =>
    if src.any (fun m => decide (ℓ = .sl m)) = true then none
    else if ∃ k, ℓ = ohome q g i k ∧ c ≤ k ∧ k < c + vs.length then (if ℓ = ohome q g i c ∧ isOwn then hbs else none)
    else gh.hb ℓ
  have hu0 := h.ouse hr
  have hS0 : gh.S B = 0 := h.zero _ _ hu0 (by cases q <;> simp [okey])
  have hbl : ∀ b, b ≠ B → (w.setRow B (cur.toList.take (i * osz gh q g + c) ++ us ++ cur.toList.drop (i * osz gh q g + c + us.length)).toArray).heap[b]? = w.heap[b]? := fun b hb => setRow_other w B b _ hb
  have hk : Keeps w gh.S (w.setRow B (cur.toList.take (i * osz gh q g + c) ++ us ++ cur.toList.drop (i * osz gh q g + c + us.length)).toArray) gh.S :=
    h.keeps fun b hb hS => ⟨hbl b (fun e => hS (e ▸ hS0)), Nat.le_refl _⟩
  have hownK : ∀ (x : Option Nat) rws v, (∀ b, x = some b → b ≠ B) → OwnR w gh.S x rws v → OwnR (w.setRow B (cur.toList.take (i * osz gh q g + c) ++ us ++ cur.toList.drop (i * osz gh q g + c + us.length)).toArray) gh.S x rws v :=
    fun x rws v hx hown => hown.keep fun b hb _ => ⟨hbl b (hx b hb), rfl⟩
  have hne : ∀ ℓ b, Act' s ℓ → gh.hb ℓ = some b → b ≠ B := by
    intro ℓ b ha hb hx
    subst hx
    have := h.one (.own ℓ) _ _ ⟨ha, hb⟩ hu0
    cases q <;> simp [okey] at this
  refine ⟨{ gh with hb := hb' }, w.setRow B (cur.toList.take (i * osz gh q g + c) ++ us ++ cur.toList.drop (i * osz gh q g + c + us.length)).toArray, hst, ?_⟩
  have cellNew : ∀ i' row' c' d, (rows.set i (setCells row c vs))[i']? = some row' → row'[c']? = some d →
      (i' = i ∧ c ≤ c' ∧ c' < c + vs.length ∧ vs[c' - c]? = some d) ∨ (¬ (i' = i ∧ c ≤ c' ∧ c' < c + vs.length) ∧ ∃ row0, rows[i']? = some row0 ∧ row0[c']? = some d) := by
    intro i' row' c' d hr' hd
    by_cases he : i = i'
    · subst he
      rw [List.getElem?_set_self hi] at hr'
      simp only [Option.some.injEq] at hr'
      subst hr'
      rw [setCells_get hfit] at hd
      split at hd
      · exact .inr ⟨by omega, row, hrow, hd⟩
      · split at hd
        · exact .inl ⟨rfl, by omega, by omega, hd⟩
        · exact .inr ⟨by omega, row, hrow, hd⟩
    · rw [List.getElem?_set_ne he] at hr'
      exact .inr ⟨by omega, row', hr', hd⟩
  -- who may append, anew
  have hσ : ∀ ℓ b, Act' (oset { s with fr := wkO s.fr src } q g (rows.set i (setCells row c vs))) ℓ → hb' ℓ = some b →
      (ℓ = ohome q g i c ∧ ∃ m, src = some m ∧ Act' s (.sl m) ∧ gh.hb (.sl m) = some b) ∨ (ℓ ≠ ohome q g i c ∧ (∀ m, src = some m → ℓ ≠ .sl m) ∧ Act' s ℓ ∧ gh.hb ℓ = some b) ∨
      (ℓ = ohome q g i c ∧ vs = [] ∧ Act' s ℓ ∧ gh.hb ℓ = some b) := by
    intro ℓ b ha hb
    simp only [hb'] at hb
    split at hb
    · simp at hb
    rename_i hns
    have hns' : ∀ m, src = some m → ℓ ≠ .sl m := by
      intro m hm hx
      subst hx; simp [hm] at hns
    rcases own_cases ℓ with ⟨j, rfl⟩ | ⟨q', g', i', c', rfl⟩
    · rw [if_neg (by rintro ⟨k, hk, _⟩; exact ohome_ne_sl hk.symm)] at hb
      refine .inr (.inl ⟨ohome_ne_sl.symm, hns', ?_, hb⟩)
      obtain ⟨rws, hf⟩ := ha
      rw [fr_oset] at hf
      refine ⟨rws, ?_⟩
      cases src with
      | none => exact hf
      | some m =>
        simp only [wkO] at hf
        rwa [upd_ne _ _ (fun e => hns' m rfl (by rw [e]))] at hf
    · rw [act_home] at ha
      obtain ⟨rs, row', rws, e1, e2, e3⟩ := ha
      by_cases hsame : q' = q ∧ g' = g
      · obtain ⟨rfl, rfl⟩ := hsame
        rw [orows_oset] at e1
        cases e1
        rcases cellNew i' row' c' _ e2 e3 with ⟨rfl, hc1, hc2, hvd⟩ | ⟨hn, row0, hr0, hd0⟩
        · rw [if_pos ⟨c', rfl, hc1, hc2⟩] at hb
          split at hb
          · rename_i hown
            obtain ⟨heq, m, rws', hm, hfm, _⟩ := hown
            simp only [hbs, hm, Option.bind_some] at hb
            exact .inl ⟨heq, m, hm, ⟨rws', hfm⟩, hb⟩
          · simp at hb
        · rw [if_neg (by rintro ⟨k, hk, hk1, hk2⟩; obtain ⟨rfl, rfl⟩ := ohome_inj hk; exact hn ⟨rfl, hk1, hk2⟩)] at hb
          have hact : Act' s (ohome q' g' i' c') := act_home.2 ⟨rows, row0, rws, hr, hr0, hd0⟩
          by_cases hcc : i' = i ∧ c' = c
          · obtain ⟨rfl, rfl⟩ := hcc
            refine .inr (.inr ⟨rfl, ?_, hact, hb⟩)
            have : vs.length = 0 := by omega
            exact List.eq_nil_of_length_eq_zero this
          · exact .inr (.inl ⟨fun hx => hcc (ohome_inj hx), hns', hact, hb⟩)
      · rw [orows_oset_ne hsame] at e1
        rw [if_neg (by rintro ⟨k, hk, _⟩; obtain ⟨rfl, rfl, _⟩ := ohome_inj' hk; exact hsame ⟨rfl, rfl⟩)] at hb
        exact .inr (.inl ⟨fun hx => by obtain ⟨rfl, rfl, _⟩ := ohome_inj' hx; exact hsame ⟨rfl, rfl⟩, hns', act_home.2 ⟨rs, row', rws, e1, e2, e3⟩, hb⟩)
  have hfr : ∀ j, SRep (w.setRow B (cur.toList.take (i * osz gh q g + c) ++ us ++ cur.toList.drop (i * osz gh q g + c + us.length)).toArray) { gh with hb := hb' } (some (.sl j)) (wkO s.fr src j) (t j) := by
    intro j
    have keepW : ∀ {d : DV} {v : Value}, SRep w gh none d v → SRep (w.setRow B (cur.toList.take (i * osz gh q g + c) ++ us ++ cur.toList.drop (i * osz gh q g + c + us.length)).toArray) { gh with hb := hb' } (some (.sl j)) d v := by
      intro d v hd
      refine hd.keep (gh := gh) hk (.inr fun _ hg => ⟨hg, rfl, rfl⟩) (.inr fun _ => ⟨rfl, rfl⟩) (fun rws _ hown => hown.empty_any)
    have plain : (∀ m, src = some m → j ≠ m) → SRep (w.setRow B (cur.toList.take (i * osz gh q g + c) ++ us ++ cur.toList.drop (i * osz gh q g + c + us.length)).toArray) { gh with hb := hb' } (some (.sl j)) (s.fr j) (t j) := by
      intro hj
      refine (h.slots j).keep (gh := gh) hk (.inr fun _ hg => ⟨hg, rfl, rfl⟩) (.inr fun _ => ⟨rfl, rfl⟩) (fun rws hd hown => ?_)
      have hbj : hb' (.sl j) = gh.hb (.sl j) := by
        simp only [hb']
        rw [if_neg, if_neg]
        · rintro ⟨k, hk, _⟩; exact ohome_ne_sl hk.symm
        · cases src with
          | none => simp
          | some m => simpa using hj m rfl
      show OwnR _ gh.S (hb' (.sl j)) rws _
      rw [hbj]
      exact hownK _ _ _ (fun b hb => hne (.sl j) b ⟨rws, hd⟩ hb) hown
    cases src with
    | none => exact plain (fun m hm => by simp at hm)
    | some m =>
      simp only [wkO]
      by_cases e : j = m
      · subst e; rw [upd_same]; exact keepW (h.slots j).wk
      · rw [upd_ne _ _ e]; exact plain (fun m' hm' => by cases hm'; exact e)
  refine h.write hr ?_ ?_ ?_ ?_ hbl (wkO s.fr src) t hb' hfr ?_ ?_ (fun ℓ => open Classical in if ℓ = ohome q g i c ∧ vs ≠ [] then (src.elim ℓ Own.sl) else ℓ) ?_ ?_
  · rfl
  · rfl
  · rfl
  · exact setRow_size _ _ _
  · -- the object
    refine ⟨_, e, setRow_heap w B cur _ e (0, 0) hcur, ?_, fun i' row' hr' => ⟨?_, fun c' d hd => ?_⟩⟩
    · simp only [List.length_set, List.size_toArray]
      rw [length_splice _ _ _ (by simpa using hfit')]
      simpa using hsz
    · by_cases he : i = i'
      · subst he
        rw [List.getElem?_set_self hi] at hr'
        simp only [Option.some.injEq] at hr'
        subst hr'
        rw [setCells_len hfit]; exact hrl
      · rw [List.getElem?_set_ne he] at hr'
        exact (hcells i' row' hr').1
    · have hget : ∀ k, (cur.toList.take (i * osz gh q g + c) ++ us ++ cur.toList.drop (i * osz gh q g + c + us.length)).toArray[k]? =
          if k < i * osz gh q g + c then cur[k]? else if k < i * osz gh q g + c + us.length then us[k - (i * osz gh q g + c)]? else cur[k]? := by
        intro k
        have := get_splice cur.toList us (i * osz gh q g + c) k (by simpa using hfit')
        simpa using this
      rcases cellNew i' row' c' d hr' hd with ⟨rfl, hc1, hc2, hvd⟩ | ⟨hn, row0, hr0, hd0⟩
      · obtain ⟨k0, u, hu, hu1, hrep⟩ := hv _ _ hvd
        refine ⟨k0, u, ?_, hu1, ?_⟩
        · rw [hget, if_neg (by omega), if_pos (by omega), show i' * osz gh q g + c' - (i' * osz gh q g + c) = c' - c by omega]
          exact hu
        · rcases hrep with hrep | ⟨m, rws, hm, hfm, rfl, hj0, hrep⟩
          · exact hrep.keep (gh := gh) hk (.inr fun _ hg => ⟨hg, rfl, rfl⟩) (.inl (cellC_noL k0)) (fun _ _ hown => hown.empty_any)
          · have hcc : c' = c := by omega
            subst hcc
            refine hrep.keep (gh := gh) hk (.inl rfl) (.inl rfl) (fun r hr hown => ?_)
            cases hr
            have hhb : hb' (ohome q g i' c') = gh.hb (.sl m) := by
              simp only [hb']
              rw [if_neg (by simp [hm, ohome_ne_sl]), if_pos ⟨c', rfl, hc1, hc2⟩, if_pos ⟨rfl, m, rws, hm, hfm, by simpa using hvd⟩]
              simp [hbs, hm]
            show OwnR _ gh.S (hb' (ohome q g i' c')) rws u
            rw [hhb]
            exact hownK _ _ _ (fun b hb => hne (.sl m) b ⟨rws, hfm⟩ hb) hown
      · obtain ⟨hl0, hc0⟩ := hcells i' row0 hr0
        obtain ⟨k0, u, hu, hu1, hrep⟩ := hc0 c' d hd0
        have hc' : c' < osz gh q g := by rw [← show row0.length = osz gh q g from hl0]; exact (List.getElem?_eq_some_iff.1 hd0).1
        refine ⟨k0, u, ?_, hu1, ?_⟩
        · rw [hget]
          by_cases hlt : i' * osz gh q g + c' < i * osz gh q g + c
          · rw [if_pos hlt]; exact hu
          · rw [if_neg hlt, if_neg]
            · exact hu
            · intro hlt2
              have hcz : c + us.length ≤ osz gh q g := by rw [← show row.length = osz gh q g from hrl]; omega
              rcases Nat.lt_trichotomy i' i with hx | hx | hx
              · have := mul_lt_row hc' hx; omega
              · subst hx; exact hn ⟨rfl, by omega, by omega⟩
              · have : (i + 1) * osz gh q g ≤ i' * osz gh q g := Nat.mul_le_mul_right _ hx
                rw [Nat.add_mul] at this
                omega
        · refine hrep.keep (gh := gh) hk (.inr fun _ hg => ⟨hg, rfl, rfl⟩) (.inl (cellC_noL k0)) (fun r hd' hown => ?_)
          subst hd'
          have hact : Act' s (ohome q g i' c') := act_home.2 ⟨rows, row0, r, hr, hr0, hd0⟩
          have hhb : hb' (ohome q g i' c') = gh.hb (ohome q g i' c') := by
            simp only [hb']
            rw [if_neg, if_neg]
            · rintro ⟨k, hk, hk1, hk2⟩; obtain ⟨rfl, rfl⟩ := ohome_inj hk; exact hn ⟨rfl, hk1, hk2⟩
            · cases src <;> simp [ohome_ne_sl]
          show OwnR _ gh.S (hb' (ohome q g i' c')) r u
          rw [hhb]
          exact hownK _ _ _ (fun b hb => hne _ b hact hb) hown
  · -- other homes
    intro ℓ h1 h2
    simp only [hb']
    rw [if_neg, if_neg]
    · rintro ⟨k, hk, _⟩; exact h2 i k hk
    · cases src with
      | none => simp
      | some m => simpa using h1 m
  · intro ℓ b ha hb
    rcases hσ ℓ b ha hb with ⟨rfl, m, hm, hact, hbm⟩ | ⟨hn, _, hact, hbm⟩ | ⟨rfl, hvs, hact, hbm⟩
    · by_cases hvs : vs = []
      · exfalso
        subst hvs
        simp only [hb'] at hb
        rw [if_neg (by simp [hm, ohome_ne_sl]), if_neg (by rintro ⟨k, _, h1, h2⟩; simp at h2; omega)] at hb
        rw [act_home] at ha
        obtain ⟨rs, row', rws, e1, e2, e3⟩ := ha
        rw [orows_oset] at e1
        cases e1
        rcases cellNew i row' c _ e2 e3 with ⟨_, _, hc2, _⟩ | ⟨_, row0, hr0, hd0⟩
        · simp at hc2
        · have := h.one (.own (ohome q g i c)) (.own (.sl m)) b ⟨act_home.2 ⟨rows, row0, rws, hr, hr0, hd0⟩, hb⟩ ⟨hact, hbm⟩
          simp only [Key.own.injEq] at this
          exact ohome_ne_sl this
      · simp only [hm, Option.elim]
        rw [if_pos ⟨trivial, hvs⟩]; exact ⟨hact, hbm⟩
    · rw [if_neg (fun hx => hn hx.1)]; exact ⟨hact, hbm⟩
    · rw [if_neg (fun hx => hx.2 hvs)]; exact ⟨hact, hbm⟩
  · intro ℓ ℓ' b ha ha' hb hb' he
    have hs1 := hσ ℓ b ha hb
    have hs2 := hσ ℓ' b ha' hb'
    rcases hs1 with ⟨rfl, m, hm, hact, hbm⟩ | ⟨hn, hns, hact, hbm⟩ | ⟨rfl, hvs, hact, hbm⟩ <;> rcases hs2 with ⟨rfl, m', hm', hact', hbm'⟩ | ⟨hn', hns', hact', hbm'⟩ | ⟨rfl, hvs', hact', hbm'⟩
    · rfl
    · have := h.one (.own (.sl m)) (.own ℓ') b ⟨hact, hbm⟩ ⟨hact', hbm'⟩
      simp only [Key.own.injEq] at this
      exact absurd this.symm (hns' m hm)
    · rfl
    · have := h.one (.own (.sl m')) (.own ℓ) b ⟨hact', hbm'⟩ ⟨hact, hbm⟩
      simp only [Key.own.injEq] at this
      exact absurd this.symm (hns m' hm')
    · have := h.one (.own ℓ) (.own ℓ') b ⟨hact, hbm⟩ ⟨hact', hbm'⟩
      simpa using this
    · have := h.one (.own ℓ) (.own _) b ⟨hact, hbm⟩ ⟨hact', hbm'⟩
      simp only [Key.own.injEq] at this
      exact absurd this hn
    · rfl
    · have := h.one (.own _) (.own ℓ') b ⟨hact, hbm⟩ ⟨hact', hbm'⟩
      simp only [Key.own.injEq] at this
      exact absurd this.symm hn'
    · rfl

end Go.AM
