/- How the memory's side of a state goes on. -/
import Derived.Test.YtnglcmfgkcdgcaaGreatAmA2
namespace Go.AM
open Go

set_option linter.unusedVariables false
variable {w0 w w' : World} {Wr : Nat → Prop} {s s' : St} {gh gh' gh0 : Gh} {t t' : Nat → Value}

def updO (hb : Own → Option Nat) (ℓ : Own) (b : Option Nat) : Own → Option Nat := fun x => if x = ℓ then b else hb x

@[simp] theorem upd_same {α : Type} (f : Nat → α) (i : Nat) (v : α) : upd f i v i = v := by simp [upd]
theorem upd_ne {α : Type} (f : Nat → α) {i j : Nat} (v : α) (h : j ≠ i) : upd f i v j = f j := by simp [upd, h]
@[simp] theorem updO_same (f : Own → Option Nat) (i : Own) (v : Option Nat) : updO f i v i = v := by simp [updO]
theorem updO_ne (f : Own → Option Nat) {i j : Own} (v : Option Nat) (h : j ≠ i) : updO f i v j = f j := by simp [updO, h]

/-- The old blocks are as they were. -/
structure Ext (w w' : World) : Prop where
  os : w'.os = w.os
  tape : w'.tape = w.tape
  output : w'.output = w.output
  size : w.heap.size ≤ w'.heap.size
  block : ∀ b, b < w.heap.size → w'.heap[b]? = w.heap[b]?

theorem Ext.refl (w : World) : Ext w w := ⟨rfl, rfl, rfl, Nat.le_refl _, fun _ _ => rfl⟩
theorem Ext.alloc (w : World) (o : Obj) : Ext w (w.alloc o) := ⟨rfl, rfl, rfl, by simp, fun b h => heap_alloc_old w o b h⟩
theorem Ext.drew (w : World) : Ext w w.drew := ⟨rfl, rfl, rfl, Nat.le_refl _, fun _ _ => rfl⟩
theorem Ext.trans {a b c : World} (h : Ext a b) (k : Ext b c) : Ext a c :=
  ⟨k.os.trans h.os, k.tape.trans h.tape, k.output.trans h.output, Nat.le_trans h.size k.size, fun i hi => (k.block i (Nat.lt_of_lt_of_le hi h.size)).trans (h.block i hi)⟩

theorem cell_of_block {a : Addr} (h : w'.heap[a.block]? = w.heap[a.block]?) : w'.cell? a = w.cell? a := World.cell?_of_block h

/-- Cells that can't change lie in old blocks. -/
theorem Inv.keeps (h : Inv w0 gh0 Wr s gh t w) {S' : Nat → Nat} (he : ∀ b, b < w.heap.size → gh.S b ≠ 0 → w'.heap[b]? = w.heap[b]? ∧ gh.S b ≤ S' b) : Keeps w gh.S w' S' := by
  intro b o ho
  have hlt : b < w.heap.size := by
    rcases Nat.lt_or_ge b w.heap.size with h1 | h1
    · exact h1
    · have := h.marks b h1; omega
  obtain ⟨h1, h2⟩ := he b hlt (by omega)
  exact ⟨cell_of_block (a := ⟨b, o, none⟩) h1, by omega⟩

theorem ownA {s : St} {gh : Gh} {ℓ : Own} {b : Nat} (h : Uses s gh (.own ℓ) b) : gh.hb ℓ = some b := h.2

/-- New blocks, and new cells that can't change in them. -/
theorem Inv.world (h : Inv w0 gh0 Wr s gh t w) (he : Ext w w') (S' : Nat → Nat) (hS : ∀ b, b < w.heap.size → S' b = gh.S b) (hS' : ∀ b, w'.heap.size ≤ b → S' b = 0) :
    Inv w0 gh0 Wr s { gh with S := S' } t w' := by
  have hk : Keeps w gh.S w' S' := h.keeps fun b hb _ => ⟨he.block b hb, by rw [hS b hb]; exact Nat.le_refl _⟩
  have ho : ∀ (x : Option Nat) rows v, OwnR w gh.S x rows v → OwnR w' S' x rows v := fun x rows v hown => hown.keep fun b _ hb => ⟨he.block b hb, hS b hb⟩
  refine { os := he.os.trans h.os, tape := he.tape.trans h.tape, output := he.output.trans h.output, size := Nat.le_trans h.size he.size, frame := fun b hb hW => ?_, wrNew := h.wrNew, s0 := fun b hb hW => (hS b (Nat.lt_of_lt_of_le hb h.size)).trans (h.s0 b hb hW), keep0 := h.keep0.trans hk, m0 := h.m0, marks := hS', slots := fun i => ?_, gobs := fun g rows hg => ?_, lobs := fun l rows hl => ?_, zero := fun k b hu hk => ?_, uses := fun k b hu => ?_, one := h.one, nx := h.nx }
  · exact (he.block b (Nat.lt_of_lt_of_le hb h.size)).trans (h.frame b hb hW)
  · exact (h.slots i).keep hk (.inr fun _ hg => ⟨hg, rfl, rfl⟩) (.inr fun _ => ⟨rfl, rfl⟩) (fun rows _ hown => ho _ _ _ hown)
  · refine ObjRep.keep hk (fun _ hg => ⟨hg, rfl, rfl⟩) (he.block _ ?_) (fun i c r row v _ _ hown => ho _ _ _ hown) (h.gobs g rows hg)
    exact (h.uses (.go g) _ ⟨by simp [hg], rfl⟩).2
  · refine ObjRep.keep hk (fun _ hg => ⟨hg, rfl, rfl⟩) (he.block _ ?_) (fun i c r row v _ _ hown => ho _ _ _ hown) (h.lobs l rows hl)
    exact (h.uses (.lo l) _ ⟨by simp [hl], rfl⟩).2
  · exact (hS b (h.uses k b hu).2).trans (h.zero k b hu hk)
  · exact ⟨(h.uses k b hu).1, Nat.lt_of_lt_of_le (h.uses k b hu).2 he.size⟩

/-- Slots anew, the world as it was. 'σ' tells where a right to append came from. -/
theorem Inv.reslot (h : Inv w0 gh0 Wr s gh t w) (fr' : Nat → DV) (t' : Nat → Value) (hb' : Own → Option Nat)
    (h1 : ∀ g i c, hb' (.ge g i c) = gh.hb (.ge g i c)) (h2 : ∀ l i c, hb' (.le l i c) = gh.hb (.le l i c))
    (hs : ∀ i, SRep w { gh with hb := hb' } (some (.sl i)) (fr' i) (t' i))
    (σ : Nat → Nat) (hσ : ∀ i b rows, fr' i = .lst true rows → hb' (.sl i) = some b → (∃ r, s.fr (σ i) = .lst true r) ∧ gh.hb (.sl (σ i)) = some b)
    (hinj : ∀ i j b, hb' (.sl i) = some b → hb' (.sl j) = some b → (∃ r, fr' i = .lst true r) → (∃ r, fr' j = .lst true r) → σ i = σ j → i = j) :
    Inv w0 gh0 Wr { s with fr := fr' } { gh with hb := hb' } t' w := by
  have back : ∀ k b, Uses { s with fr := fr' } { gh with hb := hb' } k b →
      (∃ k0, Uses s gh k0 b ∧ ((∃ i, k = .own (.sl i) ∧ k0 = .own (.sl (σ i))) ∨ ((∀ i, k ≠ .own (.sl i)) ∧ k0 = k))) := by
    intro k b hu
    match k, hu with
    | .own (.sl i), ⟨⟨rows, hr⟩, hb⟩ =>
      obtain ⟨⟨r, hr'⟩, hb0⟩ := hσ i b rows hr hb
      exact ⟨.own (.sl (σ i)), ⟨⟨r, hr'⟩, hb0⟩, .inl ⟨i, rfl, rfl⟩⟩
    | .own (.ge g i c), ⟨ha, hb⟩ => exact ⟨.own (.ge g i c), ⟨ha, (h1 g i c).symm.trans hb⟩, .inr ⟨fun _ e => by simp at e, rfl⟩⟩
    | .own (.le g i c), ⟨ha, hb⟩ => exact ⟨.own (.le g i c), ⟨ha, (h2 g i c).symm.trans hb⟩, .inr ⟨fun _ e => by simp at e, rfl⟩⟩
    | .go g, hu => exact ⟨.go g, hu, .inr ⟨fun _ e => by simp at e, rfl⟩⟩
    | .lo g, hu => exact ⟨.lo g, hu, .inr ⟨fun _ e => by simp at e, rfl⟩⟩
  have hO : ∀ (b sz : Nat) rows (mk : Nat → Nat → Own), (∀ i c, hb' (mk i c) = gh.hb (mk i c)) → ObjRep w gh b sz rows mk → ObjRep w { gh with hb := hb' } b sz rows mk := by
    intro b sz rows mk hmk ho
    exact ho.keep (gh := gh) (Keeps.refl _ _) (fun _ hg => ⟨hg, rfl, rfl⟩) rfl (fun i c r row v _ _ hown => by rw [show ({ gh with hb := hb' } : Gh).hb (mk i c) = gh.hb (mk i c) from hmk i c]; exact hown)
  refine { os := h.os, tape := h.tape, output := h.output, size := h.size, frame := h.frame, wrNew := h.wrNew, s0 := h.s0, keep0 := h.keep0, m0 := h.m0, marks := h.marks, slots := hs, gobs := fun g rows hg => hO _ _ _ _ (h1 g) (h.gobs g rows hg), lobs := fun l rows hl => hO _ _ _ _ (h2 l) (h.lobs l rows hl), zero := fun k b hu hk => ?_, uses := fun k b hu => ?_, one := fun k k' b hu hu' => ?_, nx := h.nx }
  · obtain ⟨k0, hu0, ⟨i, rfl, _⟩ | ⟨_, rfl⟩⟩ := back k b hu
    · exact absurd rfl (hk (.sl i))
    · exact h.zero _ b hu0 hk
  · obtain ⟨k0, hu0, _⟩ := back k b hu
    exact h.uses k0 b hu0
  · obtain ⟨k0, hu0, hc⟩ := back k b hu
    obtain ⟨k1, hu1, hc'⟩ := back k' b hu'
    have he := h.one k0 k1 b hu0 hu1
    rcases hc with ⟨i, rfl, rfl⟩ | ⟨hn, rfl⟩ <;> rcases hc' with ⟨j, rfl, rfl⟩ | ⟨hn', rfl⟩
    · simp only [Key.own.injEq, Own.sl.injEq] at he
      rw [hinj i j b hu.2 hu'.2 hu.1 hu'.1 he]
    · exact absurd he.symm (hn' _)
    · exact absurd he (hn _)
    · exact he

/-- The other slots' relation, where a slot's home is told anew. -/
theorem SRep.rehb {ℓ : Option Own} {d : DV} {v : Value} (hb' : Own → Option Nat) (he : ∀ x, ℓ = some x → hb' x = gh.hb x) (h : SRep w gh ℓ d v) : SRep w { gh with hb := hb' } ℓ d v := by
  refine h.keep (gh := gh) (Keeps.refl _ _) (.inr fun _ hg => ⟨hg, rfl, rfl⟩) (.inr fun _ => ⟨rfl, rfl⟩) (fun rows _ hown => ?_)
  cases ℓ with
  | none => exact hown
  | some x => simpa [he x rfl] using hown

theorem SRep.nohome {ℓ : Option Own} {d : DV} {v : Value} (h : SRep w gh none d v) (hb' : Own → Option Nat) (he : ∀ x, ℓ = some x → hb' x = none) : SRep w { gh with hb := hb' } ℓ d v := by
  refine SRep.keep (gh := gh) (Keeps.refl _ _) (.inr fun _ hg => ⟨hg, rfl, rfl⟩) (.inr fun _ => ⟨rfl, rfl⟩) (fun rows _ hown => ?_) h
  cases ℓ with
  | none => exact hown
  | some x => simpa [he x rfl] using hown

/-- A slot gets a value without a right to append (but the empty list's). -/
theorem Inv.put (h : Inv w0 gh0 Wr s gh t w) (i : Nat) {d : DV} {v : Value} (hv : SRep w gh none d v) :
    Inv w0 gh0 Wr { s with fr := upd s.fr i d } { gh with hb := updO gh.hb (.sl i) none } (upd t i v) w := by
  refine h.reslot _ _ _ (fun _ _ _ => updO_ne _ _ (by simp)) (fun _ _ _ => updO_ne _ _ (by simp)) (fun j => ?_) id (fun j b rows hr hb => ?_) (fun i j b _ _ _ _ he => he)
  · by_cases e : j = i
    · subst e
      simp only [upd_same]
      exact hv.nohome _ (fun x hx => by cases hx; simp)
    · rw [upd_ne _ _ e, upd_ne _ _ e]
      exact (h.slots j).rehb _ (fun x hx => by cases hx; exact updO_ne _ _ (by simpa using e))
  · by_cases e : j = i
    · subst e; simp at hb
    · rw [upd_ne _ _ e] at hr
      rw [updO_ne _ _ (by simpa using e)] at hb
      exact ⟨⟨rows, hr⟩, hb⟩

theorem Rep.wk1 {S : Nat → Nat} {d : DV} {v : Value} (h : Rep w S d v) : Rep w S (wk1 d) v := by
  cases h with
  | nil A => exact .lst (b := 0) (o := 0) (sz := 0) (u := fun _ _ => default) rfl (Nat.le_refl 0) (Nat.zero_le _) (fun h => absurd rfl h) (fun i row hr => by simp at hr) (fun i row j d hr => by simp at hr)
  | lst a b c d e f => exact .lst a b c d e f
  | any => exact .any _
  | val => exact .val _
  | pim a b => exact .pim a b
  | agg a b => exact .agg a b
  | tup a b => exact .tup a b
  | clo a b => exact .clo a b

theorem CRep.wk1 {ℓ : Option Own} {d : DV} {v : Value} (h : CRep w gh ℓ d v) : CRep w gh none (wk1 d) v := by
  cases d with
  | lst o rows => cases o with
    | true => exact h.1
    | false => exact h
  | _ => exact h

theorem noL_wk1 {d : DV} (h : noL d = true) : noL (wk1 d) = true := by cases d <;> simp_all [wk1, noL]

theorem SRep.wk {ℓ : Option Own} {d : DV} {v : Value} (h : SRep w gh ℓ d v) : SRep w gh none (wk d) v := by
  cases d with
  | lst o rows => cases o with
    | true => exact h.1
    | false => exact h
  | agg cs =>
    obtain ⟨vs, rfl, h1, h2⟩ := h
    refine ⟨vs, rfl, by simpa using h1, fun j c u hc hu => ?_⟩
    simp only [List.getElem?_map, Option.map_eq_some_iff] at hc
    obtain ⟨c0, hc0, rfl⟩ := hc
    exact ⟨noL_wk1 (h2 j c0 u hc0 hu).1, (h2 j c0 u hc0 hu).2.wk1⟩
  | _ => exact h

/-- A right to append goes from a slot to another one. -/
theorem Inv.move (h : Inv w0 gh0 Wr s gh t w) {n i : Nat} (hn : n ≠ i) :
    Inv w0 gh0 Wr { s with fr := upd (upd s.fr n (AM.wk (s.fr n))) i (s.fr n) } { gh with hb := updO (updO gh.hb (.sl n) none) (.sl i) (gh.hb (.sl n)) } (upd t i (t n)) w := by
  have hni : (Own.sl n) ≠ (Own.sl i) := by simpa using hn
  refine h.reslot _ _ _ (fun _ _ _ => by rw [updO_ne _ _ (by simp), updO_ne _ _ (by simp)]) (fun _ _ _ => by rw [updO_ne _ _ (by simp), updO_ne _ _ (by simp)]) (fun j => ?_) (fun j => if j = i then n else j) (fun j b rows hr hb => ?_) (fun j k b hj hk hrj hrk he => ?_)
  · by_cases e : j = i
    · subst e
      simp only [upd_same]
      refine (h.slots n).keep (gh := gh) (Keeps.refl _ _) (.inr fun _ hg => ⟨hg, rfl, rfl⟩) (.inr fun _ => ⟨rfl, rfl⟩) (fun rows _ hown => ?_)
      simpa using hown
    · rw [upd_ne _ _ e, upd_ne _ _ e]
      by_cases e' : j = n
      · subst e'
        rw [upd_same]
        exact (h.slots j).wk.nohome _ (fun x hx => by cases hx; rw [updO_ne _ _ hni, updO_same])
      · rw [upd_ne _ _ e']
        exact (h.slots j).rehb _ (fun x hx => by cases hx; rw [updO_ne _ _ (by simpa using e), updO_ne _ _ (by simpa using e')])
  · by_cases e : j = i
    · subst e
      simp only [upd_same, updO_same, if_pos] at hr hb ⊢
      exact ⟨⟨rows, hr⟩, hb⟩
    · rw [upd_ne _ _ e] at hr
      rw [updO_ne _ _ (by simpa using e)] at hb
      simp only [if_neg e]
      by_cases e' : j = n
      · subst e'
        simp at hb
      · rw [upd_ne _ _ e'] at hr
        rw [updO_ne _ _ (by simpa using e')] at hb
        exact ⟨⟨rows, hr⟩, hb⟩
  · by_cases ej : j = i <;> by_cases ek : k = i <;> simp only [ej, ek, if_true, if_false] at he ⊢
    · subst he; rw [updO_ne _ _ (by simpa using ek)] at hk; simp at hk
    · subst he; rw [updO_ne _ _ (by simpa using ej)] at hj; simp at hj
    · exact he

/-- A slot gets a list that may be appended to, in a block that nothing else uses. -/
theorem Inv.putOwn (h : Inv w0 gh0 Wr s gh t w) (i : Nat) {rows : Rows} {v : Value} {b : Nat} (hv : Rep w gh.S (.lst false rows) v) (hown : OwnR w gh.S (some b) rows v)
    (hnew : ∀ k, ¬ Uses s gh k b) (hW : Wr b) (hlt : b < w.heap.size) :
    Inv w0 gh0 Wr { s with fr := upd s.fr i (.lst true rows) } { gh with hb := updO gh.hb (.sl i) (some b) } (upd t i v) w := by
  have h0 := h.put i (d := .any) (v := v) (.any v)
  have key : ∀ k x, Uses { s with fr := upd s.fr i (.lst true rows) } { gh with hb := updO gh.hb (.sl i) (some b) } k x →
      (k = .own (.sl i) ∧ x = b) ∨ (k ≠ .own (.sl i) ∧ Uses s gh k x) := by
    intro k x hu
    by_cases e : k = .own (.sl i)
    · subst e
      left
      have := hu.2
      simp at this
      exact ⟨rfl, this.symm⟩
    · right
      refine ⟨e, ?_⟩
      match k, hu, e with
      | .own (.sl j), ⟨⟨r, hr⟩, hb⟩, e =>
        have e' : j ≠ i := by simpa using e
        simp only [upd_ne _ _ e'] at hr
        have hb2 : gh.hb (.sl j) = some x := by simpa [updO_ne, e'] using hb
        exact ⟨⟨r, hr⟩, hb2⟩
      | .own (.ge g a c), ⟨ha, hb⟩, _ => exact ⟨ha, by simpa [updO] using hb⟩
      | .own (.le g a c), ⟨ha, hb⟩, _ => exact ⟨ha, by simpa [updO] using hb⟩
      | .go g, hu, _ => exact hu
      | .lo g, hu, _ => exact hu
  have hO : ∀ (b' sz : Nat) rows' (mk : Nat → Nat → Own), (∀ i' c, mk i' c ≠ .sl i) → ObjRep w gh b' sz rows' mk → ObjRep w { gh with hb := updO gh.hb (.sl i) (some b) } b' sz rows' mk := by
    intro b' sz rows' mk hmk ho
    exact ho.keep (gh := gh) (Keeps.refl _ _) (fun _ hg => ⟨hg, rfl, rfl⟩) rfl (fun i' c r row v _ _ hown => by rw [show ({ gh with hb := updO gh.hb (.sl i) (some b) } : Gh).hb (mk i' c) = gh.hb (mk i' c) from updO_ne _ _ (hmk i' c)]; exact hown)
  refine { os := h.os, tape := h.tape, output := h.output, size := h.size, frame := h.frame, wrNew := h.wrNew, s0 := h.s0, keep0 := h.keep0, m0 := h.m0, marks := h.marks, slots := fun j => ?_, gobs := fun g rows hg => hO _ _ _ _ (fun _ _ => by simp) (h.gobs g rows hg), lobs := fun l rows hl => hO _ _ _ _ (fun _ _ => by simp) (h.lobs l rows hl), zero := fun k x hu hk => ?_, uses := fun k x hu => ?_, one := fun k k' x hu hu' => ?_, nx := h.nx }
  · by_cases e : j = i
    · subst e
      simp only [upd_same]
      exact ⟨hv, by simpa using hown⟩
    · show SRep w _ (some (.sl j)) (upd s.fr i (.lst true rows) j) (upd t i v j)
      rw [upd_ne _ _ e, upd_ne _ _ e]
      exact (h.slots j).rehb _ (fun x hx => by cases hx; exact updO_ne _ _ (by simpa using e))
  · rcases key k x hu with ⟨rfl, rfl⟩ | ⟨_, hu⟩
    · exact absurd rfl (hk _)
    · exact h.zero k x hu hk
  · rcases key k x hu with ⟨rfl, rfl⟩ | ⟨_, hu⟩
    · exact ⟨hW, hlt⟩
    · exact h.uses k x hu
  · rcases key k x hu with ⟨rfl, rfl⟩ | ⟨_, hu⟩ <;> rcases key k' _ hu' with ⟨rfl, e⟩ | ⟨_, hu'⟩
    · rfl
    · exact absurd hu' (hnew _)
    · exact absurd (e ▸ hu) (hnew _)
    · exact h.one k k' x hu hu'

end Go.AM
