/- Objects: made, written. -/
import Derived.Test.YtnglcmfgkcdgcaaGreatAmA3
namespace Go.AM
open Go

set_option linter.unusedVariables false
variable {w0 w w' : World} {Wr : Nat → Prop} {s s' : St} {gh gh' gh0 : Gh} {t t' : Nat → Value}

/-- Writing into a list from a place on. -/
theorem get_splice {α : Type} (l vs : List α) (o k : Nat) (h : o + vs.length ≤ l.length) :
    (l.take o ++ vs ++ l.drop (o + vs.length))[k]? = if k < o then l[k]? else if k < o + vs.length then vs[k - o]? else l[k]? := by
  have hl : (l.take o).length = o := by simp; omega
  by_cases h1 : k < o
  · rw [if_pos h1, List.append_assoc, List.getElem?_append_left (by omega), List.getElem?_take, if_pos h1]
  · rw [if_neg h1, List.append_assoc, List.getElem?_append_right (by omega), hl]
    by_cases h2 : k < o + vs.length
    · rw [if_pos h2, List.getElem?_append_left (by omega)]
    · rw [if_neg h2, List.getElem?_append_right (by omega), List.getElem?_drop]
      congr 1
      omega

theorem length_splice {α : Type} (l vs : List α) (o : Nat) (h : o + vs.length ≤ l.length) : (l.take o ++ vs ++ l.drop (o + vs.length)).length = l.length := by
  simp; omega

/-- The homes of an object that a slot makes hold nothing yet. -/
def hbNewLoc (hb : Own → Option Nat) (d : Nat) : Own → Option Nat
  | .le l i c => if l = d then none else hb (.le l i c)
  | .sl i => if i = d then none else hb (.sl i)
  | x => hb x

def hbNewGl (hb : Own → Option Nat) (g d : Nat) : Own → Option Nat
  | .ge l i c => if l = g then none else hb (.ge l i c)
  | .sl i => if i = d then none else hb (.sl i)
  | x => hb x

theorem kill_lst {d : Nat} {x : DV} {rows : Rows} (h : kill d x = .lst true rows) : x = .lst true rows := by
  cases x <;> simp_all [kill] <;> (split at h <;> simp_all)

/-- What points to an elder object of that slot is forgotten. -/
theorem SRep.kill {d : Nat} {ℓ : Option Own} {x : DV} {v : Value} (lmu' lsz' : Nat → Nat) (hl : ∀ l, l ≠ d → lmu' l = gh.lmu l ∧ lsz' l = gh.lsz l)
    (h : SRep w gh ℓ x v) : SRep w { gh with lmu := lmu', lsz := lsz' } ℓ (AM.kill d x) v := by
  have hA : SRep w { gh with lmu := lmu', lsz := lsz' } ℓ .any v := Rep.any v
  have gen : lnames x = false → SRep w { gh with lmu := lmu', lsz := lsz' } ℓ x v := fun hx =>
    h.keep (gh := gh) (Keeps.refl _ _) (.inr fun _ hg => ⟨hg, rfl, rfl⟩) (.inl hx) (fun _ _ hown => hown)
  cases x with
  | lref l i c =>
    simp only [AM.kill]
    split
    · exact hA
    · rename_i hne
      show v = _
      simp only [(hl l hne).1, (hl l hne).2]
      exact h
  | larr l i c =>
    simp only [AM.kill]
    split
    · exact hA
    · rename_i hne
      obtain ⟨A, cap, h1, h2, h3, h4⟩ := h
      exact ⟨A, cap, h1, h2, h3, fun hc => by simp only [(hl l hne).1, (hl l hne).2]; exact h4 hc⟩
  | clo f caps =>
    simp only [AM.kill]
    split
    · exact hA
    · rename_i hne
      obtain ⟨vs, rfl, h1, h2⟩ := h
      refine ⟨vs, rfl, h1, fun j c u hc hu => ?_⟩
      have hm := List.mem_of_getElem? hc
      simp only [Bool.not_eq_true, List.any_eq_false] at hne
      have hne := hne c hm
      have hcu := h2 j c u hc hu
      cases c with
      | lref l i k =>
        have hld : l ≠ d := by simpa using hne
        show u = _
        simp only [(hl l hld).1, (hl l hld).2]
        exact hcu
      | larr l i k =>
        have hld : l ≠ d := by simpa using hne
        obtain ⟨A, cap, h1, h2, h3, h4⟩ := hcu
        exact ⟨A, cap, h1, h2, h3, fun hc => by simp only [(hl l hld).1, (hl l hld).2]; exact h4 hc⟩
      | _ => exact CRep.keep (gh := gh) (Keeps.refl _ _) (.inr fun _ hg => ⟨hg, rfl, rfl⟩) (.inl rfl) (fun _ _ hown => hown) hcu
  | lst o rows => exact gen rfl
  | any => exact gen rfl
  | val x => exact gen rfl
  | agg cs => exact gen rfl
  | tup cs => exact gen rfl
  | pim cs => exact gen rfl
  | ref g i c => exact gen rfl
  | arr g i c => exact gen rfl

/-- Cells of a new object, as they are given. -/
def NewCells (w : World) (gh : Gh) (sz : Nat) (rows : Rows) (cur : Array Value) : Prop :=
  rows.length * sz ≤ cur.size ∧ ∀ (i : Nat) row, rows[i]? = some row → row.length = sz ∧
    ∀ (c : Nat) d, row[c]? = some d → cellC d = true ∧ ∃ u, cur[i * sz + c]? = some u ∧ u.oneCell' = true ∧ CRep w gh none d u

theorem OwnR.empty_any {S S' : Nat → Nat} {hb : Option Nat} {rows : Rows} {v : Value} (h : OwnR w S none rows v) : OwnR w' S' hb rows v := by
  rcases h with h | ⟨_, _, _, _, _, h, _⟩
  · exact .inl h
  · simp at h

theorem Inv.newLoc (h : Inv w0 gh0 Wr s gh t w) (d : Nat) {rows : Rows} {cur : Array Value} {e : TypeId} {sz : Nat} {vd : DV} {v : Value} (hc : NewCells w gh sz rows cur)
    (hvd : vd = .lref d 0 0 ∧ v = .pointer (some ⟨w.heap.size, 0, none⟩) ∨
      vd = .larr d 0 rows.length ∧ ∃ A cap, v = .slice A rows.length cap ∧ rows.length ≤ cap ∧ cap ≤ maxLen ∧ (rows.length ≠ 0 → A = some ⟨w.heap.size, 0, none⟩)) :
    Inv w0 gh0 Wr (s.ap (some d) (.loc rows vd)) { gh with lmu := upd gh.lmu d w.heap.size, lsz := upd gh.lsz d sz, hb := hbNewLoc gh.hb d } (upd t d v) (w.alloc (.cells cur e)) := by
  have he := Ext.alloc w (.cells cur e)
  have hS0 : gh.S w.heap.size = 0 := h.marks _ (Nat.le_refl _)
  have hsz1 : (w.alloc (.cells cur e)).heap.size = w.heap.size + 1 := by simp
  have h1 : Inv w0 gh0 Wr s gh t (w.alloc (.cells cur e)) := h.world he gh.S (fun _ _ => rfl) (fun b hb => h.marks b (by omega))
  have hk : Keeps w gh.S (w.alloc (.cells cur e)) gh.S := h.keeps fun b hb _ => ⟨he.block b hb, Nat.le_refl _⟩
  have hlm : ∀ l, l ≠ d → upd gh.lmu d w.heap.size l = gh.lmu l ∧ upd gh.lsz d sz l = gh.lsz l := fun l hl => ⟨upd_ne _ _ hl, upd_ne _ _ hl⟩
  have hO : ∀ (b' sz' : Nat) rows' (mk : Nat → Nat → Own), (∀ i' c, hbNewLoc gh.hb d (mk i' c) = gh.hb (mk i' c)) → ObjRep (w.alloc (.cells cur e)) gh b' sz' rows' mk →
      ObjRep (w.alloc (.cells cur e)) { gh with lmu := upd gh.lmu d w.heap.size, lsz := upd gh.lsz d sz, hb := hbNewLoc gh.hb d } b' sz' rows' mk := by
    intro b' sz' rows' mk hmk ho
    refine ho.keep (gh := gh) (Keeps.refl _ _) (fun _ hg => ⟨hg, rfl, rfl⟩) rfl (fun i' c r row v _ _ hown => ?_)
    show OwnR _ _ (hbNewLoc gh.hb d (mk i' c)) r v
    rw [hmk i' c]; exact hown
  have key : ∀ k x, Uses (s.ap (some d) (.loc rows vd)) { gh with lmu := upd gh.lmu d w.heap.size, lsz := upd gh.lsz d sz, hb := hbNewLoc gh.hb d } k x →
      (k = .lo d ∧ x = w.heap.size) ∨ (k ≠ .lo d ∧ Uses s gh k x) := by
    intro k x hu
    match k, hu with
    | .own (.sl j), ⟨⟨r, hr⟩, hb⟩ =>
      right
      simp only [hbNewLoc] at hb
      split at hb
      · simp at hb
      · rename_i hj
        refine ⟨by simp, ⟨r, ?_⟩, hb⟩
        simp only [St.ap, putO, Option.getD_some] at hr
        rw [upd_ne _ _ hj] at hr
        exact kill_lst hr
    | .own (.ge g a c), ⟨ha, hb⟩ => exact .inr ⟨by simp, ha, hb⟩
    | .own (.le l a c), ⟨⟨rs, row, rows', e1, e2, e3⟩, hb⟩ =>
      right
      simp only [hbNewLoc] at hb
      split at hb
      · simp at hb
      · rename_i hj
        refine ⟨by simp, ⟨rs, row, rows', ?_, e2, e3⟩, hb⟩
        simp only [St.ap, Option.getD_some] at e1
        rwa [upd_ne _ _ hj] at e1
    | .go g, hu => exact .inr ⟨by simp, hu⟩
    | .lo l, ⟨hl, hm⟩ =>
      by_cases e : l = d
      · subst e
        left
        simp only [upd_same] at hm
        exact ⟨rfl, hm.symm⟩
      · right
        simp only [upd_ne _ _ e] at hm
        simp only [St.ap, Option.getD_some, upd_ne _ _ e] at hl
        exact ⟨by simpa using e, hl, hm⟩
  have hold : ∀ k x, Uses s gh k x → x < w.heap.size := fun k x hu => (h.uses k x hu).2
  refine { os := h1.os, tape := h1.tape, output := h1.output, size := h1.size, frame := h1.frame, wrNew := h1.wrNew, s0 := h1.s0, keep0 := h1.keep0, m0 := h1.m0, marks := h1.marks, slots := fun j => ?_, gobs := fun g rows hg => hO _ _ _ _ (fun _ _ => rfl) (h1.gobs g rows hg), lobs := fun l rows' hl => ?_, zero := fun k x hu hk => ?_, uses := fun k x hu => ?_, one := fun k k' x hu hu' => ?_, nx := h1.nx }
  · simp only [St.ap, putO, Option.getD_some]
    by_cases ej : j = d
    · subst ej
      rw [upd_same, upd_same]
      rcases hvd with ⟨rfl, rfl⟩ | ⟨rfl, A, cap, rfl, ha, hb, hc⟩
      · show _ = _; simp
      · refine ⟨A, cap, rfl, ha, hb, fun hn => ?_⟩
        rw [hc hn]; simp
    · rw [upd_ne _ _ ej, upd_ne _ _ ej]
      have hj := ((h1.slots j).kill (d := d) (upd gh.lmu d w.heap.size) (upd gh.lsz d sz) hlm)
      refine hj.keep (gh := { gh with lmu := upd gh.lmu d w.heap.size, lsz := upd gh.lsz d sz }) (Keeps.refl _ _) (.inr fun _ hg => ⟨hg, rfl, rfl⟩) (.inr fun _ => ⟨rfl, rfl⟩) (fun r _ hown => ?_)
      show OwnR _ _ (hbNewLoc gh.hb d (.sl j)) _ _
      simp only [hbNewLoc, if_neg ej]
      exact hown
  · simp only [St.ap, Option.getD_some] at hl
    by_cases el : l = d
    · subst el
      simp only [upd_same, Option.some.injEq] at hl
      subst hl
      show ObjRep _ _ (upd gh.lmu l w.heap.size l) (upd gh.lsz l sz l) _ _
      rw [upd_same, upd_same]
      refine ⟨cur, e, heap_alloc_new w _, hc.1, fun i row hr => ⟨(hc.2 i row hr).1, fun c x hx => ?_⟩⟩
      obtain ⟨k0, u, k1, k2, k3⟩ := (hc.2 i row hr).2 c x hx
      refine ⟨k0, u, k1, k2, k3.keep (gh := gh) hk (.inr fun _ hg => ⟨hg, rfl, rfl⟩) (.inl (cellC_noL k0)) (fun r _ hown => hown.empty_any)⟩
    · rw [upd_ne _ _ el] at hl
      show ObjRep _ _ (upd gh.lmu d w.heap.size l) (upd gh.lsz d sz l) _ _
      rw [upd_ne _ _ el, upd_ne _ _ el]
      exact hO _ _ _ _ (fun i c => by simp [hbNewLoc, el]) (h1.lobs l rows' hl)
  · rcases key k x hu with ⟨rfl, rfl⟩ | ⟨_, hu⟩
    · exact hS0
    · exact h.zero k x hu hk
  · rcases key k x hu with ⟨rfl, rfl⟩ | ⟨_, hu⟩
    · exact ⟨h.wrNew _ h.size, by omega⟩
    · exact ⟨(h.uses k x hu).1, by have := hold k x hu; omega⟩
  · rcases key k x hu with ⟨rfl, rfl⟩ | ⟨_, hu⟩ <;> rcases key k' _ hu' with ⟨rfl, e⟩ | ⟨_, hu'⟩
    · rfl
    · exact absurd (hold _ _ hu') (by omega)
    · exact absurd (hold _ _ hu) (by omega)
    · exact h.one k k' x hu hu'

theorem Inv.newGl (h : Inv w0 gh0 Wr s gh t w) (d : Nat) {rows : Rows} {cur : Array Value} {e : TypeId} {sz : Nat} (hc : NewCells w gh sz rows cur) :
    Inv w0 gh0 Wr (s.ap (some d) (.glo rows)) { gh with mu := upd gh.mu s.gl.nx w.heap.size, sz := upd gh.sz s.gl.nx sz, hb := hbNewGl gh.hb s.gl.nx d, nx := gh.nx + 1 }
      (upd t d (.pointer (some ⟨w.heap.size, 0, none⟩))) (w.alloc (.cells cur e)) := by
  have he := Ext.alloc w (.cells cur e)
  have hS0 : gh.S w.heap.size = 0 := h.marks _ (Nat.le_refl _)
  have hsz1 : (w.alloc (.cells cur e)).heap.size = w.heap.size + 1 := by simp
  have h1 : Inv w0 gh0 Wr s gh t (w.alloc (.cells cur e)) := h.world he gh.S (fun _ _ => rfl) (fun b hb => h.marks b (by omega))
  have hk : Keeps w gh.S (w.alloc (.cells cur e)) gh.S := h.keeps fun b hb _ => ⟨he.block b hb, Nat.le_refl _⟩
  have hnx := h.nx.1
  have hgm : ∀ g, g < gh.nx → g < gh.nx + 1 ∧ upd gh.mu s.gl.nx w.heap.size g = gh.mu g ∧ upd gh.sz s.gl.nx sz g = gh.sz g :=
    fun g hg => ⟨by omega, upd_ne _ _ (by omega), upd_ne _ _ (by omega)⟩
  have hO : ∀ (b' sz' : Nat) rows' (mk : Nat → Nat → Own), (∀ i' c, hbNewGl gh.hb s.gl.nx d (mk i' c) = gh.hb (mk i' c)) → ObjRep (w.alloc (.cells cur e)) gh b' sz' rows' mk →
      ObjRep (w.alloc (.cells cur e)) { gh with mu := upd gh.mu s.gl.nx w.heap.size, sz := upd gh.sz s.gl.nx sz, hb := hbNewGl gh.hb s.gl.nx d, nx := gh.nx + 1 } b' sz' rows' mk := by
    intro b' sz' rows' mk hmk ho
    refine ho.keep (gh := gh) (Keeps.refl _ _) hgm rfl (fun i' c r row v _ _ hown => ?_)
    show OwnR _ _ (hbNewGl gh.hb s.gl.nx d (mk i' c)) r v
    rw [hmk i' c]; exact hown
  have key : ∀ k x, Uses (s.ap (some d) (.glo rows)) { gh with mu := upd gh.mu s.gl.nx w.heap.size, sz := upd gh.sz s.gl.nx sz, hb := hbNewGl gh.hb s.gl.nx d, nx := gh.nx + 1 } k x →
      (k = .go s.gl.nx ∧ x = w.heap.size) ∨ (k ≠ .go s.gl.nx ∧ Uses s gh k x) := by
    intro k x hu
    match k, hu with
    | .own (.sl j), ⟨⟨r, hr⟩, hb⟩ =>
      right
      simp only [hbNewGl] at hb
      split at hb
      · simp at hb
      · rename_i hj
        refine ⟨by simp, ⟨r, ?_⟩, hb⟩
        simp only [St.ap, putO] at hr
        rwa [upd_ne _ _ hj] at hr
    | .own (.le g a c), ⟨ha, hb⟩ => exact .inr ⟨by simp, ha, hb⟩
    | .own (.ge l a c), ⟨⟨rs, row, rows', e1, e2, e3⟩, hb⟩ =>
      right
      simp only [hbNewGl] at hb
      split at hb
      · simp at hb
      · rename_i hj
        refine ⟨by simp, ⟨rs, row, rows', ?_, e2, e3⟩, hb⟩
        simp only [St.ap] at e1
        rwa [upd_ne _ _ hj] at e1
    | .lo g, hu => exact .inr ⟨by simp, hu⟩
    | .go l, ⟨hl, hm⟩ =>
      by_cases e : l = s.gl.nx
      · subst e
        left
        simp only [upd_same] at hm
        exact ⟨rfl, hm.symm⟩
      · right
        simp only [upd_ne _ _ e] at hm
        simp only [St.ap, upd_ne _ _ e] at hl
        exact ⟨by simpa using e, hl, hm⟩
  have hold : ∀ k x, Uses s gh k x → x < w.heap.size := fun k x hu => (h.uses k x hu).2
  refine { os := h1.os, tape := h1.tape, output := h1.output, size := h1.size, frame := h1.frame, wrNew := h1.wrNew, s0 := h1.s0, keep0 := h1.keep0, m0 := ⟨by show gh0.nx ≤ gh.nx + 1; have := h1.m0.1; omega, fun g hg => by have := h1.m0.1; exact ⟨((hgm g (by omega)).2.1).trans (h1.m0.2 g hg).1, ((hgm g (by omega)).2.2).trans (h1.m0.2 g hg).2⟩⟩, marks := h1.marks, slots := fun j => ?_, gobs := fun l rows' hl => ?_, lobs := fun g rows hg => hO _ _ _ _ (fun _ _ => rfl) (h1.lobs g rows hg), zero := fun k x hu hk => ?_, uses := fun k x hu => ?_, one := fun k k' x hu hu' => ?_, nx := ?_ }
  · simp only [St.ap, putO]
    by_cases ej : j = d
    · subst ej
      rw [upd_same, upd_same]
      refine ⟨by simp only; omega, ?_⟩
      simp
    · rw [upd_ne _ _ ej, upd_ne _ _ ej]
      refine (h1.slots j).keep (gh := gh) (Keeps.refl _ _) (.inr hgm) (.inr fun _ => ⟨rfl, rfl⟩) (fun r _ hown => ?_)
      show OwnR _ _ (hbNewGl gh.hb s.gl.nx d (.sl j)) _ _
      simp only [hbNewGl, if_neg ej]
      exact hown
  · simp only [St.ap] at hl
    by_cases el : l = s.gl.nx
    · subst el
      simp only [upd_same, Option.some.injEq] at hl
      subst hl
      show ObjRep _ _ (upd gh.mu s.gl.nx w.heap.size s.gl.nx) (upd gh.sz s.gl.nx sz s.gl.nx) _ _
      rw [upd_same, upd_same]
      refine ⟨cur, e, heap_alloc_new w _, hc.1, fun i row hr => ⟨(hc.2 i row hr).1, fun c x hx => ?_⟩⟩
      obtain ⟨k0, u, k1, k2, k3⟩ := (hc.2 i row hr).2 c x hx
      exact ⟨k0, u, k1, k2, k3.keep (gh := gh) hk (.inr hgm) (.inl (cellC_noL k0)) (fun r _ hown => hown.empty_any)⟩
    · rw [upd_ne _ _ el] at hl
      show ObjRep _ _ (upd gh.mu s.gl.nx w.heap.size l) (upd gh.sz s.gl.nx sz l) _ _
      rw [upd_ne _ _ el, upd_ne _ _ el]
      exact hO _ _ _ _ (fun i c => by simp [hbNewGl, el]) (h1.gobs l rows' hl)
  · rcases key k x hu with ⟨rfl, rfl⟩ | ⟨_, hu⟩
    · exact hS0
    · exact h.zero k x hu hk
  · rcases key k x hu with ⟨rfl, rfl⟩ | ⟨_, hu⟩
    · exact ⟨h.wrNew _ h.size, by omega⟩
    · exact ⟨(h.uses k x hu).1, by have := hold k x hu; omega⟩
  · rcases key k x hu with ⟨rfl, rfl⟩ | ⟨_, hu⟩ <;> rcases key k' _ hu' with ⟨rfl, e⟩ | ⟨_, hu'⟩
    · rfl
    · exact absurd (hold _ _ hu') (by omega)
    · exact absurd (hold _ _ hu) (by omega)
    · exact h.one k k' x hu hu'
  · refine ⟨by show s.gl.nx + 1 = gh.nx + 1; omega, fun g hg => ?_⟩
    show g < s.gl.nx + 1
    by_cases e : g = s.gl.nx
    · omega
    · have : (s.gl.ob g).isSome = true := by simpa [St.ap, upd_ne _ _ e] using hg
      have := h.nx.2 g this
      omega

/-- An object's key: shared, or of the activation's own. -/
def okey : Bool → Nat → Key
  | true, g => .go g
  | false, l => .lo l
def oblk (gh : Gh) : Bool → Nat → Nat
  | true, g => gh.mu g
  | false, l => gh.lmu l
def osz (gh : Gh) : Bool → Nat → Nat
  | true, g => gh.sz g
  | false, l => gh.lsz l
def ohome : Bool → Nat → Nat → Nat → Own
  | true, g => .ge g
  | false, l => .le l
def orows (s : St) : Bool → Nat → Option Rows
  | true, g => s.gl.ob g
  | false, l => s.lo l
def oset (s : St) : Bool → Nat → Rows → St
  | true, g, rows => { s with gl := { s.gl with ob := upd s.gl.ob g (some rows) } }
  | false, l, rows => { s with lo := upd s.lo l (some rows) }

theorem Inv.obj (h : Inv w0 gh0 Wr s gh t w) {q : Bool} {g : Nat} {rows : Rows} (hr : orows s q g = some rows) : ObjRep w gh (oblk gh q g) (osz gh q g) rows (ohome q g) := by
  cases q
  · exact h.lobs g rows hr
  · exact h.gobs g rows hr

theorem Inv.ouse (h : Inv w0 gh0 Wr s gh t w) {q : Bool} {g : Nat} {rows : Rows} (hr : orows s q g = some rows) : Uses s gh (okey q g) (oblk gh q g) := by
  cases q
  · exact ⟨by simp only [orows] at hr; simp [hr], rfl⟩
  · exact ⟨by simp only [orows] at hr; simp [hr], rfl⟩

/-- An object's rows are written (its block alone has changed), slots are told anew; a right to append may go from a slot into a cell, or back: 'σ' tells where it came from. -/
theorem Inv.write (h : Inv w0 gh0 Wr s gh t w) {q : Bool} {g : Nat} {rows rows' : Rows} (hr : orows s q g = some rows)
    (hos : w'.os = w.os) (htp : w'.tape = w.tape) (hou : w'.output = w.output) (hsz : w'.heap.size = w.heap.size)
    (hbl : ∀ b, b ≠ oblk gh q g → w'.heap[b]? = w.heap[b]?)
    (fr' : Nat → DV) (t' : Nat → Value) (hb' : Own → Option Nat)
    (hs : ∀ i, SRep w' { gh with hb := hb' } (some (.sl i)) (fr' i) (t' i))
    (ho : ObjRep w' { gh with hb := hb' } (oblk gh q g) (osz gh q g) rows' (ohome q g))
    (hh : ∀ ℓ, (∀ i, ℓ ≠ .sl i) → (∀ i c, ℓ ≠ ohome q g i c) → hb' ℓ = gh.hb ℓ)
    (σ : Own → Own) (hσ : ∀ ℓ b, Act' (oset { s with fr := fr' } q g rows') ℓ → hb' ℓ = some b → Act' s (σ ℓ) ∧ gh.hb (σ ℓ) = some b)
    (hinj : ∀ ℓ ℓ' b, Act' (oset { s with fr := fr' } q g rows') ℓ → Act' (oset { s with fr := fr' } q g rows') ℓ' → hb' ℓ = some b → hb' ℓ' = some b → σ ℓ = σ ℓ' → ℓ = ℓ') :
    Inv w0 gh0 Wr (oset { s with fr := fr' } q g rows') { gh with hb := hb' } t' w' := by
  have hu0 := h.ouse hr
  have hS0 : gh.S (oblk gh q g) = 0 := h.zero _ _ hu0 (by cases q <;> simp [okey])
  have hlt0 := (h.uses _ _ hu0).2
  have hk : Keeps w gh.S w' gh.S := h.keeps fun b hb hS => ⟨hbl b (fun e => hS (e ▸ hS0)), Nat.le_refl _⟩
  have hO : ∀ (b' sz' : Nat) rows0 (mk : Nat → Nat → Own), (∀ i' c, hb' (mk i' c) = gh.hb (mk i' c)) → b' ≠ oblk gh q g → (∀ i c r row b, rows0[i]? = some row → row[c]? = some (.lst true r) → gh.hb (mk i c) = some b → b ≠ oblk gh q g) →
      ObjRep w gh b' sz' rows0 mk → ObjRep w' { gh with hb := hb' } b' sz' rows0 mk := by
    intro b' sz' rows0 mk hmk hne hne2 ho
    refine ho.keep (gh := gh) hk (fun _ hg => ⟨hg, rfl, rfl⟩) (hbl _ hne) (fun i' c r row v h1 h2 hown => ?_)
    show OwnR w' gh.S (hb' (mk i' c)) r v
    rw [hmk i' c]
    exact hown.keep fun b hb _ => ⟨hbl b (hne2 i' c r row b h1 h2 hb), rfl⟩
  have key : ∀ k x, Uses (oset { s with fr := fr' } q g rows') { gh with hb := hb' } k x → ∃ k0, Uses s gh k0 x ∧ ((∃ ℓ, k = .own ℓ ∧ k0 = .own (σ ℓ)) ∨ ((∀ ℓ, k ≠ .own ℓ) ∧ k0 = k)) := by
    intro k x hu
    match k, hu with
    | .own ℓ, ⟨ha, hb⟩ => exact ⟨.own (σ ℓ), hσ ℓ x ha hb, .inl ⟨ℓ, rfl, rfl⟩⟩
    | .go g', ⟨hg, hm⟩ =>
      refine ⟨.go g', ⟨?_, hm⟩, .inr ⟨fun _ e => by simp at e, rfl⟩⟩
      cases q
      · exact hg
      · simp only [oset] at hg
        by_cases e : g' = g
        · subst e; simp only [orows] at hr; simp [hr]
        · rwa [upd_ne _ _ e] at hg
    | .lo g', ⟨hg, hm⟩ =>
      refine ⟨.lo g', ⟨?_, hm⟩, .inr ⟨fun _ e => by simp at e, rfl⟩⟩
      cases q
      · simp only [oset] at hg
        by_cases e : g' = g
        · subst e; simp only [orows] at hr; simp [hr]
        · rwa [upd_ne _ _ e] at hg
      · exact hg
  refine { os := hos.trans h.os, tape := htp.trans h.tape, output := hou.trans h.output, size := by rw [hsz]; exact h.size, frame := fun b hb hW => ?_, wrNew := h.wrNew, s0 := h.s0, keep0 := h.keep0.trans hk, m0 := h.m0, marks := fun b hb => h.marks b (by rw [hsz] at hb; exact hb), slots := fun j => ?_, gobs := fun g' rows0 hg => ?_, lobs := fun l rows0 hl => ?_, zero := fun k x hu hk => ?_, uses := fun k x hu => ?_, one := fun k k' x hu hu' => ?_, nx := ?_ }
  · rw [hbl b (fun e => hW (e ▸ (h.uses _ _ hu0).1))]
    exact h.frame b hb hW
  · cases q <;> exact hs j
  · by_cases e : q = true ∧ g' = g
    · obtain ⟨rfl, rfl⟩ := e
      simp only [oset, upd_same, Option.some.injEq] at hg
      subst hg
      exact ho
    · have hg0 : s.gl.ob g' = some rows0 := by
        cases q
        · exact hg
        · have e' : g' ≠ g := fun x => e ⟨rfl, x⟩
          simp only [oset] at hg
          rwa [upd_ne _ _ e'] at hg
      have hug : Uses s gh (.go g') (gh.mu g') := ⟨by simp [hg0], rfl⟩
      have hkne : Key.go g' ≠ okey q g := by
        intro hx
        cases q
        · simp [okey] at hx
        · simp only [okey, Key.go.injEq] at hx; exact e ⟨rfl, hx⟩
      refine hO _ _ _ _ (fun i c => hh _ (fun _ => by simp) (fun i' c' => ?_)) (fun hx => hkne (h.one _ _ _ hug (hx ▸ hu0))) (fun i c r row b h1 h2 hb hx => ?_) (h.gobs g' rows0 hg0)
      · cases q
        · simp [ohome]
        · simp only [ohome]; intro hx; cases hx; exact e ⟨rfl, rfl⟩
      · subst hx
        have := h.one (.own (.ge g' i c)) _ _ ⟨⟨rows0, row, r, hg0, h1, h2⟩, hb⟩ hu0
        cases q <;> simp [okey] at this
  · by_cases e : q = false ∧ l = g
    · obtain ⟨rfl, rfl⟩ := e
      simp only [oset, upd_same, Option.some.injEq] at hl
      subst hl
      exact ho
    · have hl0 : s.lo l = some rows0 := by
        cases q
        · have e' : l ≠ g := fun x => e ⟨rfl, x⟩
          simp only [oset] at hl
          rwa [upd_ne _ _ e'] at hl
        · exact hl
      have hug : Uses s gh (.lo l) (gh.lmu l) := ⟨by simp [hl0], rfl⟩
      have hkne : Key.lo l ≠ okey q g := by
        intro hx
        cases q
        · simp only [okey, Key.lo.injEq] at hx; exact e ⟨rfl, hx⟩
        · simp [okey] at hx
      refine hO _ _ _ _ (fun i c => hh _ (fun _ => by simp) (fun i' c' => ?_)) (fun hx => hkne (h.one _ _ _ hug (hx ▸ hu0))) (fun i c r row b h1 h2 hb hx => ?_) (h.lobs l rows0 hl0)
      · cases q
        · simp only [ohome]; intro hx; cases hx; exact e ⟨rfl, rfl⟩
        · simp [ohome]
      · subst hx
        have := h.one (.own (.le l i c)) _ _ ⟨⟨rows0, row, r, hl0, h1, h2⟩, hb⟩ hu0
        cases q <;> simp [okey] at this
  · obtain ⟨k0, hu0, ⟨ℓ, rfl, _⟩ | ⟨_, rfl⟩⟩ := key k x hu
    · exact absurd rfl (hk ℓ)
    · exact h.zero _ x hu0 hk
  · obtain ⟨k0, hu0, _⟩ := key k x hu
    rw [hsz]
    exact h.uses k0 x hu0
  · obtain ⟨k0, hu0, hc⟩ := key k x hu
    obtain ⟨k1, hu1, hc'⟩ := key k' x hu'
    have he := h.one k0 k1 x hu0 hu1
    rcases hc with ⟨ℓ, rfl, rfl⟩ | ⟨hn, rfl⟩ <;> rcases hc' with ⟨ℓ', rfl, rfl⟩ | ⟨hn', rfl⟩
    · simp only [Key.own.injEq] at he
      rw [hinj ℓ ℓ' x hu.1 hu'.1 hu.2 hu'.2 he]
    · exact absurd he.symm (hn' _)
    · exact absurd he (hn _)
    · exact he
  · refine ⟨by cases q <;> exact h.nx.1, fun g' hg => ?_⟩
    cases q
    · exact h.nx.2 g' hg
    · simp only [oset] at hg ⊢
      by_cases e : g' = g
      · subst e; exact h.nx.2 _ (by simp only [orows] at hr; simp [hr])
      · rw [upd_ne _ _ e] at hg; exact h.nx.2 g' hg

end Go.AM
