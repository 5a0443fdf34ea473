/- What typed values say: rows, borders, states. -/
import Derived.Test.YtnglcmfgkcdgcaaGreatAmT1
namespace Go.AM
open Go
set_option linter.unusedVariables false
set_option linter.unusedSimpArgs false

theorem nbeq_iff {a b : Nat} : Nat.beq a b = true ↔ a = b := ⟨Nat.eq_of_beq_eq_true, fun h => h ▸ Nat.beq_refl a⟩
theorem nbeq {a b : Nat} : Nat.beq a b = decide (a = b) := by
  by_cases h : a = b
  · rw [nbeq_iff.2 h]; simp [h]
  · rw [Bool.eq_false_iff.2 fun e => h (nbeq_iff.1 e)]; simp [h]

theorem ers_eq : ∀ cs : List TV, TV.ers cs = cs.map TV.er
  | [] => rfl
  | c :: r => by simp [TV.ers, ers_eq r]

theorem er_agg (cs : List TV) : (TV.agg cs).er = .agg (cs.map TV.er) := by simp [TV.er, ers_eq]
theorem er_tup (cs : List TV) : (TV.tup cs).er = .tup (cs.map TV.er) := by simp [TV.er, ers_eq]
theorem er_pim (cs : List TV) : (TV.pim cs).er = .pim (cs.map TV.er) := by simp [TV.er, ers_eq]
theorem er_clo (f : FuncId) (cs : List TV) : (TV.clo f cs).er = .clo f (cs.map TV.er) := by simp [TV.er, ers_eq]

theorem cells_er : ∀ (t : Ty) (x : t.den), (t.cells x).map TV.er = t.row x
  | .unit, _ => rfl
  | .int k, n => rfl
  | .bool, b => rfl
  | .str, s => rfl
  | .lst t, xs => rfl
  | .pair a b, x => by simp [Ty.cells, Ty.row, cells_er a, cells_er b]
  | .pim t, x => by simp [Ty.cells, Ty.row, er_pim, cells_er t]
  | .clo f t, x => by simp [Ty.cells, Ty.row, er_clo, cells_er t]

theorem row_len : ∀ (t : Ty) (x : t.den), (t.row x).length = t.w
  | .unit, _ => rfl
  | .int k, n => rfl
  | .bool, b => rfl
  | .str, s => rfl
  | .lst t, xs => rfl
  | .pair a b, x => by simp [Ty.row, Ty.w, row_len a, row_len b]
  | .pim t, x => rfl
  | .clo f t, x => rfl

theorem cells_len (t : Ty) (x : t.den) : (t.cells x).length = t.w := by
  rw [← row_len t x, ← cells_er, List.length_map]

theorem castL_er {t t' : Ty} {xs : List t.den} {ys : List t'.den} (h : castL t t' xs = some ys) : xs.map t.row = ys.map t'.row := by
  unfold castL at h
  split at h
  · rename_i e
    subst e
    simp only [Option.some.injEq] at h
    subst h
    rfl
  · split at h
    · simp only [Option.some.injEq] at h
      subst h
      rfl
    · simp at h

theorem dec_er : ∀ (t : Ty) {cs r : List TV} {x : t.den}, t.dec cs = some (x, r) → cs.map TV.er = t.row x ++ r.map TV.er
  | .unit, cs, r, x, h => by
    simp only [Ty.dec, Option.some.injEq, Prod.mk.injEq] at h
    obtain ⟨-, rfl⟩ := h
    rfl
  | .int k, cs, r, x, h => by
    simp only [Ty.dec] at h
    split at h
    · simp only [Option.ite_none_right_eq_some, Option.some.injEq, Prod.mk.injEq] at h
      obtain ⟨rfl, rfl, rfl⟩ := h
      rfl
    · simp at h
  | .bool, cs, r, x, h => by
    simp only [Ty.dec] at h
    split at h
    · simp only [Option.some.injEq, Prod.mk.injEq] at h
      obtain ⟨rfl, rfl⟩ := h
      rfl
    · simp at h
  | .str, cs, r, x, h => by
    simp only [Ty.dec] at h
    split at h
    · simp only [Option.some.injEq, Prod.mk.injEq] at h
      obtain ⟨rfl, rfl⟩ := h
      rfl
    · simp at h
  | .lst t, cs, r, x, h => by
    simp only [Ty.dec] at h
    split at h
    · simp only [Option.map_eq_some_iff, Prod.mk.injEq] at h
      obtain ⟨ys, h1, rfl, rfl⟩ := h
      simp [TV.er, Ty.row, castL_er h1]
    · simp at h
  | .pair a b, cs, r, x, h => by
    simp only [Ty.dec, Option.bind_eq_some_iff, Option.map_eq_some_iff, Prod.mk.injEq] at h
    obtain ⟨⟨y, q⟩, h1, ⟨z, q'⟩, h2, rfl, rfl⟩ := h
    simp only at h2
    rw [dec_er a h1, dec_er b h2]
    simp [Ty.row]
  | .pim t, cs, r, x, h => by
    simp only [Ty.dec] at h
    split at h
    · split at h
      · rename_i h1
        simp only [Option.some.injEq, Prod.mk.injEq] at h
        obtain ⟨rfl, rfl⟩ := h
        have := dec_er t h1
        simp only [List.map_nil, List.append_nil] at this
        simp [er_pim, Ty.row, this]
      · simp at h
    · simp at h
  | .clo f t, cs, r, x, h => by
    simp only [Ty.dec] at h
    split at h
    · simp only [Option.ite_none_right_eq_some] at h
      obtain ⟨rfl, h⟩ := h
      split at h
      · rename_i h1
        simp only [Option.some.injEq, Prod.mk.injEq] at h
        obtain ⟨rfl, rfl⟩ := h
        have := dec_er t h1
        simp only [List.map_nil, List.append_nil] at this
        simp [er_clo, Ty.row, this]
      · simp at h
    · simp at h

theorem of_er {t : Ty} {cs : List TV} {x : t.den} (h : t.of cs = some x) : cs.map TV.er = t.row x := by
  unfold Ty.of at h
  split at h
  · rename_i h1
    simp only [Option.some.injEq] at h
    subst h
    simpa using dec_er t h1
  · simp at h

theorem wkT1_er (v : TV) : (wkT1 v).er = wk1 v.er := by
  cases v <;> simp [wkT1, wk1, TV.er]

theorem wkT1_ers (cs : List TV) : (cs.map wkT1).map TV.er = (cs.map TV.er).map wk1 := by
  simp [List.map_map, Function.comp_def, wkT1_er]

theorem wkT_er (v : TV) : (wkT v).er = wk v.er := by
  cases v <;> simp [wkT, wk, TV.er, ers_eq, wkT1_er, Function.comp_def]

theorem row_wk1 : ∀ (t : Ty) (x : t.den), (t.row x).map wk1 = t.row x
  | .unit, _ => rfl
  | .int k, n => rfl
  | .bool, b => rfl
  | .str, s => rfl
  | .lst t, xs => rfl
  | .pair a b, x => by simp [Ty.row, row_wk1 a, row_wk1 b]
  | .pim t, x => rfl
  | .clo f t, x => rfl

theorem eqT1_ok {a b : TV} (h : eqT1 a b = true) : a = b := by
  cases a <;> cases b <;> simp_all [eqT1]

theorem eqTs_ok : ∀ {a b : List TV}, eqTs a b = true → a = b
  | [], [], _ => rfl
  | a :: r, b :: q, h => by
    simp only [eqTs, Bool.and_eq_true] at h
    rw [eqT1_ok h.1, eqTs_ok h.2]
  | [], _ :: _, h => by simp [eqTs] at h
  | _ :: _, [], h => by simp [eqTs] at h

theorem eqT_ok {a b : TV} (h : eqT a b = true) : a = b ∧ wk b.er = b.er := by
  cases a <;> cases b <;> simp only [eqT, Bool.and_eq_true, nbeq_iff, eqT1, Bool.false_eq_true, reduceCtorEq] at h
  · obtain ⟨⟨rfl, rfl⟩, rfl⟩ := h; exact ⟨rfl, rfl⟩
  · obtain ⟨⟨rfl, rfl⟩, rfl⟩ := h; exact ⟨rfl, rfl⟩
  · obtain ⟨rfl, h⟩ := h
    rw [eqTs_ok h]
    exact ⟨rfl, rfl⟩

theorem cell1_er {t : Ty} {x : t.den} {d : DV} (h : t.row x = [d]) : (cell1 (t.cells x)).er = d := by
  have := cells_er t x
  rw [h] at this
  match h1 : t.cells x, this with
  | [c], h2 => simpa [cell1] using h2

/-- What is put is what is taken. -/
theorem put_tk {w : Bool} : ∀ {v : VT} {x : TV} {B : Type} {b : B} {y : v.times B}, v.put w x b = some y → (v.tk y).2 = b ∧ (v.tk y).1.er = if w = true ∧ v.strong = false then wk x.er else x.er := by
  intro v x B b y h
  cases v with
  | c t =>
    simp only [VT.put, Option.map_eq_some_iff] at h
    obtain ⟨z, h1, rfl⟩ := h
    refine ⟨rfl, ?_⟩
    have h2 := of_er h1
    simp only [List.map_cons, List.map_nil] at h2
    rw [show (VT.c t).tk (B := B) (z, b) = (cell1 (t.cells z), b) from rfl, cell1_er h2.symm]
    cases w <;> simp [VT.strong, wkT_er]
  | own t =>
    simp only [VT.put] at h
    split at h
    · simp only [Option.map_eq_some_iff] at h
      obtain ⟨z, h1, rfl⟩ := h
      exact ⟨rfl, by simp [VT.tk, VT.strong, TV.er, castL_er h1]⟩
    · simp at h
  | agg t =>
    simp only [VT.put] at h
    split at h
    · simp only [Option.map_eq_some_iff] at h
      obtain ⟨z, h1, rfl⟩ := h
      refine ⟨rfl, ?_⟩
      have h2 := of_er h1
      rw [show (VT.agg t).tk (B := B) (z, b) = (.agg (t.cells z), b) from rfl, er_agg, cells_er, ← h2]
      cases w <;> simp [VT.strong, er_agg, wk, Function.comp_def, wkT1_er]
    · simp at h
  | gr g =>
    simp only [VT.put, cond_eq_ite, Option.ite_none_right_eq_some, Option.some.injEq] at h
    obtain ⟨h1, rfl⟩ := h
    obtain ⟨rfl, h2⟩ := eqT_ok h1
    refine ⟨rfl, ?_⟩
    simp only [VT.tk, VT.strong, and_true]
    split
    · exact h2.symm
    · rfl
  | larr s =>
    simp only [VT.put] at h
    split at h
    · simp only [cond_eq_ite, Option.ite_none_right_eq_some, Option.some.injEq, nbeq_iff] at h
      obtain ⟨rfl, rfl⟩ := h
      exact ⟨rfl, by simp [VT.tk, TV.er, wk]⟩
    · simp at h
  | arr s =>
    simp only [VT.put] at h
    split at h
    · simp only [cond_eq_ite, Option.ite_none_right_eq_some, Option.some.injEq, nbeq_iff] at h
      obtain ⟨rfl, rfl⟩ := h
      exact ⟨rfl, by simp [VT.tk, TV.er, wk]⟩
    · simp at h
  | lref s q =>
    simp only [VT.put] at h
    split at h
    · simp only [cond_eq_ite, Option.ite_none_right_eq_some, Option.some.injEq, nbeq_iff, Bool.and_eq_true] at h
      obtain ⟨⟨rfl, rfl⟩, rfl⟩ := h
      exact ⟨rfl, by simp [VT.tk, TV.er, wk]⟩
    · simp at h
  | ref s q =>
    simp only [VT.put] at h
    split at h
    · simp only [cond_eq_ite, Option.ite_none_right_eq_some, Option.some.injEq, nbeq_iff, Bool.and_eq_true] at h
      obtain ⟨⟨rfl, rfl⟩, rfl⟩ := h
      exact ⟨rfl, by simp [VT.tk, TV.er, wk]⟩
    · simp at h

theorem decL_enc : ∀ {l : List VT} {cs : List TV} {x : denL l}, decL l cs = some x → (encL l x).map TV.er = cs.map TV.er
  | [], [], x, h => rfl
  | [], _ :: _, x, h => by simp [decL] at h
  | v :: r, [], x, h => by simp [decL] at h
  | v :: r, c :: q, x, h => by
    simp only [decL, Option.bind_eq_some_iff] at h
    obtain ⟨b, h1, h2⟩ := h
    obtain ⟨h3, h4⟩ := put_tk h2
    simp only [encL, List.map_cons]
    rw [h3, decL_enc h1, h4]
    simp

theorem oput_tk : ∀ {o : OT} {x : TR} {B : Type} {b : B} {y : o.times B}, o.put x b = some y → (o.tk y).2 = b ∧ (o.tk y).1.er = x.er := by
  intro o x B b y h
  cases o with
  | one cs =>
    simp only [OT.put] at h
    split at h
    · simp only [Option.map_eq_some_iff] at h
      obtain ⟨z, h1, rfl⟩ := h
      refine ⟨rfl, ?_⟩
      simp [OT.tk, TR.er, ers_eq, decL_enc h1]
    · simp at h
  | many t =>
    simp only [OT.put] at h
    split at h
    · simp only [Option.map_eq_some_iff] at h
      obtain ⟨z, h1, rfl⟩ := h
      exact ⟨rfl, by simp [OT.tk, TR.er, castL_er h1]⟩
    · simp at h

theorem aget_aset {α : Type} : ∀ (l : List (Nat × α)) (i : Nat) (v : α) (j : Nat), aget (aset l i v) j = if j = i then some v else aget l j
  | [], i, v, j => by
    simp only [aset, aget, nbeq, cond_eq_ite, decide_eq_true_eq]
    split <;> split <;> simp_all
  | (k, w) :: r, i, v, j => by
    simp only [aset, aget, nbeq, cond_eq_ite, decide_eq_true_eq]
    split
    · simp only [aget, nbeq, cond_eq_ite, decide_eq_true_eq]
      subst_vars
      split
      · simp_all
      · rename_i h; rw [if_neg (fun e => h e.symm)]
    · simp only [aget, nbeq, cond_eq_ite, decide_eq_true_eq, aget_aset r]
      split
      · subst_vars; simp_all
      · rfl

theorem aget_adel {α : Type} : ∀ (l : List (Nat × α)) (i j : Nat), aget (adel l i) j = if j = i then none else aget l j
  | [], i, j => by simp [adel, aget]
  | (k, w) :: r, i, j => by
    simp only [adel, aget, nbeq, cond_eq_ite, decide_eq_true_eq]
    split
    · subst_vars
      rw [aget_adel r]
      split
      · rfl
      · rename_i h; rw [if_neg (fun e => h e.symm)]
    · simp only [aget, nbeq, cond_eq_ite, decide_eq_true_eq, aget_adel r]
      split
      · subst_vars; simp_all
      · rfl

theorem get_set (f : TFr) (i : Nat) (v : TV) (j : Nat) : TFr.get (aset f i v) j = if j = i then v else f.get j := by
  simp only [TFr.get, aget_aset]
  split <;> simp

theorem aget_map {α β : Type} (l : List (Nat × α)) (g : α → β) (j : Nat) : aget (l.map fun p => (p.1, g p.2)) j = (aget l j).map g := by
  induction l with
  | nil => rfl
  | cons p r ih =>
    simp only [List.map_cons, aget, nbeq, cond_eq_ite, decide_eq_true_eq, ih]
    split <;> rfl

theorem get_amap (g : TV → TV) (hg : g .any = .any) : ∀ (f : TFr) (j : Nat), TFr.get (amap g f) j = g (f.get j)
  | [], j => by simp [amap, TFr.get, aget, hg]
  | (i, v) :: r, j => by
    have := get_amap g hg r j
    simp only [TFr.get] at this ⊢
    simp only [amap, aget, nbeq, cond_eq_ite, decide_eq_true_eq]
    split
    · rfl
    · exact this

/-- The slots that are kept, for a list. -/
def howL (its : List It) (i : Nat) : Option Bool := its.findSome? fun
  | .sl j v => if j = i then some v.strong else none
  | _ => none

theorem howL_sl {j : Nat} {v : VT} {r : List It} {i : Nat} : howL (.sl j v :: r) i = if j = i then some v.strong else howL r i := by
  simp only [howL, List.findSome?_cons]
  split
  · rename_i h; split at h
    · simp_all
    · simp at h
  · rename_i h; split at h
    · simp at h
    · simp_all

def gl? : It → Option Nat
  | .gl g _ => some g
  | _ => none

theorem its_enc {w : Bool} : ∀ {l : List It} {T : TSt} {x : itsDen l}, itsDec w l T = some x →
    (∀ i, ((itsEnc l x).fr.get i).er = match howL l i with | none => .any | some b => if w = true ∧ b = false then wk (T.fr.get i).er else (T.fr.get i).er) ∧
    (∀ i, (aget (itsEnc l x).lo i).map TR.er = if l.any (fun y => y.loc? == some i) then (aget T.lo i).map TR.er else none) ∧
    (∀ i, (aget (itsEnc l x).gl.ob i).map TR.er = if l.any (fun y => gl? y == some i) then (aget T.gl.ob i).map TR.er else none)
  | [], T, x, h => ⟨fun i => rfl, fun i => rfl, fun i => rfl⟩
  | .sl j v :: r, T, x, h => by
    simp only [itsDec, Option.bind_eq_some_iff] at h
    obtain ⟨b, h1, h2⟩ := h
    obtain ⟨h3, h4⟩ := put_tk h2
    obtain ⟨k1, k2, k3⟩ := its_enc h1
    simp only [itsEnc, h3]
    refine ⟨fun i => ?_, fun i => ?_, fun i => ?_⟩
    · simp only [howL_sl, TFr.get, aget, nbeq, cond_eq_ite, decide_eq_true_eq]
      split
      · subst_vars
        simpa [TFr.get] using h4
      · exact k1 i
    · simpa [It.loc?] using k2 i
    · simpa [gl?] using k3 i
  | .lo j o :: r, T, x, h => by
    simp only [itsDec, Option.bind_eq_some_iff] at h
    obtain ⟨b, h1, h2⟩ := h
    split at h2
    case h_2 => simp at h2
    rename_i z hz
    obtain ⟨h3, h4⟩ := oput_tk h2
    obtain ⟨k1, k2, k3⟩ := its_enc h1
    simp only [itsEnc, h3]
    refine ⟨fun i => ?_, fun i => ?_, fun i => ?_⟩
    · simpa [howL] using k1 i
    · simp only [aget, nbeq, cond_eq_ite, decide_eq_true_eq, List.any_cons]
      split
      · subst_vars
        simp [h4, hz, It.loc?]
      · rename_i hne
        rw [k2 i]
        have : ((It.lo j o).loc? == some i) = false := by simpa [It.loc?] using hne
        simp only [this, Bool.false_or]
    · simpa [gl?] using k3 i
  | .gl j o :: r, T, x, h => by
    simp only [itsDec, Option.bind_eq_some_iff] at h
    obtain ⟨b, h1, h2⟩ := h
    split at h2
    case h_2 => simp at h2
    rename_i z hz
    obtain ⟨h3, h4⟩ := oput_tk h2
    obtain ⟨k1, k2, k3⟩ := its_enc h1
    simp only [itsEnc, h3]
    refine ⟨fun i => ?_, fun i => ?_, fun i => ?_⟩
    · simpa [howL] using k1 i
    · simpa [It.loc?] using k2 i
    · simp only [aget, nbeq, cond_eq_ite, decide_eq_true_eq, List.any_cons]
      split
      · subst_vars
        simp [h4, hz, gl?]
      · rename_i hne
        rw [k3 i]
        have : (gl? (It.gl j o) == some i) = false := by simpa [gl?] using hne
        simp only [this, Bool.false_or]

theorem glsIn_ok {its : List It} : ∀ {ob : List (Nat × TR)}, glsIn its ob = true → ∀ i, its.any (fun y => gl? y == some i) = false → aget ob i = none
  | [], _, i, _ => rfl
  | (g, x) :: r, h, i, hi => by
    simp only [glsIn, Bool.and_eq_true] at h
    simp only [aget, nbeq, cond_eq_ite, decide_eq_true_eq]
    split
    · subst_vars
      have h1 := h.1
      rw [List.any_eq_true] at h1
      obtain ⟨y, hy, hy2⟩ := h1
      rw [List.any_eq_false] at hi
      have := hi y hy
      cases y <;> simp_all [gl?]
    · exact glsIn_ok h.2 i hi

theorem ks_gl {k : KS} {w : Bool} {T : TSt} {x : k.den} (h : k.dec w T = some x) : (k.enc x).gl.er = T.gl.er := by
  simp only [KS.dec, cond_eq_ite, Option.ite_none_right_eq_some, Bool.and_eq_true, nbeq_iff] at h
  obtain ⟨⟨h1, h2⟩, h3⟩ := h
  obtain ⟨_, _, k3⟩ := its_enc h3
  simp only [KS.enc, TGl.er, Gl.mk.injEq]
  refine ⟨funext fun i => ?_, h1⟩
  rw [k3 i]
  split
  · rfl
  · rename_i hi
    rw [glsIn_ok h2 i (by simpa using hi)]
    rfl

/-- A border, of typed states. -/
theorem ks_keep {k : KS} {T : TSt} {x : k.den} (h : k.dec true T = some x) : (k.enc x).er = T.er.keep k := by
  have hg := ks_gl h
  simp only [KS.dec, cond_eq_ite, Option.ite_none_right_eq_some, Bool.and_eq_true, nbeq_iff] at h
  obtain ⟨⟨h1, h2⟩, h3⟩ := h
  obtain ⟨k1, k2, k3⟩ := its_enc h3
  simp only [TSt.er, St.keep, St.mk.injEq]
  refine ⟨funext fun i => ?_, funext fun i => k2 i, hg⟩
  have h5 := k1 i
  simp only [KS.enc] at h5 ⊢
  rw [h5, show k.how i = howL k.its i from rfl]
  cases howL k.its i with
  | none => rfl
  | some b => cases b <;> simp

/-- Arguments. -/
theorem ks_arg {k : KS} {T : TSt} {x : k.den} {np i : Nat} (h : k.dec false T = some x) (ha : k.args np = true) : ((k.enc x).fr.get i).er = if i < np then (T.fr.get i).er else .any := by
  simp only [KS.dec, cond_eq_ite, Option.ite_none_right_eq_some, Bool.and_eq_true, nbeq_iff] at h
  obtain ⟨⟨h1, h2⟩, h3⟩ := h
  obtain ⟨k1, k2, k3⟩ := its_enc h3
  simp only [KS.args, Bool.and_eq_true, List.all_eq_true, List.mem_range] at ha
  have := k1 i
  simp only [KS.enc]
  rw [this]
  split
  · rename_i e
    rw [if_neg]
    intro hi
    have := ha.1 i hi
    rw [List.any_eq_true] at this
    obtain ⟨y, hy, hy2⟩ := this
    simp only [howL, List.findSome?_eq_none_iff] at e
    have := e y hy
    cases y <;> simp_all
  · rename_i b e
    rw [if_neg (by simp), if_pos]
    simp only [howL, List.findSome?_eq_some_iff] at e
    obtain ⟨l1, y, l2, hl, hy, _⟩ := e
    have hb := ha.2 y (by rw [hl]; simp)
    cases y with
    | sl j v =>
      simp only at hy hb
      split at hy
      · rename_i hji; have := Nat.le_of_ble_eq_true hb; omega
      · simp at hy
    | _ => simp at hy

theorem ks_nolo {k : KS} {np : Nat} (ha : k.args np = true) (x : k.den) : (k.enc x).lo = [] := by
  have h : ∀ (l : List It) (x : itsDen l), (∀ y ∈ l, y.loc? = none) → (itsEnc l x).lo = [] := by
    intro l
    induction l with
    | nil => intro x _; rfl
    | cons y r ih =>
      intro x hl
      cases y with
      | sl j v => exact ih _ fun y hy => hl y (by simp [hy])
      | lo j o => have := hl (.lo j o) (by simp); simp [It.loc?] at this
      | gl j o => exact ih _ fun y hy => hl y (by simp [hy])
  refine h k.its x fun y hy => ?_
  simp only [KS.args, Bool.and_eq_true, List.all_eq_true] at ha
  have := ha.2 y hy
  cases y <;> simp_all [It.loc?]

/-- Slots behind the arguments are empty. -/
theorem ks_hi {k : KS} {np i : Nat} (ha : k.args np = true) (x : k.den) (hi : np ≤ i) : (k.enc x).fr.get i = .any := by
  have h : ∀ (l : List It) (x : itsDen l), (∀ j v, It.sl j v ∈ l → j < np) → (itsEnc l x).fr.get i = .any := by
    intro l
    induction l with
    | nil => intro x _; rfl
    | cons y r ih =>
      intro x hl
      cases y with
      | sl j v =>
        have h1 := hl j v (by simp)
        simp only [itsEnc, TFr.get, aget, nbeq, cond_eq_ite, decide_eq_true_eq]
        rw [if_neg (by omega)]
        exact ih _ fun j v hy => hl j v (by simp [hy])
      | lo j o => exact ih _ fun j v hy => hl j v (by simp [hy])
      | gl j o => exact ih _ fun j v hy => hl j v (by simp [hy])
  refine h k.its x fun j v hy => ?_
  simp only [KS.args, Bool.and_eq_true, List.all_eq_true] at ha
  have := ha.2 _ hy
  simp only at this
  have := Nat.le_of_ble_eq_true this
  omega

end Go.AM
