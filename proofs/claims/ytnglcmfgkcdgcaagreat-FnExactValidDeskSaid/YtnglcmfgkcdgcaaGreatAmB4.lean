/- The abstract machine: every order that a region's edges allow ends as the text's order does. -/
import Derived.Test.YtnglcmfgkcdgcaaGreatAmB3
namespace Go.AM
open Go
set_option linter.unusedVariables false
set_option linter.unusedSimpArgs false

variable {P : Program} {call : Call} {s s' s1 s2 : St}

def putsG (o : GOp) : Bool := o.pu || !wmem o.op

def locG (o : GOp) : Bool := !o.pu && o.gd.isNone && (locOf o.op).isSome

/-- Two operations that no order tells apart. -/
def apartG (x y : GOp) : Bool :=
  (wrG x).all (fun n => !(rdG y).contains n && !(wrG y).contains n) && (wrG y).all (fun n => !(rdG x).contains n) &&
    ((putsG x && (x.pu || !wmem y.op)) || (putsG y && (y.pu || !wmem x.op)) || (locG x && locG y))

theorem apartG_spec {x y : GOp} (h : apartG x y = true) : (∀ n ∈ wrG x, n ∉ rdG y ∧ n ∉ wrG y) ∧ (∀ n ∈ wrG y, n ∉ rdG x) ∧
    ((putsG x = true ∧ (x.pu = true ∨ wmem y.op = false)) ∨ (putsG y = true ∧ (y.pu = true ∨ wmem x.op = false)) ∨ (locG x = true ∧ locG y = true)) := by
  simp only [apartG, Bool.and_eq_true, List.all_eq_true, Bool.not_eq_true', Bool.or_eq_true, List.contains_eq_mem, decide_eq_false_iff_not] at h
  obtain ⟨⟨h1, h2⟩, h3⟩ := h
  refine ⟨h1, h2, ?_⟩
  rcases h3 with (h3 | h3) | h3
  · exact .inl h3
  · exact .inr (.inl h3)
  · exact .inr (.inr h3)

theorem locG_spec {o : GOp} (h : locG o = true) : o.pu = false ∧ o.gd = none ∧ ∃ d, locOf o.op = some d := by
  simp only [locG, Bool.and_eq_true, Bool.not_eq_true', Option.isNone_iff_eq_none, Option.isSome_iff_exists] at h
  exact ⟨h.1.1, h.1.2, h.2⟩

theorem kill_newV {d e : Nat} {v : DV} (hde : e ≠ d) (h : newV e v = true) : kill d v = v := by
  unfold newV at h
  split at h
  · simp only [beq_iff_eq] at h; subst h; simp [kill, hde]
  · simp only [beq_iff_eq] at h; subst h; simp [kill, hde]
  · simp at h

theorem locG_step {o : GOp} {δ : De} (h : locG o = true) (hs : gD P call s o = some δ) : ∃ d rows v, locOf o.op = some d ∧ dstOf o.op = some d ∧ δ = .loc rows v ∧ newV d v = true := by
  obtain ⟨h1, h2, d, h3⟩ := locG_spec h
  simp only [gD, h2, oneD, h1, Bool.false_eq_true, if_false] at hs
  obtain ⟨op, gd, pu⟩ := o
  simp only at h1 h2 h3 hs
  cases op with
  | alloc e T z g =>
    cases g with
    | true => simp [locOf] at h3
    | false =>
      simp only [stepD, Bool.false_eq_true, if_false, Option.some.injEq] at hs
      exact ⟨e, _, _, rfl, rfl, hs.symm, by simp [newV]⟩
  | box e T x m =>
    have hm : m = 1 := by
      match m, h3 with
      | 0, h3 => simp [locOf] at h3
      | 1, _ => rfl
      | m + 2, h3 => simp [locOf] at h3
    subst hm
    simp only [stepD, Nat.one_ne_zero, if_false, if_true] at hs
    split at hs
    · simp only [Option.some.injEq] at hs
      exact ⟨e, _, _, rfl, rfl, hs.symm, by simp [newV]⟩
    · simp at hs
  | mks e T sz z l c lo =>
    cases lo with
    | false => simp [locOf] at h3
    | true =>
      simp only [stepD, Option.bind_eq_some_iff, Option.ite_none_right_eq_some, if_true, Option.some.injEq] at hs
      obtain ⟨_, _, _, _, _, hs⟩ := hs
      exact ⟨e, _, _, rfl, rfl, hs.symm, by simp [newV]⟩
  | _ => simp [locOf] at h3

theorem locG_congr {o : GOp} (h : locG o = true) (hf : ∀ n ∈ rdG o, s.fr n = s'.fr n) : gD P call s o = gD P call s' o := by
  obtain ⟨h1, h2, d, h3⟩ := locG_spec h
  simp only [gD, h2, oneD, h1, Bool.false_eq_true, if_false]
  obtain ⟨op, gd, pu⟩ := o
  simp only at h1 h2 h3 hf
  cases op with
  | alloc e T z g => simp only [stepD]
  | box e T x m => simp only [stepD, getW_congr (x := x) (f' := s'.fr) (fun n hn => hf n (by simp [rdG, rdA, hn]))]
  | mks e T sz z l c lo =>
    simp only [stepD]
    rw [getO_congr (x := l) (f' := s'.fr) (fun n hn => hf n (by simp [rdG, rdA, hn])), getO_congr (x := c) (f' := s'.fr) (fun n hn => hf n (by simp [rdG, rdA, hn]))]
  | _ => simp [locOf] at h3

theorem loc_comm {d e : Nat} (hde : d ≠ e) (h1 : NM d s) (h2 : NM e s) (r1 r2 : Rows) {v1 v2 : DV} (k1 : newV d v1 = true) (k2 : newV e v2 = true) : (s.ap (some d) (.loc r1 v1)).ap (some e) (.loc r2 v2) = (s.ap (some e) (.loc r2 v2)).ap (some d) (.loc r1 v1) := by
  refine St.ext' (fun n => ?_) ?_ rfl
  · simp only [ap_fr, slotT, Option.getD_some, Option.some.injEq]
    by_cases hd : d = n
    · subst hd
      rw [if_neg (Ne.symm hde), if_pos rfl, if_pos rfl]
      exact kill_newV hde k1
    · by_cases he : e = n
      · subst he
        rw [if_pos rfl, if_neg hd, if_pos rfl]
        exact (kill_newV (Ne.symm hde) k2).symm
      · rw [if_neg hd, if_neg he, if_neg hd, if_neg he, h1 n, h2 n, h1 n]
  · simp only [St.ap, Option.getD_some]
    funext n
    simp only [upd]
    by_cases hd : n = d
    · subst hd; simp [hde]
    · simp [hd]

theorem puts_put {x : GOp} {δ : De} (h : gD P call s x = some δ) (hp : putsG x = true) : isPutB δ = true := by
  obtain ⟨_, _, a3, _⟩ := gD_shape h
  simp only [putsG, Bool.or_eq_true, Bool.not_eq_true'] at hp
  exact a3 hp.symm

theorem comm {x y : GOp} (ha : apartG x y = true) (hkx : ∀ d, locOf x.op = some d → NM d s) (hky : ∀ d, locOf y.op = some d → NM d s)
    (h1 : gstep P call s x = some s1) (h2 : gstep P call s1 y = some s2) : ∃ s1', gstep P call s y = some s1' ∧ gstep P call s1' x = some s2 := by
  obtain ⟨e1, e2, e3⟩ := apartG_spec ha
  simp only [gstep, Option.map_eq_some_iff] at h1 h2
  obtain ⟨δx, hx, rfl⟩ := h1
  obtain ⟨δy, hy, rfl⟩ := h2
  have hfr : ∀ n ∈ rdG y, s.fr n = (s.ap (dstOf x.op) δx).fr n := fun n hn => by
    rw [ap_fr, slotT_keep hx (fun hw => (e1 n hw).1 hn) (fun d hd => hkx d hd n)]
  have e4 : ((putsG x = true ∧ (x.pu = true ∨ wmem y.op = false)) ∨ (putsG y = true ∧ (y.pu = true ∨ wmem x.op = false))) ∨ (locG x = true ∧ locG y = true) := by
    rcases e3 with h | h | h
    · exact .inl (.inl h)
    · exact .inl (.inr h)
    · exact .inr h
  rcases e4 with e3 | ⟨lx, ly⟩
  case inr =>
    have hy' : gD P call s y = some δy := by rw [locG_congr ly hfr]; exact hy
    obtain ⟨d, r1, v1, a1, a2, rfl, a3⟩ := locG_step lx hx
    obtain ⟨e, r2, v2, b1, b2, rfl, b3⟩ := locG_step ly hy
    have hde : d ≠ e := by
      rintro rfl
      exact (e1 d (by simp [wrG, dsts, a2])).2 (by simp [wrG, dsts, b2])
    have hx' : gD P call (s.ap (dstOf y.op) (.loc r2 v2)) x = some (.loc r1 v1) := by
      rw [← hx]
      refine locG_congr lx fun n hn => ?_
      rw [ap_fr, slotT_keep hy' (fun hw => e2 n hw hn) (fun d hd => hky d hd n)]
    refine ⟨s.ap (dstOf y.op) (.loc r2 v2), by simp only [gstep, hy', Option.map_some], ?_⟩
    simp only [gstep, hx', Option.map_some]
    rw [a2, b2, loc_comm hde (hkx d a1) (hky e b1) _ _ a3 b3]
  have hy' : gD P call s y = some δy := by
    rw [← hy]
    refine gD_congr hfr ?_
    · rcases e3 with ⟨hp, _⟩ | ⟨_, hq⟩
      · have := ap_put_mem s (dstOf x.op) (puts_put hx hp)
        exact .inr ⟨this.1.symm, this.2.symm⟩
      · rcases hq with hq | hq
        · exact .inl hq
        · have := ap_put_mem s (dstOf x.op) (puts_put hx (by simp [putsG, hq]))
          exact .inr ⟨this.1.symm, this.2.symm⟩
  rcases e3 with ⟨hp, hq⟩ | ⟨hp, hq⟩
  · obtain ⟨c1, c2, c3⟩ := comm_core hx hy' (puts_put hx hp) e1 e2 (hq.imp id (fun hq => puts_put hy' (by simp [putsG, hq]))) hky
    exact ⟨s.ap (dstOf y.op) δy, by simp only [gstep, hy', Option.map_some], by simp only [gstep, c2, Option.map_some, c3]⟩
  · obtain ⟨c1, c2, c3⟩ := comm_core hy' hx (puts_put hy' hp) (fun n hn => ⟨e2 n hn, fun hw => (e1 n hw).2 hn⟩) (fun n hn => (e1 n hn).1) (hq.imp id (fun hq => puts_put hx (by simp [putsG, hq]))) hkx
    exact ⟨s.ap (dstOf y.op) δy, by simp only [gstep, hy', Option.map_some], by simp only [gstep, c1, Option.map_some, c3]⟩

/-- What names no object goes on to name none, but for the operation that makes it. -/
theorem NM.step {d : Nat} {x : GOp} (hn : NM d s) (hd : locOf x.op ≠ some d) (h : gstep P call s x = some s1) : NM d s1 := by
  simp only [gstep, Option.map_eq_some_iff] at h
  obtain ⟨δ, hx, rfl⟩ := h
  obtain ⟨_, a2, _, a4⟩ := gD_shape hx
  intro n
  rw [ap_fr]
  have hw : kill d (wk (s.fr n)) = wk (s.fr n) := by rw [kill_wk, hn n]
  cases δ with
  | put v src =>
    simp only [slotT]
    split
    · exact a4 d v hn rfl
    · split
      · exact hw
      · exact hn n
  | loc rows v =>
    obtain ⟨e, rs, v', e1, e2, e3, e4⟩ := a2 rfl
    simp only [De.loc.injEq] at e3
    obtain ⟨_, rfl⟩ := e3
    simp only [slotT]
    split
    · exact kill_newV (fun e => hd (e ▸ e1)) e4
    · exact kill_kill _ _ _ (hn n)
  | glo rows =>
    simp only [slotT]
    split
    · rfl
    · exact hn n
  | wr p rows src v =>
    cases v with
    | none =>
      simp only [slotT]
      split
      · exact hw
      · exact hn n
    | some v =>
      simp only [slotT]
      split
      · exact a4 d v hn rfl
      · split
        · exact hw
        · exact hn n
  | opn v gl =>
    simp only [slotT]
    split
    · exact a4 d v hn rfl
    · exact hn n

theorem NM.forget {d e : Nat} (h : NM d s) : NM d (s.forget e) := fun n => kill_kill d e _ (h n)

theorem NM_forget {d : Nat} : NM d (s.forget d) := by
  intro n
  show kill d (kill d (s.fr n)) = kill d (s.fr n)
  rcases kill_or d (s.fr n) with h | h
  · rw [h, h]
  · rw [h]; rfl

theorem NM.forgets {d : Nat} : ∀ {gs : List GOp} {s : St}, NM d s → NM d (forgets s gs)
  | [], _, h => h
  | g :: r, s, h => by
    simp only [AM.forgets]
    split
    · exact NM.forgets h.forget
    · exact NM.forgets h

theorem NM_forgets {d : Nat} {g : GOp} : ∀ {gs : List GOp} {s : St}, g ∈ gs → locOf g.op = some d → NM d (forgets s gs)
  | [], _, h, _ => by simp at h
  | g' :: r, s, h, hd => by
    simp only [AM.forgets]
    rcases List.mem_cons.1 h with rfl | h
    · rw [hd]
      exact NM.forgets NM_forget
    · split
      · exact NM_forgets h hd
      · exact NM_forgets h hd

def AnyTo (P : Program) (call : Call) (ops : Array Oper) (gs : List GOp) : Nat → Array Bool → St → St → Prop
  | 0, l, s, s' => Region.ready .any ops l = [] ∧ s = s'
  | n + 1, l, s, s' => (Region.ready .any ops l = [] → s = s') ∧
      ∀ i ∈ Region.ready .any ops l, ∃ g s1, gs[i]? = some g ∧ gstep P call s g = some s1 ∧ AnyTo P call ops gs n (l.setIfInBounds i true) s1 s'

/-- Must one operation come before another? -/
inductive Bef (ops : Array Oper) : Nat → Nat → Prop where
  | one {j : Nat} {o : Oper} {e : Edge} : ops[j]? = some o → e ∈ o.after → Region.binds .any e = true → Bef ops e.on j
  | more {i j : Nat} {o : Oper} {e : Edge} : ops[j]? = some o → e ∈ o.after → Region.binds .any e = true → Bef ops i e.on → Bef ops i j

/-- Listed are no operations whose forerunners are not. -/
def Down (ops : Array Oper) (l : Array Bool) : Prop :=
  ∀ (j : Nat) o e, l.getD j false = true → ops[j]? = some o → e ∈ o.after → Region.binds .any e = true → l.getD e.on false = true

theorem bef_listed {ops : Array Oper} {l : Array Bool} (hD : Down ops l) {i j : Nat} (hb : Bef ops i j) : ∀ o, ops[j]? = some o → (∀ e ∈ o.after, Region.binds .any e = true → l.getD e.on false = true) → l.getD i false = true := by
  induction hb with
  | one h1 h2 h3 =>
    intro o ho hall
    rw [h1] at ho; cases ho
    exact hall _ h2 h3
  | more h1 h2 h3 hb ih =>
    intro o ho hall
    rw [h1] at ho; cases ho
    have hk := hall _ h2 h3
    rename_i i j _ e
    cases hoe : ops[e.on]? with
    | none => cases hb <;> simp_all
    | some oe => exact ih oe hoe (fun e' he' hb' => hD _ oe e' hk hoe he' hb')

/-- A region's operations, as a table of abstract ones: the edges go back; what no edge orders is apart; every object is made once. -/
structure DrawM (ops : Array Oper) (gs : List GOp) : Prop where
  back : ∀ (j : Nat) o e, ops[j]? = some o → e ∈ o.after → Region.binds .any e = true → e.on < j
  apart : ∀ (i j : Nat) x y, i < j → gs[i]? = some x → gs[j]? = some y → Bef ops i j ∨ apartG x y = true
  once : ∀ (i j : Nat) x y d, gs[i]? = some x → gs[j]? = some y → locOf x.op = some d → locOf y.op = some d → i = j

variable {ops : Array Oper} {gs : List GOp}

/-- No object that is still to be made is named. -/
def JL (gs : List GOp) (l : Array Bool) (s : St) : Prop := ∀ (i : Nat) g d, gs[i]? = some g → l.getD i true = false → locOf g.op = some d → NM d s

theorem getD_false_true {l : Array Bool} {i : Nat} (h : l.getD i true = false) : l.getD i false = false := by
  rcases Nat.lt_or_ge i l.size with h' | h'
  · simp_all
  · simp [Array.getElem?_eq_none h'] at h

theorem getD_set_ne' {l : Array Bool} {i j : Nat} (d : Bool) (h : i ≠ j) : (l.setIfInBounds i true).getD j d = l.getD j d := getD_set_ne d h

theorem JL.step {l : Array Bool} {j : Nat} {g : GOp} (hD : DrawM ops gs) (h : JL gs l s) (hg : gs[j]? = some g) (hu : l.getD j true = false) (hs : gstep P call s g = some s1) : JL gs (l.setIfInBounds j true) s1 := by
  intro i x d hx hi hd
  have hij : i ≠ j := by
    rintro rfl
    have := hi
    rcases Nat.lt_or_ge i l.size with h' | h'
    · simp [h'] at this
    · simp [Array.getElem?_eq_none h'] at hu
  rw [getD_set_ne true (Ne.symm hij)] at hi
  exact (h i x d hx hi hd).step (fun e => hij (hD.once i j x g d hx hg hd e)) hs

theorem Down.step {l : Array Bool} {j : Nat} (hD : Down ops l) (hj : j ∈ Region.ready .any ops l) : Down ops (l.setIfInBounds j true) := by
  obtain ⟨_, oj, hoj, hall⟩ := mem_ready.1 hj
  intro k o e hk ho he hb
  by_cases hkj : k = j
  · subst hkj
    rw [hoj] at ho; cases ho
    exact getD_set_true (hall e he hb)
  · rw [getD_set_ne false (Ne.symm hkj)] at hk
    exact getD_set_true (hD k o e hk ho he hb)

theorem any_first {i : Nat} {gi : GOp} (hM : DrawM ops gs) (hlen : ops.size = gs.length) (hgi : gs[i]? = some gi) : ∀ (n : Nat) (l : Array Bool) (s si s' : St), Down ops l → JL gs l s → (∀ j, j < i → l.getD j false = true) →
    i ∈ Region.ready .any ops l → gstep P call s gi = some si → AnyTo P call ops gs n (l.setIfInBounds i true) si s' → AnyTo P call ops gs (n + 1) l s s'
  | n, l, s, si, s', hD, hJ, hlow, hi, hs, hA => by
    refine ⟨fun h => by rw [h] at hi; simp at hi, fun j hj => ?_⟩
    by_cases hji : j = i
    · subst hji; exact ⟨gi, si, hgi, hs, hA⟩
    · have hr := ready_mono hj hji
      obtain ⟨hju, oj, hoj, hall⟩ := mem_ready.1 hj
      obtain ⟨hiu, _⟩ := mem_ready.1 hi
      cases n with
      | zero => rw [hA.1] at hr; simp at hr
      | succ n =>
        obtain ⟨gj, sij, hgj, hsj, hA'⟩ := hA.2 j hr
        have hlt : i < j := by
          rcases Nat.lt_trichotomy i j with h | h | h
          · exact h
          · exact absurd h.symm hji
          · have := hlow j h
            rw [getD_false_true hju] at this; simp at this
        have hap : apartG gi gj = true := by
          refine (hM.apart i j gi gj hlt hgi hgj).resolve_left fun hb => ?_
          have := bef_listed hD hb oj hoj hall
          rw [getD_false_true hiu] at this; simp at this
        obtain ⟨sj, h1, h2⟩ := comm hap (fun d hd => hJ i gi d hgi hiu hd) (fun d hd => hJ j gj d hgj hju hd) hs hsj
        refine ⟨gj, sj, hgj, h1, ?_⟩
        refine any_first hM hlen hgi n (l.setIfInBounds j true) sj sij s' (hD.step hj) (hJ.step hM hgj hju h1) (fun k hk => getD_set_true (hlow k hk)) (ready_mono hi (Ne.symm hji)) h2 ?_
        rw [Array.setIfInBounds_comm _ _ hji]
        exact hA'

/-- The text's order stands for all. -/
theorem text_any (hM : DrawM ops gs) (hlen : ops.size = gs.length) : ∀ (n m : Nat) (l : Array Bool) (s s' : St), m + n = gs.length → l.size = ops.size → (∀ j, j < ops.size → (l.getD j false = true ↔ j < m)) → JL gs l s →
    steps P call s (gs.drop m) = some s' → AnyTo P call ops gs n l s s'
  | 0, m, l, s, s', hm, hsz, hl, hJ, hs => by
    have h0 : gs.drop m = [] := by simp; omega
    rw [h0] at hs
    simp only [steps, Option.some.injEq] at hs
    refine ⟨?_, hs⟩
    rw [List.eq_nil_iff_forall_not_mem]
    intro j hj
    obtain ⟨hju, oj, hoj, _⟩ := mem_ready.1 hj
    have hjl : j < ops.size := (Array.getElem?_eq_some_iff.1 hoj).1
    have := (hl j hjl).2 (by omega)
    rw [getD_false_true hju] at this; simp at this
  | n + 1, m, l, s, s', hm, hsz, hl, hJ, hs => by
    have hml : m < gs.length := by omega
    rw [List.drop_eq_getElem_cons hml] at hs
    simp only [steps, Option.bind_eq_some_iff] at hs
    obtain ⟨s1, h1, h2⟩ := hs
    have hmu : l.getD m true = false := by
      have h3 : ¬ l.getD m false = true := fun h => by have := (hl m (by omega)).1 h; omega
      have h4 : m < l.size := by omega
      have h5 : l.getD m true = l.getD m false := by simp [h4]
      rw [h5]
      cases hb : l.getD m false
      · rfl
      · exact absurd hb h3
    have hgm : gs[m]? = some gs[m] := by simp
    have hready : m ∈ Region.ready .any ops l := by
      refine mem_ready.2 ⟨hmu, ops[m]'(by omega), by simp, fun e he hb => ?_⟩
      have := hM.back m _ e (by simp) he hb
      exact (hl e.on (by omega)).2 this
    refine any_first hM hlen hgm n l s s1 s' (fun j o e hj ho he hb => ?_) hJ (fun j hj => (hl j (by omega)).2 hj) hready h1 ?_
    · have h5 := hM.back j o e ho he hb
      have h6 : j < ops.size := (Array.getElem?_eq_some_iff.1 ho).1
      have h7 := (hl j h6).1 hj
      exact (hl e.on (by omega)).2 (by omega)
    · refine text_any hM hlen n (m + 1) _ s1 s' (by omega) (by simpa using hsz) (fun j hj => ?_) (hJ.step hM hgm hmu h1) h2
      by_cases hjm : m = j
      · subst hjm
        simp [show m < l.size by omega]
      · rw [getD_set_ne false hjm, hl j hj]
        omega

/-- From the start. -/
theorem text_any_start (hM : DrawM ops gs) (hlen : ops.size = gs.length) (hs : steps P call (forgets s gs) gs = some s') : AnyTo P call ops gs ops.size (Array.replicate ops.size false) (forgets s gs) s' :=
  text_any hM hlen ops.size 0 _ _ s' (by omega) (by simp) (fun j hj => by simp [hj]) (fun i g d hg _ hd => NM_forgets (List.mem_of_getElem? hg) hd) (by simpa using hs)

end Go.AM
