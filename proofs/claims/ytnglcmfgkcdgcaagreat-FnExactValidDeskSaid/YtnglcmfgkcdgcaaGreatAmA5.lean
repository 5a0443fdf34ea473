/- The operations that only compute: what the machine does is what the abstract machine does. -/
import Derived.Test.YtnglcmfgkcdgcaaGreatAmA4
import Derived.Laws.Cells
namespace Go.AM
open Go
set_option linter.unusedVariables false
set_option linter.unusedSimpArgs false

variable {w0 w w' : World} {Wr : Nat → Prop} {s s' : St} {gh gh' gh0 : Gh} {P : Program} {call : Call}

def tm (a : Act) : Nat → Value := fun i => a.tmps.getD i undef

/-- An activation of the machine and its abstract state. -/
structure AI (w0 : World) (gh0 : Gh) (Wr : Nat → Prop) (N : Nat) (s : St) (gh : Gh) (a : Act) (w : World) : Prop where
  inv : Inv w0 gh0 Wr s gh (tm a) w
  size : a.tmps.size = N
  defers : a.defers = []

def Mod (w0 : World) (gh0 : Gh) (Wr : Nat → Prop) (N : Nat) (s : St) (a : Act) (w : World) : Prop := ∃ gh, AI w0 gh0 Wr N s gh a w

variable {N : Nat} {a : Act} {Q : Exit → Act → World → Prop} {o : Oper}

theorem tm_put (a : Act) (d : Nat) (v : Value) (hd : d < a.tmps.size) : tm (a.put (some d) v) = upd (tm a) d v := by
  funext i
  simp only [tm, Act.put, upd]
  by_cases e : i = d
  · subst e; simp [hd]
  · rw [if_neg e]
    simp [Array.getElem?_setIfInBounds_ne (Ne.symm e)]

@[simp] theorem size_put (a : Act) (d : Option Nat) (v : Value) : (a.put d v).tmps.size = a.tmps.size := by cases d <;> simp [Act.put]
@[simp] theorem defers_put (a : Act) (d : Option Nat) (v : Value) : (a.put d v).defers = a.defers := by cases d <;> rfl

/-- Operands. -/
def OpdM : Operand → Opd → Prop
  | .tmp n, .t m => n = m
  | .const v, .k u => v = u
  | .func f, .f g => f = g
  | _, _ => False

def OpdsM (xs : List Operand) (ys : List Opd) : Prop := xs.length = ys.length ∧ ∀ (j : Nat) x y, xs[j]? = some x → ys[j]? = some y → OpdM x y

theorem rep_oneV (v : Value) : CRep w gh none (oneV v) v := by
  unfold oneV
  split
  · exact ⟨.lst (b := 0) (o := 0) (sz := 0) (u := fun _ _ => default) rfl (Nat.le_refl 0) (Nat.zero_le _) (fun h => absurd rfl h) (fun i row hr => by simp at hr) (fun i row j d hr => by simp at hr), .inl ⟨rfl, _, rfl⟩⟩
  · exact Rep.val v

theorem noL_oneV (v : Value) : noL (oneV v) = true := by unfold oneV; split <;> rfl

theorem oneV_cases (v : Value) : oneV v = .lst true [] ∧ v = .slice none 0 0 ∨ oneV v = .val v := by
  unfold oneV; split
  · exact .inl ⟨rfl, rfl⟩
  · exact .inr rfl

theorem mapO_len {α β : Type} {f : α → Option β} : ∀ {l : List α} {r : List β}, mapO f l = some r → r.length = l.length
  | [], r, h => by simp [mapO] at h; subst h; rfl
  | x :: l, r, h => by
    simp only [mapO, Option.bind_eq_some_iff, Option.map_eq_some_iff] at h
    obtain ⟨y, _, r', hr', rfl⟩ := h
    simp [mapO_len hr']

theorem mapO_get {α β : Type} {f : α → Option β} : ∀ {l : List α} {r : List β}, mapO f l = some r → ∀ (j : Nat) y, r[j]? = some y → ∃ x, l[j]? = some x ∧ f x = some y
  | [], r, h, j, y, hy => by simp [mapO] at h; subst h; simp at hy
  | x :: l, r, h, j, y, hy => by
    simp only [mapO, Option.bind_eq_some_iff, Option.map_eq_some_iff] at h
    obtain ⟨z, hz, r', hr', rfl⟩ := h
    cases j with
    | zero => simp at hy; subst hy; exact ⟨x, by simp, hz⟩
    | succ j => simpa using mapO_get hr' j y (by simpa using hy)

theorem rep_oneV' (v : Value) : SRep w gh none (oneV v) v := by
  have h := rep_oneV (w := w) (gh := gh) v
  rcases oneV_cases v with ⟨h1, h2⟩ | h1
  · rw [h1] at h ⊢; exact h
  · rw [h1]; exact Rep.val v

theorem dvOf_one (v : Value) (h : ∀ vs, v ≠ .agg vs) : dvOf v = oneV v := by
  cases v <;> first | rfl | exact absurd rfl (h _)

theorem rep_dvOf (v : Value) : SRep w gh none (dvOf v) v := by
  cases v with
  | agg vs =>
    refine ⟨vs, rfl, by simp, fun j c u hc hu => ?_⟩
    simp only [List.getElem?_map, Array.getElem?_toList, hu, Option.map_some, Option.some.injEq] at hc
    subst hc
    exact ⟨noL_oneV u, rep_oneV u⟩
  | _ => rw [dvOf_one _ (by simp)]; exact rep_oneV' _

theorem rep_clo (f : FuncId) : SRep w gh none (.clo f []) (.func (.func f) #[] #[]) := ⟨#[], rfl, rfl, fun j c u hc => by simp at hc⟩

theorem AI.getW (h : AI w0 gh0 Wr N s gh a w) {x : Operand} {y : Opd} (hm : OpdM x y) : SRep w gh none (getW s.fr y) (a.eval x) := by
  cases x <;> cases y <;> simp only [OpdM] at hm
  · subst hm; exact (h.inv.slots _).wk
  · subst hm; exact rep_dvOf _
  · subst hm; exact rep_clo _

/-- What an operand's raw value says, where it holds no right to append. -/
theorem AI.getO (h : AI w0 gh0 Wr N s gh a w) {x : Operand} {y : Opd} (hm : OpdM x y) : ∃ ℓ, SRep w gh ℓ (getO s.fr y) (a.eval x) := by
  cases x <;> cases y <;> simp only [OpdM] at hm
  · subst hm; exact ⟨_, h.inv.slots _⟩
  · subst hm; exact ⟨_, rep_dvOf _⟩
  · subst hm; exact ⟨_, rep_clo _⟩

theorem wp_value {v : Value} {K : Act → World → Prop} (hr : (execOp a.eval o).run P w = .ok (.value v) w') (h : K (a.put o.dst v) w') : o.wp P a w K Q := by
  simp only [Oper.wp, hr, Oper.upon]; exact h

theorem wp_skip' {K : Act → World → Prop} (hr : (execOp a.eval o).run P w = .ok .skip w') (h : K (a.put o.dst undef) w') : o.wp P a w K Q := by
  simp only [Oper.wp, hr, Oper.upon]; exact h

theorem put_ok {d : Nat} {dv : DV} {v : Value} (h : AI w0 gh0 Wr N s gh a w) (hdst : o.dst = some d) (hd : d < N) (hr : (execOp a.eval o).run P w = .ok (.value v) w) (hv : SRep w gh none dv v) :
    o.wp P a w (fun a' w' => Mod w0 gh0 Wr N (s.ap (some d) (.put dv none)) a' w') Q := by
  refine wp_value hr ⟨{ gh with hb := updO gh.hb (.sl d) none }, ?_, by simpa using h.size, by simpa using h.defers⟩
  rw [hdst, tm_put _ _ _ (by rw [h.size]; exact hd)]
  exact h.inv.put d hv

theorem calcP_run {α : Type} {x : Sem α} {v : α} (h : calcP P x = some v) : x.run P w = .ok v w := by
  induction x generalizing v with
  | pure a => simp only [calcP, Option.some.injEq] at h; subst h; rfl
  | program k ih => simp only [calcP] at h; simpa [Sem.run] using ih P h
  | _ => simp [calcP] at h

theorem exact1_rep {d : DV} {v u : Value} {ℓ : Option Own} (h : exact1 d = some u) (hr : CRep w gh ℓ d v) : v = u := by
  cases d <;> simp [exact1] at h
  subst h
  cases hr; rfl

theorem exact_rep {d : DV} {v u : Value} {ℓ : Option Own} (h : exact d = some u) (hr : SRep w gh ℓ d v) : v = u := by
  cases d with
  | val x => simp only [exact, Option.some.injEq] at h; subst h; cases hr; rfl
  | agg cs =>
    simp only [exact, Option.map_eq_some_iff] at h
    obtain ⟨l, hl, rfl⟩ := h
    obtain ⟨vs, rfl, h1, h2⟩ := hr
    congr 1
    apply Array.ext'
    apply List.ext_getElem?
    intro j
    have hlen := mapO_len hl
    by_cases hj : j < cs.length
    · obtain ⟨x, hx, hf⟩ := mapO_get hl j l[j] (by simp [hlen, hj])
      have hu : vs[j]? = some vs[j] := by simp [h1, hj]
      have := exact1_rep hf (h2 j x _ hx hu).2
      simp [hu, this, hlen, hj]
    · simp [List.getElem?_eq_none, h1, hlen, Nat.le_of_not_lt hj]
  | _ => simp [exact] at h

theorem run_execOp_value {P : Program} {x : Sem Value} {v : Value} {w w' : World} (h : x.run P w = .ok v w') : (do pure (Next.value (← x)) : Sem Next).run P w = .ok (.value v) w' := by
  simp [h]

theorem ok_bin {d : Nat} {op : BinOp} {T : TypeId} {x y : Opd} {ox oy : Operand} {yT : TypeId} {δ : De} (h : AI w0 gh0 Wr N s gh a w) (hdst : o.dst = some d) (hd : d < N)
    (ho : o.op = .binOp op T ox oy yT) (hx : OpdM ox x) (hy : OpdM oy y) (hs : stepD P call s (.bin d op T x y) = some δ) :
    o.wp P a w (fun a' w' => Mod w0 gh0 Wr N (s.ap (some d) δ) a' w') Q := by
  simp only [stepD, Option.bind_eq_some_iff, Option.map_eq_some_iff] at hs
  obtain ⟨u, hu, v, hv, r, hr, rfl⟩ := hs
  have e1 := exact_rep hu (h.getW hx)
  have e2 := exact_rep hv (h.getW hy)
  have key : ∃ z, (do eqGuard op T ox oy u v; binOp op T u v : Sem Value).run P w = .ok z w ∧ SRep w gh none r z := by
    have gd : ∀ (p q : Value), (p ≠ .nilIface) → eqGuard op T (.tmp 0) (.tmp 0) p q = eqGuard op T ox oy p q := by
      intro p q hp
      unfold eqGuard
      cases p <;> first | exact absurd rfl hp | (cases q <;> rfl)
    have main : ∀ (p q : Value), p ≠ .nilIface → q ≠ .nilIface → bin2 P op T p q = some r → ∃ z, (do eqGuard op T ox oy p q; binOp op T p q : Sem Value).run P w = .ok z w ∧ SRep w gh none r z := by
      intro p q hp hq hb
      have hb' : ((calcP P (do eqGuard op T (.tmp 0) (.tmp 0) p q; binOp op T p q)).bind fun v => match v with
        | .int k n => some (.val (.int k n))
        | .bool t => some (.val (.bool t))
        | .string t => some (.val (.string t))
        | _ => none) = some r := by
        rw [← hb]
        cases p <;> cases q <;> first | rfl | exact absurd rfl hp | exact absurd rfl hq
      simp only [Option.bind_eq_some_iff] at hb'
      obtain ⟨z, hz, hz'⟩ := hb'
      rw [gd p q hp] at hz
      refine ⟨z, calcP_run hz, ?_⟩
      split at hz' <;> simp only [Option.some.injEq, reduceCtorEq] at hz' <;> subst hz' <;> exact Rep.val _
    refine main u v ?_ ?_ hr
    · rintro rfl; cases v <;> simp [bin2] at hr
    · rintro rfl; cases u <;> simp [bin2] at hr
  obtain ⟨z, hz, hrep⟩ := key
  refine put_ok h hdst hd ?_ hrep
  simp only [execOp, ho, e1, e2]
  exact run_execOp_value hz

theorem wk_lst {d : DV} {rows : Rows} {b : Bool} (h : wk d = .lst b rows) : b = false ∨ False := by
  cases d <;> simp_all [wk]

theorem ok_mv {d : Nat} {x : Opd} {ox : Operand} {tr : Bool} {δ : De} (h : AI w0 gh0 Wr N s gh a w) (hdst : o.dst = some d) (hd : d < N)
    (ho : o.op = .move ox ∨ o.op = .assign ox) (hx : OpdM ox x) (hs : stepD P call s (.mv d x tr) = some δ) :
    o.wp P a w (fun a' w' => Mod w0 gh0 Wr N (s.ap (some d) δ) a' w') Q := by
  have hr : (execOp a.eval o).run P w = .ok (.value (a.eval ox)) w := by
    rcases ho with ho | ho <;> simp [execOp, ho]
  have plain : δ = .put (getW s.fr x) none → o.wp P a w (fun a' w' => Mod w0 gh0 Wr N (s.ap (some d) δ) a' w') Q := by
    rintro rfl
    exact put_ok h hdst hd hr (h.getW hx)
  cases tr with
  | false => simp only [stepD, Bool.false_eq_true, if_false, Option.some.injEq] at hs; exact plain hs.symm
  | true =>
    cases x with
    | t n =>
      simp only [stepD, if_true] at hs
      split at hs
      · simp at hs
      · rename_i hne
        simp only [Option.some.injEq] at hs
        subst hs
        obtain ⟨m, rfl, rfl⟩ : ∃ m, ox = .tmp m ∧ n = m := by cases ox <;> simp_all [OpdM]
        refine wp_value hr ⟨{ gh with hb := updO (updO gh.hb (.sl n) none) (.sl d) (gh.hb (.sl n)) }, ?_, by simpa using h.size, by simpa using h.defers⟩
        rw [hdst, tm_put _ _ _ (by rw [h.size]; exact hd)]
        exact h.inv.move hne
    | k v => simp only [stepD, if_true, Option.some.injEq] at hs; exact plain hs.symm
    | f g => simp only [stepD, if_true, Option.some.injEq] at hs; exact plain hs.symm

theorem ok_nilc {d : Nat} {x : Opd} {ox : Operand} {δ : De} (h : AI w0 gh0 Wr N s gh a w) (hdst : o.dst = some d) (hd : d < N)
    (ho : o.op = .nilCheck ox) (hx : OpdM ox x) (hs : stepD P call s (.nilc d x) = some δ) :
    o.wp P a w (fun a' w' => Mod w0 gh0 Wr N (s.ap (some d) δ) a' w') Q := by
  have hv := h.getW hx
  have go : ∀ dv, getW s.fr x = dv → δ = .put dv none → (∀ v, SRep w gh none dv v → (match v with | .pointer none | .nilIface | .nilFunc | .func (.method _) _ _ => False | _ => True)) →
      o.wp P a w (fun a' w' => Mod w0 gh0 Wr N (s.ap (some d) δ) a' w') Q := by
    intro dv hdv hδ hh
    subst hδ
    rw [hdv] at hv
    have := hh _ hv
    refine put_ok h hdst hd ?_ hv
    simp only [execOp, ho]
    split <;> simp_all
  simp only [stepD] at hs
  split at hs <;> simp only [Option.some.injEq, reduceCtorEq] at hs <;> rename_i heq
  · exact go _ heq hs.symm (fun v hv => by cases hv; trivial)
  · exact go _ heq hs.symm (fun v hv => by obtain ⟨_, rfl⟩ := hv; trivial)
  · exact go _ heq hs.symm (fun v hv => by have : v = _ := hv; subst this; trivial)
  · exact go _ heq hs.symm (fun v hv => by obtain ⟨vs, rfl, _⟩ := hv; trivial)

theorem getO_bool {x : Opd} {ox : Operand} {t : Value} (h : AI w0 gh0 Wr N s gh a w) (hx : OpdM ox x) (hv : getO s.fr x = .val t) : a.eval ox = t := by
  obtain ⟨ℓ, hr⟩ := h.getO hx
  rw [hv] at hr
  cases hr; rfl

theorem ok_pick {d : Nat} {c x y : Opd} {oc ox oy : Operand} {δ : De} (h : AI w0 gh0 Wr N s gh a w) (hdst : o.dst = some d) (hd : d < N)
    (ho : o.op = .pick oc ox oy) (hc : OpdM oc c) (hx : OpdM ox x) (hy : OpdM oy y) (hs : stepD P call s (.pick d c x y) = some δ) :
    o.wp P a w (fun a' w' => Mod w0 gh0 Wr N (s.ap (some d) δ) a' w') Q := by
  simp only [stepD] at hs
  split at hs <;> simp only [Option.some.injEq, reduceCtorEq] at hs
  rename_i t heq
  subst hs
  have e := getO_bool h hc heq
  cases t with
  | true =>
    refine put_ok (v := a.eval ox) h hdst hd ?_ (by simpa using h.getW hx)
    simp [execOp, ho, e, asBool]
  | false =>
    refine put_ok (v := a.eval oy) h hdst hd ?_ (by simpa using h.getW hy)
    simp [execOp, ho, e, asBool]

theorem scal_rep {v : Value} {dv : DV} (h : scal v = some dv) : SRep w gh none dv v := by
  unfold scal at h
  split at h <;> simp only [Option.some.injEq, reduceCtorEq] at h <;> subst h <;> exact Rep.val _

theorem getW_exact1 {x : Opd} {ox : Operand} {u : Value} (h : AI w0 gh0 Wr N s gh a w) (hx : OpdM ox x) (hu : exact1 (getW s.fr x) = some u) : a.eval ox = u := by
  have hr := h.getW hx
  cases hd : getW s.fr x <;> rw [hd] at hu hr <;> simp [exact1] at hu
  subst hu
  cases hr; rfl

theorem ok_un {d : Nat} {op : UnOp} {x : Opd} {ox : Operand} {xT : TypeId} {δ : De} (h : AI w0 gh0 Wr N s gh a w) (hdst : o.dst = some d) (hd : d < N)
    (ho : o.op = .unOp op xT ox) (hx : OpdM ox x) (hs : stepD P call s (.un d op x) = some δ) :
    o.wp P a w (fun a' w' => Mod w0 gh0 Wr N (s.ap (some d) δ) a' w') Q := by
  simp only [stepD, Option.bind_eq_some_iff, Option.map_eq_some_iff] at hs
  obtain ⟨u, hu, v, hv, r, hr, rfl⟩ := hs
  refine put_ok h hdst hd ?_ (scal_rep hr)
  simp only [execOp, ho, getW_exact1 h hx hu]
  exact run_execOp_value (calcP_run hv)

theorem ok_conv {d : Nat} {src dst : TypeId} {x : Opd} {ox : Operand} {δ : De} (h : AI w0 gh0 Wr N s gh a w) (hdst : o.dst = some d) (hd : d < N)
    (ho : o.op = .convert src dst ox) (hx : OpdM ox x) (hs : stepD P call s (.conv d src dst x) = some δ) :
    o.wp P a w (fun a' w' => Mod w0 gh0 Wr N (s.ap (some d) δ) a' w') Q := by
  simp only [stepD, Option.bind_eq_some_iff, Option.map_eq_some_iff] at hs
  obtain ⟨u, hu, v, hv, r, hr, rfl⟩ := hs
  refine put_ok h hdst hd ?_ (scal_rep hr)
  simp only [execOp, ho, getW_exact1 h hx hu]
  exact run_execOp_value (calcP_run hv)

theorem ok_idx {d : Nat} {T : TypeId} {x i : Opd} {ox oi : Operand} {δ : De} (h : AI w0 gh0 Wr N s gh a w) (hdst : o.dst = some d) (hd : d < N)
    (ho : o.op = .index T ox oi) (hx : OpdM ox x) (hi : OpdM oi i) (hs : stepD P call s (.idx d T x i) = some δ) :
    o.wp P a w (fun a' w' => Mod w0 gh0 Wr N (s.ap (some d) δ) a' w') Q := by
  simp only [stepD, Option.bind_eq_some_iff, Option.map_eq_some_iff] at hs
  obtain ⟨u, hu, u', hu', v, hv, r, hr, rfl⟩ := hs
  refine put_ok h hdst hd ?_ (scal_rep hr)
  simp only [execOp, ho, getW_exact1 h hx hu, getW_exact1 h hi hu']
  exact run_execOp_value (calcP_run hv)

theorem Rep.toC {d : DV} {v : Value} (h : Rep w gh.S d v) : noL d = true ∧ CRep w gh none d v := by
  cases h with
  | nil A => exact ⟨rfl, (Rep.nil A).wk1, .inl ⟨rfl, _, rfl⟩⟩
  | any => exact ⟨rfl, Rep.any _⟩
  | val => exact ⟨rfl, Rep.val _⟩
  | lst a b c d e f => exact ⟨rfl, Rep.lst a b c d e f⟩
  | pim a b => exact ⟨rfl, Rep.pim a b⟩
  | agg a b => exact ⟨rfl, Rep.agg a b⟩
  | tup a b => exact ⟨rfl, Rep.tup a b⟩
  | clo a b => exact ⟨rfl, Rep.clo a b⟩

theorem CRep.wkS {ℓ : Option Own} {d : DV} {v : Value} (h : CRep w gh ℓ d v) : SRep w gh none (wk d) v := by
  cases d with
  | lst o rows => cases o with
    | true => exact h.1
    | false => exact h
  | agg cs =>
    cases h with
    | agg hl hrep =>
      rename_i vs
      refine ⟨vs, rfl, by simpa using hl, fun j c u hc hu => ?_⟩
      simp only [List.getElem?_map, Option.map_eq_some_iff] at hc
      obtain ⟨c0, hc0, rfl⟩ := hc
      exact (hrep j c0 u hc0 hu).wk1.toC
  | tup cs =>
    cases h with
    | tup hl hrep => exact ⟨_, rfl, hl, fun j c u hc hu => (hrep j c u hc hu).toC⟩
  | clo f caps =>
    cases h with
    | clo hl hrep => exact ⟨_, rfl, hl, fun j c u hc hu => (hrep j c u hc hu).toC.2⟩
  | _ => exact h

theorem ok_ext {d i : Nat} {x : Opd} {ox : Operand} {δ : De} (h : AI w0 gh0 Wr N s gh a w) (hdst : o.dst = some d) (hd : d < N)
    (ho : o.op = .extract ox i) (hx : OpdM ox x) (hs : stepD P call s (.ext d x i) = some δ) :
    o.wp P a w (fun a' w' => Mod w0 gh0 Wr N (s.ap (some d) δ) a' w') Q := by
  simp only [stepD] at hs
  split at hs
  · rename_i cs heq
    simp only [Option.bind_eq_some_iff, Option.ite_none_right_eq_some, Option.some.injEq] at hs
    obtain ⟨c, hc, _, rfl⟩ := hs
    obtain ⟨ℓ, hr⟩ := h.getO hx
    rw [heq] at hr
    obtain ⟨vs, e, h1, h2⟩ := hr
    have hi : i < vs.size := by
      rw [h1]; exact (List.getElem?_eq_some_iff.1 hc).1
    refine put_ok (v := vs[i]) h hdst hd ?_ (h2 i c vs[i] hc (by simp [hi])).2.wkS
    simp [execOp, ho, e, Instr.extract, hi]
  · simp at hs

theorem ok_mnx {d : Nat} {mx : Bool} {xs : List Opd} {oxs : List Operand} {Ts : Array TypeId} {δ : De} (h : AI w0 gh0 Wr N s gh a w) (hdst : o.dst = some d) (hd : d < N)
    (ho : o.op = .call { callee := .builtin (if mx then .max else .min), args := oxs.toArray, argTypes := Ts }) (hx : OpdsM oxs xs) (hs : stepD P call s (.mnx d mx xs) = some δ) :
    o.wp P a w (fun a' w' => Mod w0 gh0 Wr N (s.ap (some d) δ) a' w') Q := by
  simp only [stepD, Option.bind_eq_some_iff, Option.map_eq_some_iff] at hs
  obtain ⟨us, hus, v, hv, r, hr, rfl⟩ := hs
  have hl := mapO_len hus
  have e : oxs.map a.eval = us := by
    apply List.ext_getElem?
    intro j
    by_cases hj : j < us.length
    · obtain ⟨x, hxj, hf⟩ := mapO_get hus j us[j] (by simp [hj])
      simp only [List.getElem?_map, Option.map_eq_some_iff] at hxj
      obtain ⟨y, hy, rfl⟩ := hxj
      have hjo : j < oxs.length := by rw [hx.1]; simpa [hl] using hj
      have := getW_exact1 h (hx.2 j oxs[j] y (by simp [hjo]) hy) hf
      simp [hjo, this, hj]
    · have : us.length ≤ j := by omega
      have h2 : oxs.length ≤ j := by rw [hx.1]; simpa [hl] using this
      simp [List.getElem?_eq_none, this, h2]
  refine put_ok h hdst hd ?_ (scal_rep hr)
  have hrun := calcP_run (w := w) hv
  cases mx with
  | true =>
    simp only [if_true] at ho hrun
    simp only [execOp, ho, resolve, invoke, builtin, Sem.run_bind, Sem.run_pure, Result.andThen_ok, List.map_toArray, e]
    have : (Builtin.max_ Ts o.type us.toArray).run P w = .ok v w := hrun
    simp [this]
  | false =>
    simp only [Bool.false_eq_true, if_false] at ho hrun
    simp only [execOp, ho, resolve, invoke, builtin, Sem.run_bind, Sem.run_pure, Result.andThen_ok, List.map_toArray, e]
    have : (Builtin.min_ Ts o.type us.toArray).run P w = .ok v w := hrun
    simp [this]

theorem ok_mkf {d : Nat} {f : FuncId} {xs : List Opd} {oxs : List Operand} {δ : De} (h : AI w0 gh0 Wr N s gh a w) (hdst : o.dst = some d) (hd : d < N)
    (ho : o.op = .makeFunc (.func f) #[] oxs.toArray) (hx : OpdsM oxs xs) (hs : stepD P call s (.mkf d f xs) = some δ) :
    o.wp P a w (fun a' w' => Mod w0 gh0 Wr N (s.ap (some d) δ) a' w') Q := by
  simp only [stepD] at hs
  split at hs
  · rename_i hall
    simp only [Option.some.injEq] at hs
    subst hs
    refine put_ok (v := .func (.func f) #[] (oxs.map a.eval).toArray) h hdst hd ?_ ?_
    · simp [execOp, ho, Instr.makeFunc]
    · refine ⟨_, rfl, by simp [hx.1], fun j c u hc hu => ?_⟩
      simp only [List.getElem?_map, Option.map_eq_some_iff] at hc
      obtain ⟨y, hy, rfl⟩ := hc
      simp only [List.getElem?_toArray, List.getElem?_map, Option.map_eq_some_iff] at hu
      obtain ⟨ox, hox, rfl⟩ := hu
      have hr := h.getW (hx.2 j ox y hox hy)
      have hc := List.all_eq_true.1 hall (getW s.fr y) (List.mem_map.2 ⟨y, List.mem_of_getElem? hy, rfl⟩)
      cases hd : getW s.fr y <;> rw [hd] at hr hc <;> first | exact hr | simp at hc
  · simp at hs

end Go.AM
