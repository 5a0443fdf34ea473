/- Operations, regions, code: what the machine runs is what the abstract machine runs. -/
import Derived.Test.YtnglcmfgkcdgcaaGreatAmA16
import Derived.Test.YtnglcmfgkcdgcaaGreatAmB4
namespace Go.AM
open Go
set_option linter.unusedVariables false
set_option linter.unusedSimpArgs false

variable {w0 w w' : World} {Wr : Nat → Prop} {s s' : St} {gh gh' gh0 : Gh} {P : Program} {call : Call} {t t' : Nat → Value}
variable {N : Nat} {a : Act} {Q : Exit → Act → World → Prop} {o : Oper}

/-- A type's zero value, cell by cell. -/
def ZeroM (P : Program) (T : TypeId) (zero : List Value) : Prop :=
  ∃ ti z, P.info? T = some ti ∧ ti.zero = some z ∧ z.cells.toList = zero ∧ ∀ v ∈ zero, v.oneCell' = true

/-- An element's type: its width, its zero value, its bytes. -/
def ElemM (P : Program) (T : TypeId) (sz : Nat) (e : TypeId) (ti : TypeInfo) : Prop :=
  P.underlying T = some (.slice e) ∧ P.info? e = some ti ∧ ti.size = sz ∧ 0 < sz ∧ ti.bytes ≤ 32768

/-- An operation is what the abstract one says. -/
def OpM (P : Program) (N : Nat) (o : Oper) : AOp → Prop
  | .mv d x _ => o.dst = some d ∧ d < N ∧ ∃ ox, (o.op = .move ox ∨ o.op = .assign ox) ∧ OpdM ox x
  | .nilc d x => o.dst = some d ∧ d < N ∧ ∃ ox, o.op = .nilCheck ox ∧ OpdM ox x
  | .pick d c x y => o.dst = some d ∧ d < N ∧ ∃ oc ox oy, o.op = .pick oc ox oy ∧ OpdM oc c ∧ OpdM ox x ∧ OpdM oy y
  | .alloc d T zero _ => o.dst = some d ∧ d < N ∧ o.op = .alloc T ∧ ZeroM P T zero
  | .box d T x _ => o.dst = some d ∧ d < N ∧ ∃ ox, o.op = .box T ox ∧ OpdM ox x
  | .build d T zero parts => o.dst = some d ∧ d < N ∧ ∃ oparts ti z pl, o.op = .build T oparts ∧ P.info? T = some ti ∧ ti.zero = some z ∧ z.cells.toList = zero ∧ (∀ v ∈ zero, v.oneCell' = true) ∧
      (∀ parts' cells, Instr.fill pl z.cells parts' = some cells → P.built T parts' = some cells) ∧ PartsM pl oparts.toList parts
  | .bsl d T sz zero n parts => o.dst = some d ∧ d < N ∧ ∃ oparts e ti z, o.op = .buildSlice T n oparts ∧ ElemM P T sz e ti ∧ ti.zero = some z ∧ z.cells.toList = zero ∧ (∀ v ∈ zero, v.oneCell' = true) ∧ PartsR oparts.toList parts
  | .ld d T n ag x _ => o.dst = some d ∧ d < N ∧ ∃ ox ti dsc, o.op = .load T ox ∧ P.underlying T = some dsc ∧ tyAg dsc = ag ∧ P.info? T = some ti ∧ ti.size = n ∧ OpdM ox x
  | .st T n p x _ => o.dst = none ∧ ∃ op ox ti, o.op = .store T op ox ∧ P.info? T = some ti ∧ ti.size = n ∧ OpdM op p ∧ OpdM ox x
  | .bin d op T x y => o.dst = some d ∧ d < N ∧ ∃ ox oy yT, o.op = .binOp op T ox oy yT ∧ OpdM ox x ∧ OpdM oy y
  | .un d op x => o.dst = some d ∧ d < N ∧ ∃ ox xT, o.op = .unOp op xT ox ∧ OpdM ox x
  | .conv d src dst x => o.dst = some d ∧ d < N ∧ ∃ ox, o.op = .convert src dst ox ∧ OpdM ox x
  | .slc d T str sz x lo hi mx => o.dst = some d ∧ d < N ∧ ∃ ox olo ohi omx, o.op = .slice T ox olo ohi omx ∧
      (if str then P.underlying T = some .string else ∃ e ti, P.underlying T = some (.slice e) ∧ P.info? e = some ti ∧ ti.size = sz) ∧ OpdM ox x ∧ OptM olo lo ∧ OptM ohi hi ∧ OptM omx mx ∧ (mx.isSome = true → hi.isSome = true)
  | .fad d T fi off n x => o.dst = some d ∧ d < N ∧ ∃ ox fs fl ti, o.op = .fieldAddr T ox fi ∧ P.underlying T = some (.struct fs) ∧ fs[fi]? = some fl ∧ fl.offset = off ∧ P.info? fl.type = some ti ∧ ti.size ≠ 0 ∧ OpdM ox x
  | .iad d T sz x i => o.dst = some d ∧ d < N ∧ ∃ ox oi e ti, o.op = .indexAddr T ox oi ∧ P.underlying T = some (.slice e) ∧ P.info? e = some ti ∧ ti.size = sz ∧ OpdM ox x ∧ OpdM oi i
  | .idx d T x i => o.dst = some d ∧ d < N ∧ ∃ ox oi, o.op = .index T ox oi ∧ OpdM ox x ∧ OpdM oi i
  | .ext d x i => o.dst = some d ∧ d < N ∧ ∃ ox, o.op = .extract ox i ∧ OpdM ox x
  | .call d f args _ => o.dst = d ∧ (∀ x, d = some x → x < N) ∧ ∃ oargs Ts, o.op = .call { callee := .value (.func f), args := oargs.toArray, argTypes := Ts } ∧ OpdsM oargs args
  | .callv d x args _ => o.dst = d ∧ (∀ x, d = some x → x < N) ∧ ∃ ox oargs Ts, o.op = .call { callee := .value ox, args := oargs.toArray, argTypes := Ts } ∧ OpdM ox x ∧ OpdsM oargs args
  | .len d str x => o.dst = some d ∧ d < N ∧ ∃ ox T, o.op = .call { callee := .builtin .len, args := #[ox], argTypes := #[T] } ∧ (if str then P.underlying T = some .string else ∃ e, P.underlying T = some (.slice e)) ∧ OpdM ox x
  | .app d T sz x y => o.dst = some d ∧ d < N ∧ ∃ ox oy e ti z, o.op = .call { callee := .builtin .append, args := #[ox, oy], argTypes := #[T, T] } ∧ ElemM P T sz e ti ∧ ti.zero = some z ∧ z.cells.size = sz ∧ OpdM ox x ∧ OpdM oy y
  | .mnx d mx args => o.dst = some d ∧ d < N ∧ ∃ oargs Ts, o.op = .call { callee := .builtin (if mx then .max else .min), args := oargs.toArray, argTypes := Ts } ∧ OpdsM oargs args
  | .mkf d f caps => o.dst = some d ∧ d < N ∧ ∃ ocaps, o.op = .makeFunc (.func f) #[] ocaps.toArray ∧ OpdsM ocaps caps
  | .mks d T sz zero l c _ => o.dst = some d ∧ d < N ∧ ∃ ol oc e ti z, o.op = .makeSlice T ol oc ∧ ElemM P T sz e ti ∧ ti.zero = some z ∧ z.cells.toList = zero ∧ (∀ v ∈ zero, v.oneCell' = true) ∧ OpdM ol l ∧ OpdM oc c

theorem step_ok {aop : AOp} {δ : De} (h : AI w0 gh0 Wr N s gh a w) (hC : CallOK P call) (hm : OpM P N o aop) (hs : stepD P call s aop = some δ) :
    o.wp P a w (fun a' w' => Mod w0 gh0 Wr N (s.ap (dstOf aop) δ) a' w') Q := by
  cases aop with
  | mv d x tr => obtain ⟨h1, h2, ox, h3, h4⟩ := hm; exact ok_mv h h1 h2 h3 h4 hs
  | nilc d x => obtain ⟨h1, h2, ox, h3, h4⟩ := hm; exact ok_nilc h h1 h2 h3 h4 hs
  | pick d c x y => obtain ⟨h1, h2, oc, ox, oy, h3, h4, h5, h6⟩ := hm; exact ok_pick h h1 h2 h3 h4 h5 h6 hs
  | alloc d T zero g => obtain ⟨h1, h2, h3, ti, z, h4, h5, h6, h7⟩ := hm; exact ok_alloc h h1 h2 h3 h4 h5 h6 h7 hs
  | box d T x mode => obtain ⟨h1, h2, ox, h3, h4⟩ := hm; exact ok_box h h1 h2 h3 h4 hs
  | build d T zero parts => obtain ⟨h1, h2, op, ti, z, pl, h3, h4, h5, h6, h7, h8, h9⟩ := hm; exact ok_build h h1 h2 h3 h4 h5 h6 h7 h8 h9 hs
  | bsl d T sz zero n parts => obtain ⟨h1, h2, op, e, ti, z, h3, ⟨h4, h5, h6, h7, _⟩, h9, h10, h11, h12⟩ := hm; exact ok_bsl h h1 h2 h3 h4 h5 h6 h7 h9 h10 h11 h12 hs
  | ld d T n ag x tr =>
    obtain ⟨h1, h2, ox, ti, dsc, h3, h4, h5, h6, h7, h8⟩ := hm
    cases tr with
    | true => exact ok_ldtr h h1 h2 h3 h4 h5 h6 h7 h8 hs
    | false => exact ok_ld h h1 h2 h3 h4 h5 h6 h7 h8 hs
  | st T n p x tr => obtain ⟨h1, op, ox, ti, h3, h4, h5, h6, h7⟩ := hm; exact ok_st h h1 h3 h4 h5 h6 h7 hs
  | bin d op T x y => obtain ⟨h1, h2, ox, oy, yT, h3, h4, h5⟩ := hm; exact ok_bin h h1 h2 h3 h4 h5 hs
  | un d op x => obtain ⟨h1, h2, ox, xT, h3, h4⟩ := hm; exact ok_un h h1 h2 h3 h4 hs
  | conv d src dst x => obtain ⟨h1, h2, ox, h3, h4⟩ := hm; exact ok_conv h h1 h2 h3 h4 hs
  | slc d T str sz x lo hi mx => obtain ⟨h1, h2, ox, olo, ohi, omx, h3, h4, h5, h6, h7, h8, h9⟩ := hm; exact ok_slc h h1 h2 h3 h4 h5 h6 h7 h8 h9 hs
  | fad d T fi off n x => obtain ⟨h1, h2, ox, fs, fl, ti, h3, h4, h5, h6, h7, h8, h9⟩ := hm; exact ok_fad h h1 h2 h3 h4 h5 h6 h7 h8 h9 hs
  | iad d T sz x i => obtain ⟨h1, h2, ox, oi, e, ti, h3, h4, h5, h6, h7, h8⟩ := hm; exact ok_iad h h1 h2 h3 h4 h5 h6 h7 h8 hs
  | idx d T x i => obtain ⟨h1, h2, ox, oi, h3, h4, h5⟩ := hm; exact ok_idx h h1 h2 h3 h4 h5 hs
  | ext d x i => obtain ⟨h1, h2, ox, h3, h4⟩ := hm; exact ok_ext h h1 h2 h3 h4 hs
  | call d f args op => obtain ⟨h1, h2, oargs, Ts, h3, h4⟩ := hm; exact ok_call h h1 h2 h3 h4 hC hs
  | callv d x args op => obtain ⟨h1, h2, ox, oargs, Ts, h3, h4, h5⟩ := hm; exact ok_callv h h1 h2 h3 h4 h5 hC hs
  | len d str x => obtain ⟨h1, h2, ox, T, h3, h4, h5⟩ := hm; exact ok_len (Ts := #[]) h h1 h2 h3 h4 h5 hs
  | app d T sz x y => obtain ⟨h1, h2, ox, oy, e, ti, z, h3, ⟨h4, h5, h6, h7, h8⟩, h9, h10, h11, h12⟩ := hm; exact ok_app h h1 h2 h3 h4 h5 h6 h7 h8 h9 h10 h11 h12 hs
  | mnx d mx args => obtain ⟨h1, h2, oargs, Ts, h3, h4⟩ := hm; exact ok_mnx h h1 h2 h3 h4 hs
  | mkf d f caps => obtain ⟨h1, h2, ocaps, h3, h4⟩ := hm; exact ok_mkf h h1 h2 h3 h4 hs
  | mks d T sz zero l c lo => obtain ⟨h1, h2, ol, oc, e, ti, z, h3, ⟨h4, h5, h6, h7, h8⟩, h9, h10, h11, h12, h13⟩ := hm; exact ok_mks h h1 h2 h3 h4 h5 h6 h8 h9 h10 h11 h12 h13 hs

/-- A guarded operation. -/
def GM (P : Program) (N : Nat) (ops : Array Oper) (o : Oper) (g : GOp) : Prop :=
  OpM P N o g.op ∧ match g.gd with
    | none => o.guard = none
    | some (j, b) => j < N ∧ ∃ i, o.guard = some (i, b) ∧ (ops[i]?).bind (·.dst) = some j

theorem OpM.dst {aop : AOp} (h : OpM P N o aop) : o.dst = dstOf aop ∧ ∀ x, dstOf aop = some x → x < N := by
  cases aop <;> first
    | (obtain ⟨h1, h2, _⟩ := h; exact ⟨h1, fun x hx => by simp only [dstOf, Option.some.injEq] at hx; subst hx; exact h2⟩)
    | (obtain ⟨h1, h2, _⟩ := h; exact ⟨h1, h2⟩)
    | (obtain ⟨h1, _⟩ := h; exact ⟨h1, fun x hx => by simp [dstOf] at hx⟩)

theorem tm_get (a : Act) {j : Nat} (hj : j < a.tmps.size) : a.tmps[j]? = some (tm a j) := by
  simp [tm, hj]

theorem skip_ok {d : Option Nat} (h : AI w0 gh0 Wr N s gh a w) (hd : ∀ x, d = some x → x < N) : Mod w0 gh0 Wr N { s with fr := putO s.fr d skipV } (a.put d undef) w := by
  cases d with
  | none => exact ⟨gh, h⟩
  | some d =>
    refine ⟨{ gh with hb := updO gh.hb (.sl d) none }, ?_, by simpa using h.size, by simpa using h.defers⟩
    rw [tm_put _ _ _ (by rw [h.size]; exact hd d rfl)]
    exact h.inv.put d (d := skipV) ⟨#[], rfl, rfl, fun j c u hc => by simp at hc⟩

theorem gstep_ok {ops : Array Oper} {g : GOp} {s1 : St} {i : Nat} (h : AI w0 gh0 Wr N s gh a w) (hC : CallOK P call) (hi : ops[i]? = some o) (hm : GM P N ops o g) (hs : gstep P call s g = some s1) :
    wpOp P ops Q i (fun a' w' => Mod w0 gh0 Wr N s1 a' w') a w := by
  unfold wpOp
  simp only [hi]
  have hdst := OpM.dst hm.1
  simp only [gstep, Option.map_eq_some_iff] at hs
  obtain ⟨δ, hs, rfl⟩ := hs
  have run : oneD P call s g = some δ → o.wp P a w (fun a' w' => Mod w0 gh0 Wr N (s.ap (dstOf g.op) δ) a' w') Q := fun h1 => step_ok h hC hm.1 (oneD_put h1)
  unfold gD at hs
  cases hg : g.gd with
  | none =>
    have hgu : o.guard = none := by have := hm.2; rw [hg] at this; exact this
    simp only [hg] at hs
    rw [if_pos (by simp [Region.wanted, hgu])]
    exact .inl (run hs)
  | some p =>
    obtain ⟨j, b⟩ := p
    have hgu := hm.2
    rw [hg] at hgu
    obtain ⟨hj, i', hgd, hbind⟩ := hgu
    simp only [hg] at hs
    have hslot := h.inv.slots j
    have hy : yielded ops a.tmps i' = (match tm a j with | .bool b => some b | _ => none) := by
      unfold yielded
      rw [hbind]
      simp only [Option.bind_some]
      rw [tm_get a (by rw [h.size]; exact hj)]
      cases tm a j <;> rfl
    have skip : some (De.put skipV none) = some δ → Mod w0 gh0 Wr N (s.ap (dstOf g.op) δ) (a.put o.dst undef) w := by
      intro e
      cases e
      rw [hdst.1]
      exact skip_ok h hdst.2
    split at hs
    · rename_i t heq
      rw [heq] at hslot
      have ht : tm a j = .bool t := by
        generalize tm a j = v at hslot
        cases hslot; rfl
      have hw : Region.wanted o (yielded ops a.tmps) = (t == b) := by
        simp only [Region.wanted, hgd, hy, ht]
        cases t <;> cases b <;> rfl
      split at hs
      · rename_i htb
        rw [if_pos (by rw [hw]; simp [htb])]
        exact .inl (run hs)
      · rename_i htb
        rw [if_neg (by rw [hw]; simp [htb])]
        exact skip hs
    · rename_i heq
      rw [heq] at hslot
      obtain ⟨vs, ht, _⟩ := hslot
      have hw : Region.wanted o (yielded ops a.tmps) = false := by
        simp only [Region.wanted, hgd, hy, ht]
        rfl
      rw [if_neg (by rw [hw]; simp)]
      exact skip hs
    · simp at hs

theorem steps_ok {ops : Array Oper} {gops : List GOp} {s' : St} (hC : CallOK P call) (hlen : ops.size = gops.length) (hG : ∀ (i : Nat) o g, ops[i]? = some o → gops[i]? = some g → GM P N ops o g)
    (hQ : ∀ a w, Mod w0 gh0 Wr N s' a w → Q .normal a w) : ∀ (n k : Nat) (s : St) (a : Act) (w : World), k + n = gops.length → Mod w0 gh0 Wr N s a w → steps P call s (gops.drop k) = some s' → wpOps P ops Q (List.range' k n) a w
  | 0, k, s, a, w, hk, hM, hs => by
    have : gops.drop k = [] := by simp; omega
    rw [this] at hs
    simp only [steps, Option.some.injEq] at hs
    subst hs
    exact hQ a w hM
  | n + 1, k, s, a, w, hk, ⟨gh, hA⟩, hs => by
    have hkl : k < gops.length := by omega
    rw [List.drop_eq_getElem_cons hkl] at hs
    simp only [steps, Option.bind_eq_some_iff] at hs
    obtain ⟨s1, h1, h2⟩ := hs
    rw [List.range'_succ, wpOps_cons]
    have hko : k < ops.size := by omega
    have hi : ops[k]? = some ops[k] := by simp [hko]
    refine wpOp_mono (fun a' w' hM => ?_) (gstep_ok hA hC hi (hG k _ _ hi (by simp)) h1)
    exact steps_ok hC hlen hG hQ n (k + 1) s1 a' w' (by omega) hM h2

theorem kill_lst_eq {d : Nat} {v : DV} {b : Bool} {rows : Rows} (h : kill d v = .lst b rows) : v = .lst b rows := by
  rcases kill_or d v with h1 | h1 <;> rw [h1] at h
  · exact h
  · simp at h

theorem forget_uses {d : Nat} : ∀ k b, Uses (s.forget d) gh k b → Uses s gh k b := by
    intro k b hu
    match k, hu with
    | .own (.sl i), ⟨⟨rows, hr⟩, hb⟩ => exact ⟨⟨rows, kill_lst_eq hr⟩, hb⟩
    | .own (.ge g i c), hu => exact hu
    | .own (.le l i c), ⟨⟨rs, row, rows, h1, h2⟩, hb⟩ =>
      refine ⟨⟨rs, row, rows, ?_, h2⟩, hb⟩
      simp only [St.forget, upd] at h1
      split at h1
      · simp at h1
      · exact h1
    | .go g, hu => exact hu
    | .lo l, ⟨h1, hb⟩ =>
      refine ⟨?_, hb⟩
      simp only [St.forget, upd] at h1
      split at h1
      · simp at h1
      · exact h1

/-- An object is forgotten. -/
theorem Inv.forget {t : Nat → Value} (h : Inv w0 gh0 Wr s gh t w) (d : Nat) : Inv w0 gh0 Wr (s.forget d) gh t w := by
  have back : ∀ k b, Uses (s.forget d) gh k b → Uses s gh k b := forget_uses
  refine { os := h.os, tape := h.tape, output := h.output, size := h.size, frame := h.frame, wrNew := h.wrNew, s0 := h.s0, keep0 := h.keep0, m0 := h.m0, marks := h.marks, slots := fun i => ?_, gobs := h.gobs, lobs := fun l rows hl => ?_, zero := fun k b hu hk => h.zero k b (back k b hu) hk, uses := fun k b hu => h.uses k b (back k b hu), one := fun k k' b hu hu' => h.one k k' b (back k b hu) (back k' b hu'), nx := h.nx }
  · show SRep w gh _ (kill d (s.fr i)) _
    rcases kill_or d (s.fr i) with h1 | h1 <;> rw [h1]
    · exact h.slots i
    · exact Rep.any _
  · simp only [St.forget, upd] at hl
    split at hl
    · simp at hl
    · exact h.lobs l rows hl

theorem frzV_kill {l : Nat} {rows : Rows} {v : DV} (h : ∀ off len, v ≠ .larr l off len) : frzV l rows v = kill l v := by
  cases v with
  | larr s off len =>
    have hs : s ≠ l := fun e => h off len (by rw [e])
    simp [frzV, kill, hs]
  | _ => rfl

/-- An array of the activation's own is no longer written to. -/
theorem Inv.freeze {t : Nat → Value} {l : Nat} (h : Inv w0 gh0 Wr s gh t w) (hs : s.freeze l = some s') : ∃ gh', Inv w0 gh0 Wr s' gh' t w := by
  simp only [St.freeze, Option.bind_eq_some_iff, Option.ite_none_right_eq_some, Option.some.injEq] at hs
  obtain ⟨rows, hro, hall, rfl⟩ := hs
  have hul : Uses s gh (.lo l) (gh.lmu l) := ⟨by simp [hro], rfl⟩
  obtain ⟨cur, e, hcur, hle, hcells⟩ := h.lobs l rows hro
  have hS0 : gh.S (gh.lmu l) = 0 := h.zero (.lo l) _ hul (by simp)
  have hnot : ∀ k, ¬ Uses (s.forget l) gh k (gh.lmu l) := by
    intro k hu
    have := h.one k (.lo l) _ (forget_uses k _ hu) hul
    subst this
    have := hu.1
    simp [St.forget, upd] at this
  obtain ⟨h2, hk⟩ := (h.forget l).grow (w' := w) (g := gh.lmu l) (n := rows.length * gh.lsz l) hnot (h.uses _ _ hul).1 rfl rfl rfl rfl (h.uses _ _ hul).2 (fun _ _ => rfl) (fun _ _ => rfl) (by rw [hS0]; exact Nat.zero_le _)
  refine ⟨_, h2.reslot (fun i => frzV l rows (s.fr i)) t gh.hb (fun _ _ _ => rfl) (fun _ _ _ => rfl) (fun i => ?_) id (fun i b rows' hl hb => ⟨⟨rows', ?_⟩, hb⟩) (fun i j b _ _ _ _ hij => hij)⟩
  · by_cases hx : ∃ off len, s.fr i = .larr l off len
    · obtain ⟨off, len, hx⟩ := hx
      have hr := h.slots i
      rw [hx] at hr ⊢
      obtain ⟨A, cap, hv, h3, h4, hA⟩ := hr
      simp only [frzV, if_true]
      split
      case isFalse => exact Rep.any _
      rename_i hlen
      have hu : ∀ p : Nat × Nat, ∃ u, ∀ row d0, rows[off + p.1]? = some row → row[p.2]? = some d0 → cur[(off + p.1) * gh.lsz l + p.2]? = some u ∧ u.oneCell' = true ∧ CRep w gh (some (.le l (off + p.1) p.2)) d0 u := by
        rintro ⟨i, j⟩
        by_cases hx : ∃ row d0, rows[off + i]? = some row ∧ row[j]? = some d0
        · obtain ⟨row, d0, e1, e2⟩ := hx
          obtain ⟨_, u, k1, k2, k3⟩ := (hcells _ row e1).2 j d0 e2
          refine ⟨u, fun row' d1 e1' e2' => ?_⟩
          simp only at e1' e2'
          rw [e1] at e1'; cases e1'
          rw [e2] at e2'; cases e2'
          exact ⟨k1, k2, k3⟩
        · exact ⟨undef, fun row d0 e1 e2 => absurd ⟨row, d0, e1, e2⟩ hx⟩
      have ⟨f, hf⟩ := Classical.axiomOfChoice hu
      have hget : ∀ i row, (((rows.drop off).take len).map (·.map wk1))[i]? = some row → ∃ row0, rows[off + i]? = some row0 ∧ i < len ∧ row = row0.map wk1 := by
        intro i row hi
        simp only [List.getElem?_map, Option.map_eq_some_iff] at hi
        obtain ⟨row0, hi0, rfl⟩ := hi
        rw [List.getElem?_take] at hi0
        split at hi0
        · rename_i hlt
          rw [List.getElem?_drop] at hi0
          exact ⟨row0, hi0, hlt, rfl⟩
        · simp at hi0
      show Rep w (upd gh.S (gh.lmu l) (rows.length * gh.lsz l)) _ _
      rw [hv]
      refine Rep.lst (b := gh.lmu l) (o := off * gh.lsz l) (sz := gh.lsz l) (u := fun i j => f (i, j)) (by simp; omega) h3 h4 hA (fun i row hr => ?_) (fun i row j dd hr hd => ?_)
      · obtain ⟨row0, e1, e2, rfl⟩ := hget i row hr
        obtain ⟨hl, _⟩ := hcells _ row0 e1
        refine ⟨by simpa using hl, fun j hj => ?_⟩
        obtain ⟨k1, k2, _⟩ := hf (i, j) row0 (row0[j]'(by omega)) e1 (by simp)
        have hi : off + i < rows.length := (List.getElem?_eq_some_iff.1 e1).1
        refine ⟨by rw [cell_of_row w _ _ cur e (0, 0) hcur, ← Nat.add_mul]; exact k1, ?_, k2⟩
        rw [upd_same, ← Nat.add_mul]
        exact mul_lt_row hj hi
      · obtain ⟨row0, e1, e2, rfl⟩ := hget i row hr
        simp only [List.getElem?_map, Option.map_eq_some_iff] at hd
        obtain ⟨d0, hd0, rfl⟩ := hd
        have hp : pureC d0 = true := List.all_eq_true.1 (List.all_eq_true.1 hall row0 (List.mem_of_getElem? e1)) d0 (List.mem_of_getElem? hd0)
        exact ((hf (i, j) row0 d0 e1 hd0).2.2.pure hp).keep hk
    · have hx' : ∀ off len, s.fr i ≠ .larr l off len := fun off len e => hx ⟨off, len, e⟩
      rw [frzV_kill hx']
      exact h2.slots i
  · by_cases hx : ∃ off len, s.fr i = .larr l off len
    · obtain ⟨off, len, hx⟩ := hx
      rw [hx] at hl
      simp only [frzV, if_true] at hl
      split at hl <;> simp at hl
    · have hx' : ∀ off len, s.fr i ≠ .larr l off len := fun off len e => hx ⟨off, len, e⟩
      rw [frzV_kill hx'] at hl
      exact hl

theorem Inv.forgets {t : Nat → Value} : ∀ {gs : List GOp} {s : St}, Inv w0 gh0 Wr s gh t w → Inv w0 gh0 Wr (forgets s gs) gh t w
  | [], _, h => h
  | g :: r, s, h => by
    simp only [AM.forgets]
    split
    · exact Inv.forgets (h.forget _)
    · exact Inv.forgets h

/-- A draw is no change. -/
theorem Inv.drawn {t : Nat → Value} (h : Inv w0 gh0 Wr s gh t w) (n : Nat) : Inv w0 gh0 Wr s gh t { w with drawn := n } := by
  exact h.world (w' := { w with drawn := n }) ⟨rfl, rfl, rfl, Nat.le_refl _, fun _ _ => rfl⟩ gh.S (fun _ _ => rfl) (fun b hb => h.marks b hb)

theorem any_ok {ops : Array Oper} {gops : List GOp} {s' : St} (hC : CallOK P call) (hlen : ops.size = gops.length) (hG : ∀ (i : Nat) o g, ops[i]? = some o → gops[i]? = some g → GM P N ops o g)
    (hQ : ∀ a w, Mod w0 gh0 Wr N s' a w → Q .normal a w) : ∀ (n : Nat) (l : Array Bool) (s : St) (a : Act) (w : World), AnyTo P call ops gops n l s s' → Mod w0 gh0 Wr N s a w → wpAny P .any ops Q n l a w
  | 0, l, s, a, w, hA, hM => ⟨hA.1, hQ a w (hA.2 ▸ hM)⟩
  | n + 1, l, s, a, w, hA, hM => by
    refine ⟨fun h => hQ a w (hA.1 h ▸ hM), fun i hi => ?_⟩
    obtain ⟨g, s1, hg, hs, hA'⟩ := hA.2 i hi
    obtain ⟨_, o, ho, _⟩ := mem_ready.1 hi
    obtain ⟨gh, hI⟩ := hM
    refine wpOp_mono (fun a' w' hM => ?_) (gstep_ok hI hC ho (hG i o g ho hg) hs)
    exact any_ok hC hlen hG hQ n _ s1 a' w' hA' hM

/-- Code is what the abstract code says. -/
inductive CM (P : Program) (N : Nat) : Code → AC → Prop where
  | skip : CM P N .skip .skip
  | frz {l : Nat} {c : Code} {a : AC} : CM P N c a → CM P N c (.frz l a)
  | reg {id : Nat} {ops : Array Oper} {gops : List GOp} (hlen : ops.size = gops.length) (hG : ∀ (i : Nat) o g, ops[i]? = some o → gops[i]? = some g → GM P N ops o g) : CM P N (.region id ops false) (.reg gops false)
  | draw {id : Nat} {ops : Array Oper} {gops : List GOp} (hlen : ops.size = gops.length) (hG : ∀ (i : Nat) o g, ops[i]? = some o → gops[i]? = some g → GM P N ops o g) (hm : P.follows .mixedOrders = true)
      (hD : DrawM ops gops) : CM P N (.region id ops true) (.reg gops true)
  | seq {x y : Code} {a b : AC} : CM P N x a → CM P N y b → CM P N (.seq x y) (.seq a b)
  | cond {oc : Operand} {c : Opd} {x y : Code} {a b : AC} : OpdM oc c → CM P N x a → CM P N y b → CM P N (.cond oc x y) (.cond c a b)
  | block {id : Nat} {x : Code} {a : AC} : CM P N x a → CM P N (.block id x) (.block id a)
  | loop {x : Code} {a : AC} {H : KS} {outs : List (Ex × KS)} : CM P N x a → CM P N (.loop x) (.loop H outs a)
  | scope {x : Code} {a : AC} {outs : List (Ex × KS)} : CM P N x a → CM P N x (.scope outs a)
  | exit {id : Nat} : CM P N (.exit id) (.exit id)
  | ret : CM P N .ret .ret

def exOf : Exit → Option Ex
  | .normal => some .normal
  | .exit id => some (.exit id)
  | .ret => some .ret
  | _ => none

def QX (w0 : World) (gh0 : Gh) (Wr : Nat → Prop) (N : Nat) (ex : Ex) (s' : St) : Exit → Act → World → Prop := fun e a w => exOf e = some ex ∧ Mod w0 gh0 Wr N s' a w

theorem wk_no {d : DV} {rows : Rows} (h : wk d = .lst true rows) : False := by
  cases d <;> simp [wk] at h

/-- What a border lets through holds. -/
theorem Inv.keep {t : Nat → Value} (h : Inv w0 gh0 Wr s gh t w) (k : KS) : Inv w0 gh0 Wr (s.keep k) gh t w := by
  have back : ∀ x b, Uses (s.keep k) gh x b → Uses s gh x b := by
    intro x b hu
    match x, hu with
    | .own (.sl i), ⟨⟨rows, hr⟩, hb⟩ =>
      refine ⟨⟨rows, ?_⟩, hb⟩
      simp only [St.keep] at hr
      split at hr
      · simp at hr
      · exact hr
      · exact (wk_no hr).elim
    | .own (.ge g i c), hu => exact hu
    | .own (.le l i c), ⟨⟨rs, row, rows, h1, h2⟩, hb⟩ =>
      refine ⟨⟨rs, row, rows, ?_, h2⟩, hb⟩
      simp only [St.keep] at h1
      split at h1
      · exact h1
      · simp at h1
    | .go g, hu => exact hu
    | .lo l, ⟨h1, hb⟩ =>
      refine ⟨?_, hb⟩
      simp only [St.keep] at h1
      split at h1
      · exact h1
      · simp at h1
  refine { os := h.os, tape := h.tape, output := h.output, size := h.size, frame := h.frame, wrNew := h.wrNew, s0 := h.s0, keep0 := h.keep0, m0 := h.m0, marks := h.marks, slots := fun i => ?_, gobs := h.gobs, lobs := fun l rows hl => ?_, zero := fun k b hu hk => h.zero k b (back k b hu) hk, uses := fun k b hu => h.uses k b (back k b hu), one := fun k k' b hu hu' => h.one k k' b (back k b hu) (back k' b hu'), nx := h.nx }
  · simp only [St.keep]
    split
    · exact Rep.any _
    · exact h.slots i
    · exact SRep.keep (Keeps.refl _ _) (.inr fun _ hg => ⟨hg, rfl, rfl⟩) (.inr fun _ => ⟨rfl, rfl⟩) (fun rows hr => (wk_no hr).elim) (h.slots i).wk
  · simp only [St.keep] at hl
    split at hl
    · exact h.lobs l rows hl
    · simp at hl

theorem Mod.keep (h : Mod w0 gh0 Wr N s a w) (k : KS) : Mod w0 gh0 Wr N (s.keep k) a w := by
  obtain ⟨gh, hA⟩ := h
  exact ⟨gh, hA.inv.keep k, hA.size, hA.defers⟩

theorem iter_ok {x : Code} {f : St → Option (Ex × St)} (hb : ∀ (s s' : St) (ex : Ex) (a : Act) (w : World), Mod w0 gh0 Wr N s a w → f s = some (ex, s') → x.wp P (QX w0 gh0 Wr N ex s') a w)
    {n : Nat} {ex : Ex} (hM : Mod w0 gh0 Wr N s a w) (hs : iter f n s = some (ex, s')) : (Code.loop x).wp P (QX w0 gh0 Wr N ex s') a w := by
  let K : Nat → Act → World → Prop := fun m a w => ∃ sm, Mod w0 gh0 Wr N sm a w ∧ iter f m sm = some (ex, s')
  have hex : ∀ a w, (∃ m, K m a w) → ∃ m, K m a w ∧ ∀ k, K k a w → m ≤ k := by
    intro a w ⟨m, hm⟩
    induction m using Nat.strongRecOn with
    | _ m ih =>
      by_cases h : ∃ k, k < m ∧ K k a w
      · obtain ⟨k, hk, hK⟩ := h
        exact ih k hk hK
      · refine ⟨m, hm, fun k hk => ?_⟩
        rcases Nat.lt_or_ge k m with h1 | h1
        · exact absurd ⟨k, h1, hk⟩ h
        · exact h1
  let μ : Act → World → Nat := open Classical in fun a w => if h : ∃ m, K m a w then Classical.choose (hex a w h) else 0
  have hμ : ∀ a w, (h : ∃ m, K m a w) → K (μ a w) a w ∧ ∀ k, K k a w → μ a w ≤ k := by
    intro a w h
    simp only [μ, dif_pos h]
    exact Classical.choose_spec (hex a w h)
  refine wp_loop (fun a w => ∃ m, K m a w) μ ⟨n, s, hM, hs⟩ (fun a w hI => ?_)
  obtain ⟨⟨sm, hMm, hit⟩, hmin⟩ := hμ a w hI
  cases hm : μ a w with
  | zero => rw [hm] at hit; simp [iter] at hit
  | succ m =>
    rw [hm] at hit
    simp only [iter, Option.bind_eq_some_iff] at hit
    obtain ⟨⟨ex1, s1⟩, h1, h2⟩ := hit
    refine wp_mono (hb sm s1 ex1 a w hMm h1) fun e a1 w1 he => ?_
    obtain ⟨he1, hM1⟩ := he
    simp only at h2
    split at h2
    · rename_i hn
      subst hn
      cases e <;> simp only [exOf, Option.some.injEq, reduceCtorEq] at he1
      have hK : K m a1 w1 := ⟨s1, hM1, h2⟩
      exact ⟨⟨m, hK⟩, by have := (hμ a1 w1 ⟨m, hK⟩).2 m hK; omega⟩
    · rename_i hn
      simp only [Option.some.injEq, Prod.mk.injEq] at h2
      obtain ⟨rfl, rfl⟩ := h2
      cases e <;> simp only [exOf, Option.some.injEq, reduceCtorEq] at he1
      · exact absurd he1.symm hn
      · exact ⟨by simp only [exOf, he1], hM1⟩
      · exact ⟨by simp only [exOf, he1], hM1⟩

theorem exec_ok {c : Code} {ac : AC} (hC : CallOK P call) (hm : CM P N c ac) (n : Nat) : ∀ (s s' : St) (ex : Ex) (a : Act) (w : World), Mod w0 gh0 Wr N s a w → exec P call n ac s = some (ex, s') → c.wp P (QX w0 gh0 Wr N ex s') a w := by
  induction hm with
  | skip =>
    intro s s' ex a w hM hs
    simp only [exec, Option.some.injEq, Prod.mk.injEq] at hs
    obtain ⟨rfl, rfl⟩ := hs
    exact wp_skip ⟨rfl, hM⟩
  | frz _ ih =>
    intro s s' ex a w hM hs
    simp only [exec, Option.bind_eq_some_iff] at hs
    obtain ⟨s1, h1, h2⟩ := hs
    obtain ⟨gh, hA⟩ := hM
    obtain ⟨gh', hI⟩ := hA.inv.freeze h1
    exact ih s1 s' ex a w ⟨gh', hI, hA.size, hA.defers⟩ h2
  | reg hlen hG =>
    intro s s' ex a w hM hs
    simp only [exec, Option.map_eq_some_iff, Prod.mk.injEq, Bool.false_eq_true, if_false] at hs
    obtain ⟨s1, h1, rfl, rfl⟩ := hs
    refine wp_region ?_
    rw [List.range_eq_range', hlen]
    exact steps_ok hC hlen hG (fun a w hM => ⟨rfl, hM⟩) _ 0 s a w (by simp) hM (by simpa using h1)
  | draw hlen hG hm hD =>
    intro s s' ex a w hM hs
    simp only [exec, Option.map_eq_some_iff, Prod.mk.injEq, if_true] at hs
    obtain ⟨s1, h1, rfl, rfl⟩ := hs
    obtain ⟨gh, hA⟩ := hM
    exact wp_region_any hm (any_ok hC hlen hG (fun a w hM => ⟨rfl, hM⟩) _ _ _ _ _ (text_any_start hD hlen h1) ⟨gh, (hA.inv.forgets).drawn _, hA.size, hA.defers⟩)
  | seq _ _ ih1 ih2 =>
    intro s s' ex a w hM hs
    simp only [exec, Option.bind_eq_some_iff] at hs
    obtain ⟨⟨ex1, s1⟩, h1, h2⟩ := hs
    refine wp_seq (wp_mono (ih1 s s1 ex1 a w hM h1) fun e a1 w1 he => ?_)
    obtain ⟨he1, hM1⟩ := he
    simp only at h2
    split at h2
    · rename_i hn
      subst hn
      cases e <;> simp only [exOf, Option.some.injEq, reduceCtorEq] at he1
      exact ih2 s1 s' ex a1 w1 hM1 h2
    · rename_i hn
      simp only [Option.some.injEq, Prod.mk.injEq] at h2
      obtain ⟨rfl, rfl⟩ := h2
      cases e <;> simp only [exOf, Option.some.injEq, reduceCtorEq] at he1
      · exact absurd he1.symm hn
      · exact ⟨by simp only [exOf, he1], hM1⟩
      · exact ⟨by simp only [exOf, he1], hM1⟩
  | cond hc _ _ ih1 ih2 =>
    intro s s' ex a w hM hs
    simp only [exec] at hs
    split at hs
    case h_2 => simp at hs
    rename_i t heq
    obtain ⟨gh, hA⟩ := hM
    have hv := getO_bool hA hc heq
    refine wp_cond_split hv (fun ht => ?_) (fun ht => ?_)
    · subst ht
      simp only [if_true] at hs
      exact ih1 s s' ex a w ⟨gh, hA⟩ hs
    · subst ht
      simp only [Bool.false_eq_true, if_false] at hs
      exact ih2 s s' ex a w ⟨gh, hA⟩ hs
  | @block id x b _ ih =>
    intro s s' ex a w hM hs
    simp only [exec, Option.map_eq_some_iff] at hs
    obtain ⟨⟨ex1, s1⟩, h1, h2⟩ := hs
    refine wp_block (wp_mono (ih s s1 ex1 a w hM h1) fun e a1 w1 he => ?_)
    obtain ⟨he1, hM1⟩ := he
    simp only at h2
    split at h2
    · rename_i hn
      simp only [Prod.mk.injEq] at h2
      obtain ⟨rfl, rfl⟩ := h2
      subst hn
      cases e <;> simp only [exOf, Option.some.injEq, reduceCtorEq, Ex.exit.injEq] at he1
      subst he1
      simp only [Exit.inBlock, if_true]
      exact ⟨rfl, hM1⟩
    · rename_i hn
      simp only [Prod.mk.injEq] at h2
      obtain ⟨rfl, rfl⟩ := h2
      cases e <;> simp only [exOf, Option.some.injEq, reduceCtorEq] at he1
      · exact ⟨by simp only [exOf, he1], hM1⟩
      · rename_i id'
        have hne : id' ≠ id := by rintro rfl; exact hn he1.symm
        simp only [Exit.inBlock, if_neg hne]
        exact ⟨by simp only [exOf, he1], hM1⟩
      · exact ⟨by simp only [exOf, he1], hM1⟩
  | loop _ ih =>
    intro s s' ex a w hM hs
    simp only [exec] at hs
    refine iter_ok (fun s s' ex a w hM hs => ?_) (hM.keep _) hs
    simp only [Option.bind_eq_some_iff, keepX, Option.map_eq_some_iff, Prod.mk.injEq] at hs
    obtain ⟨⟨ex1, s1⟩, h1, k, h2, rfl, rfl⟩ := hs
    exact wp_mono (ih s s1 ex1 a w hM h1) fun e a1 w1 he => ⟨he.1, he.2.keep k⟩
  | scope _ ih =>
    intro s s' ex a w hM hs
    simp only [exec, Option.bind_eq_some_iff, keepX, Option.map_eq_some_iff, Prod.mk.injEq] at hs
    obtain ⟨⟨ex1, s1⟩, h1, k, h2, rfl, rfl⟩ := hs
    exact wp_mono (ih s s1 ex1 a w hM h1) fun e a1 w1 he => ⟨he.1, he.2.keep k⟩
  | exit =>
    intro s s' ex a w hM hs
    simp only [exec, Option.some.injEq, Prod.mk.injEq] at hs
    obtain ⟨rfl, rfl⟩ := hs
    exact wp_exit ⟨rfl, hM⟩
  | ret =>
    intro s s' ex a w hM hs
    simp only [exec, Option.some.injEq, Prod.mk.injEq] at hs
    obtain ⟨rfl, rfl⟩ := hs
    exact wp_ret ⟨rfl, hM⟩

end Go.AM
