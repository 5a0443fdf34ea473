/- The operations that read memory. -/
import Derived.Test.YtnglcmfgkcdgcaaGreatAmA5
namespace Go.AM
open Go
set_option linter.unusedVariables false
set_option linter.unusedSimpArgs false

variable {w0 w w' : World} {Wr : Nat → Prop} {s s' : St} {gh gh' gh0 : Gh} {P : Program} {call : Call}
variable {N : Nat} {a : Act} {Q : Exit → Act → World → Prop} {o : Oper}

theorem Rep.toS {d : DV} {v : Value} (h : Rep w gh.S d v) : SRep w gh none d v := by
  cases h with
  | nil A => exact ⟨(Rep.nil A).wk1, .inl ⟨rfl, _, rfl⟩⟩
  | any => exact Rep.any _
  | val => exact Rep.val _
  | lst a b c d e f => exact Rep.lst a b c d e f
  | pim a b => exact Rep.pim a b
  | agg a b => exact ⟨_, rfl, a, fun j c u hc hu => (b j c u hc hu).toC⟩
  | tup a b => exact ⟨_, rfl, a, fun j c u hc hu => (b j c u hc hu).toC⟩
  | clo a b => exact ⟨_, rfl, a, fun j c u hc hu => (b j c u hc hu).toC.2⟩

/-- A list's value, whatever the right to append. -/
theorem SRep.rows {ℓ : Option Own} {b : Bool} {rows : Rows} {v : Value} (h : SRep w gh ℓ (.lst b rows) v) : Rep w gh.S (.lst false rows) v := by
  cases b with
  | true => exact h.1
  | false => exact h

theorem ok_fad {d fi off n : Nat} {T : TypeId} {x : Opd} {ox : Operand} {δ : De} {fs : Array Field} {fl : Field} {i : TypeInfo} (h : AI w0 gh0 Wr N s gh a w) (hdst : o.dst = some d) (hd : d < N)
    (ho : o.op = .fieldAddr T ox fi) (hT : P.underlying T = some (.struct fs)) (hf : fs[fi]? = some fl) (hoff : fl.offset = off) (hi : P.info? fl.type = some i) (hsz : i.size ≠ 0)
    (hx : OpdM ox x) (hs : stepD P call s (.fad d T fi off n x) = some δ) :
    o.wp P a w (fun a' w' => Mod w0 gh0 Wr N (s.ap (some d) δ) a' w') Q := by
  obtain ⟨ℓ, hr⟩ := h.getO hx
  have run : ∀ b p, a.eval ox = .pointer (some ⟨b, p, none⟩) → (execOp a.eval o).run P w = .ok (.value (.pointer (some ⟨b, p + off, none⟩))) w := by
    intro b p he
    simp [execOp, ho, he, Instr.fieldAt, run_underlying hT, hf, Instr.sureAddr, fieldPlace, sizeOf, typeInfo, hi, hsz, Addr.add_lit, hoff]
  simp only [stepD] at hs
  split at hs <;> simp only [Option.some.injEq, reduceCtorEq] at hs <;> rename_i heq <;> rw [heq] at hr <;> subst hs
  · rename_i cs
    generalize he : a.eval ox = v at hr
    cases hr with
    | pim hcell hrep =>
      rename_i b p u
      refine put_ok h hdst hd (run b p he) ?_
      refine Rep.pim (u := fun j => u (j + off)) (fun j hj => ?_) (fun j d hd => ?_)
      · have hj' : j + off < cs.length := by simp only [List.length_take, List.length_drop] at hj; omega
        have := hcell (j + off) hj'
        rwa [show p + off + j = p + (j + off) by omega]
      · rw [List.getElem?_take] at hd
        split at hd
        · rw [List.getElem?_drop] at hd
          exact hrep (j + off) d (by rwa [Nat.add_comm])
        · simp at hd
  · obtain ⟨hg, he⟩ := hr
    refine put_ok h hdst hd (run _ _ he) ⟨hg, by rw [Nat.add_assoc]⟩
  · have he : a.eval ox = _ := hr
    refine put_ok h hdst hd (run _ _ he) ?_
    show _ = _
    rw [Nat.add_assoc]

theorem rowsOf_slice {dv : DV} {v : Value} {r : Rows} {ℓ : Option Own} (hr : SRep w gh ℓ dv v) (hs : rowsOf s dv = some r) : ∃ A c, v = .slice A r.length c ∧ r.length ≤ c ∧ c ≤ maxLen := by
  cases dv <;> simp only [rowsOf, reduceCtorEq, Option.some.injEq, Option.bind_eq_some_iff] at hs
  · subst hs
    have := hr.rows
    cases this with
    | lst hn hc hm _ _ _ => subst hn; exact ⟨_, _, rfl, hc, hm⟩
  · obtain ⟨rs, _, hs⟩ := hs
    split at hs <;> simp only [Option.some.injEq, reduceCtorEq] at hs
    subst hs
    obtain ⟨_, A, cap, rfl, h1, h2, _⟩ := hr
    exact ⟨A, cap, by congr 1; simp; omega, by simp; omega, h2⟩
  · obtain ⟨rs, _, hs⟩ := hs
    split at hs <;> simp only [Option.some.injEq, reduceCtorEq] at hs
    subst hs
    obtain ⟨A, cap, rfl, h1, h2, _⟩ := hr
    exact ⟨A, cap, by congr 1; simp; omega, by simp; omega, h2⟩

theorem ok_len {d : Nat} {str : Bool} {T : TypeId} {Ts : Array TypeId} {x : Opd} {ox : Operand} {δ : De} (h : AI w0 gh0 Wr N s gh a w) (hdst : o.dst = some d) (hd : d < N)
    (ho : o.op = .call { callee := .builtin .len, args := #[ox], argTypes := #[T] })
    (hT : if str then P.underlying T = some .string else ∃ e, P.underlying T = some (.slice e))
    (hx : OpdM ox x) (hs : stepD P call s (.len d str x) = some δ) :
    o.wp P a w (fun a' w' => Mod w0 gh0 Wr N (s.ap (some d) δ) a' w') Q := by
  have hr := h.getW hx
  simp only [stepD] at hs
  cases str with
  | true =>
    simp only [if_true] at hs hT
    split at hs <;> simp only [Option.some.injEq, reduceCtorEq] at hs
    rename_i b heq
    subst hs
    rw [heq] at hr
    generalize he : a.eval ox = v at hr
    cases hr
    refine put_ok h hdst hd ?_ (Rep.val _)
    simp [execOp, ho, resolve, invoke, builtin, Builtin.len_, run_underlying hT, he, goInt]
  | false =>
    simp only [Bool.false_eq_true, if_false, Option.map_eq_some_iff] at hs hT
    obtain ⟨r, hrow, rfl⟩ := hs
    obtain ⟨e, hT⟩ := hT
    obtain ⟨A, c, he, _, _⟩ := rowsOf_slice hr hrow
    refine put_ok h hdst hd ?_ (Rep.val _)
    simp [execOp, ho, resolve, invoke, builtin, Builtin.len_, run_underlying hT, he, goInt]

theorem intOfD_rep {x : Opd} {ox : Operand} {n : Int} (h : AI w0 gh0 Wr N s gh a w) (hx : OpdM ox x) (hn : intOfD (getO s.fr x) = some n) : ∃ k, a.eval ox = .int k n := by
  obtain ⟨ℓ, hr⟩ := h.getO hx
  cases hd : getO s.fr x <;> rw [hd] at hn hr <;> simp only [intOfD, reduceCtorEq] at hn
  rename_i u
  cases u <;> simp only [reduceCtorEq, Option.some.injEq] at hn
  subst hn
  generalize a.eval ox = v at hr
  cases hr
  exact ⟨_, rfl⟩

theorem getElem?_toNat_lt {α : Type} {l : List α} {n : Int} {x : α} (h : l[n.toNat]? = some x) : n.toNat < l.length := (List.getElem?_eq_some_iff.1 h).1

theorem ok_iad {d sz : Nat} {T e : TypeId} {x i : Opd} {ox oi : Operand} {δ : De} {ti : TypeInfo} (h : AI w0 gh0 Wr N s gh a w) (hdst : o.dst = some d) (hd : d < N)
    (ho : o.op = .indexAddr T ox oi) (hT : P.underlying T = some (.slice e)) (hi : P.info? e = some ti) (hsz : ti.size = sz)
    (hx : OpdM ox x) (hi' : OpdM oi i) (hs : stepD P call s (.iad d T sz x i) = some δ) :
    o.wp P a w (fun a' w' => Mod w0 gh0 Wr N (s.ap (some d) δ) a' w') Q := by
  obtain ⟨ℓ, hr⟩ := h.getO hx
  simp only [stepD, Option.bind_eq_some_iff] at hs
  obtain ⟨n, hn, hs⟩ := hs
  obtain ⟨k, hk⟩ := intOfD_rep h hi' hn
  have run : ∀ b p (len c : Nat), a.eval ox = .slice (some ⟨b, p, none⟩) len c → 0 ≤ n → n < len →
      (execOp a.eval o).run P w = .ok (.value (.pointer (some ⟨b, p + n.toNat * sz, none⟩))) w := by
    intro b p len c he h0 h1
    simp [execOp, ho, he, hk, Instr.indexAt, asIntOf, run_underlying hT, h0, h1, sizeOf, typeInfo, hi, hsz, Addr.add_lit]
  split at hs
  · rename_i own rows heq
    rw [heq] at hr
    split at hs
    · rename_i hb
      simp only [Option.bind_eq_some_iff] at hs
      obtain ⟨row, hrow, hs⟩ := hs
      split at hs <;> simp only [Option.some.injEq, reduceCtorEq] at hs
      rename_i hlen
      subst hs
      have hrr := hr.rows
      generalize he : a.eval ox = v at hrr
      cases hrr with
      | lst hl hc hm hA hcell hrep =>
        rename_i A n' c b p sz' u
        have hA' := hA (by omega)
        subst hA'
        obtain ⟨e1, e2⟩ := hcell _ row hrow
        have hszz : sz' = sz := e1.symm.trans hlen
        subst hszz
        refine put_ok h hdst hd (run b p n' c he hb.1 (by omega)) ?_
        refine Rep.pim (u := u n.toNat) (fun j hj => e2 j (by omega)) (fun j d' hd' => hrep n.toNat row j d' hrow hd')
    · simp at hs
  · rename_i g off len heq
    rw [heq] at hr
    split at hs
    · rename_i hb
      simp only [Option.bind_eq_some_iff] at hs
      obtain ⟨rs, hrs, row, hrow, hs⟩ := hs
      split at hs <;> simp only [Option.some.injEq, reduceCtorEq] at hs
      rename_i hlen
      subst hs
      obtain ⟨hg, A, cap, he, h1, h2, hA⟩ := hr
      have hA' := hA (by omega)
      subst hA'
      obtain ⟨cur, e', _, _, hrep⟩ := h.inv.gobs g rs hrs
      have hszz : gh.sz g = sz := ((hrep _ row hrow).1.symm.trans hlen)
      refine put_ok h hdst hd (run _ _ len cap he hb.1 hb.2) ⟨hg, ?_⟩
      rw [hszz, Nat.add_mul, Nat.add_zero]
    · simp at hs
  · rename_i g off len heq
    rw [heq] at hr
    split at hs
    · rename_i hb
      simp only [Option.bind_eq_some_iff] at hs
      obtain ⟨rs, hrs, row, hrow, hs⟩ := hs
      split at hs <;> simp only [Option.some.injEq, reduceCtorEq] at hs
      rename_i hlen
      subst hs
      obtain ⟨A, cap, he, h1, h2, hA⟩ := hr
      have hA' := hA (by omega)
      subst hA'
      obtain ⟨cur, e', _, _, hrep⟩ := h.inv.lobs g rs hrs
      have hszz : gh.lsz g = sz := ((hrep _ row hrow).1.symm.trans hlen)
      refine put_ok h hdst hd (run _ _ len cap he hb.1 hb.2) ?_
      show _ = _
      rw [hszz, Nat.add_mul, Nat.add_zero]
    · simp at hs
  · simp at hs

/-- A cell of an object, as a value of its own. -/
theorem CRep.cell {ℓ : Option Own} {d : DV} {v : Value} (hc : cellC d = true) (h : CRep w gh ℓ d v) : SRep w gh none (AM.wk1 d) v ∧ CRep w gh none (AM.wk1 d) v ∧ v.oneCell' = true := by
  cases d with
  | lst o rows =>
    have hr : Rep w gh.S (.lst false rows) v := by cases o with
      | true => exact h.1
      | false => exact h
    refine ⟨hr, hr, ?_⟩
    cases hr; rfl
  | val x =>
    cases h
    refine ⟨Rep.val _, Rep.val _, ?_⟩
    simp only [cellC, pureC] at hc
    cases v <;> simp_all [Value.oneCell']
  | pim cs => cases h with
    | pim a b => exact ⟨Rep.pim a b, Rep.pim a b, rfl⟩
  | clo f caps => cases h with
    | clo a b => exact ⟨(Rep.clo a b).toS, Rep.clo a b, rfl⟩
  | ref g i c => exact ⟨h, h, by obtain ⟨_, rfl⟩ := h; rfl⟩
  | arr g i c => exact ⟨h, h, by obtain ⟨_, A, cap, rfl, _⟩ := h; rfl⟩
  | _ => simp [cellC, pureC] at hc

def tyAg : TypeDesc → Bool
  | .struct _ | .array .. => true
  | _ => false

theorem isAgg_run {T : TypeId} {d : TypeDesc} {ag : Bool} (hT : P.underlying T = some d) (hag : tyAg d = ag) : (isAgg T).run P w = .ok ag w := by
  subst hag
  cases d <;> simp [isAgg, run_underlying hT, tyAg]

/-- A load of cells that are there. -/
theorem run_loadVar' {T : TypeId} {ag : Bool} {n b p : Nat} {ti : TypeInfo} {dsc : TypeDesc} {f : Nat → Value} (hT : P.underlying T = some dsc) (hag : tyAg dsc = ag)
    (hi : P.info? T = some ti) (hsz : ti.size = n) (h1 : ag = true ∨ 1 ≤ n) (hc : ∀ j, j < n → w.cell? ⟨b, p + j, none⟩ = some (f j)) :
    (loadVar T ⟨b, p, none⟩).run P w = .ok (if ag then .agg ((List.range n).map f).toArray else f 0) w := by
  unfold loadVar
  simp only [Sem.run_bind, isAgg_run hT hag, Result.andThen_ok]
  cases ag with
  | true =>
    have hl := run_loadCells (P := P) w ⟨b, p, none⟩ n f (fun j hj => by rw [Addr.add_lit]; exact hc j hj)
    simp [sizeOf, typeInfo, hi, hsz, hl]
  | false =>
    have h0 := hc 0 (by rcases h1 with h1 | h1; · simp at h1
                        · omega)
    simp only [Nat.add_zero] at h0
    simp [load, Sem.run, h0]

theorem mkV_rep {ag : Bool} {n : Nat} {cs : List DV} {f : Nat → Value} {dv : DV} (hl : cs.length = n) (hm : mkV ag cs = some dv)
    (hc : ∀ (j : Nat) d, cs[j]? = some d → noL d = true ∧ CRep w gh none d (f j) ∧ SRep w gh none d (f j)) :
    SRep w gh none dv (if ag then .agg ((List.range n).map f).toArray else f 0) ∧ (ag = true ∨ 1 ≤ n) := by
  unfold mkV at hm
  cases ag with
  | true =>
    simp only [if_true, Option.some.injEq] at hm
    subst hm
    refine ⟨⟨_, rfl, by simp [hl], fun j c u hcj hu => ?_⟩, .inl rfl⟩
    have hj : j < n := by rw [← hl]; exact (List.getElem?_eq_some_iff.1 hcj).1
    simp [hj] at hu
    subst hu
    exact ⟨(hc j c hcj).1, (hc j c hcj).2.1⟩
  | false =>
    simp only [Bool.false_eq_true, if_false] at hm ⊢
    split at hm <;> simp only [Option.some.injEq, reduceCtorEq] at hm
    subst hm
    exact ⟨(hc 0 _ rfl).2.2, .inr (by simp at hl; omega)⟩

/-- Where a pointer points: the object, its key. -/
theorem look_obj {dv : DV} {v : Value} {ℓ : Option Own} {rows : Rows} {i c : Nat} (hr : SRep w gh ℓ dv v) (hl : look s dv = some (rows, i, c)) :
    ∃ q g, orows s q g = some rows ∧ v = .pointer (some ⟨oblk gh q g, i * osz gh q g + c, none⟩) ∧ (∀ rows', setOb s dv rows' = oset s q g rows') ∧ (q = true → g < gh.nx) := by
  cases dv <;> simp only [look, reduceCtorEq, Option.map_eq_some_iff, Prod.mk.injEq] at hl
  · obtain ⟨r, hr', rfl, rfl, rfl⟩ := hl
    exact ⟨true, _, hr', hr.2, fun _ => rfl, fun _ => hr.1⟩
  · obtain ⟨r, hr', rfl, rfl, rfl⟩ := hl
    exact ⟨false, _, hr', hr, fun _ => rfl, by simp⟩

/-- The cells of an object's row. -/
theorem obj_cells (h : Inv w0 gh0 Wr s gh (tm a) w) {q : Bool} {g i : Nat} {rows : Rows} {row : List DV} (hr : orows s q g = some rows) (hrow : rows[i]? = some row) :
    row.length = osz gh q g ∧ ∀ (c : Nat) d, row[c]? = some d → cellC d = true ∧ ∃ u, w.cell? ⟨oblk gh q g, i * osz gh q g + c, none⟩ = some u ∧ u.oneCell' = true ∧ CRep w gh (some (ohome q g i c)) d u := by
  obtain ⟨cur, e, h1, h2, h3⟩ := h.obj hr
  refine ⟨(h3 i row hrow).1, fun c d hc => ?_⟩
  obtain ⟨k0, u, k1, k2, k3⟩ := (h3 i row hrow).2 c d hc
  exact ⟨k0, u, by rw [cell_of_row w _ _ cur e (0, 0) h1]; exact k1, k2, k3⟩

theorem loadD_rep {dv : DV} {v : Value} {ℓ : Option Own} {n : Nat} {ag : Bool} {r : DV} (h : Inv w0 gh0 Wr s gh (tm a) w) (hr : SRep w gh ℓ dv v) (hs : loadD s n ag dv = some r) :
    ∃ b p f, v = .pointer (some ⟨b, p, none⟩) ∧ (∀ j, j < n → w.cell? ⟨b, p + j, none⟩ = some (f j)) ∧ (ag = true ∨ 1 ≤ n) ∧
      SRep w gh none r (if ag then .agg ((List.range n).map f).toArray else f 0) := by
  have obj : ∀ (y : Rows × Nat × Nat) (row : List DV), look s dv = some y → y.1[y.2.1]? = some row → y.2.2 + n ≤ row.length → mkV ag (((row.drop y.2.2).take n).map wk1) = some r →
      ∃ b p f, v = .pointer (some ⟨b, p, none⟩) ∧ (∀ j, j < n → w.cell? ⟨b, p + j, none⟩ = some (f j)) ∧ (ag = true ∨ 1 ≤ n) ∧
        SRep w gh none r (if ag then .agg ((List.range n).map f).toArray else f 0) := by
    rintro ⟨rows, i, c⟩ row hl hrow hle hmk
    obtain ⟨q, g, hro, rfl, _⟩ := look_obj hr hl
    obtain ⟨hlen, hcells⟩ := obj_cells h hro hrow
    simp only at hle hmk hrow
    have hd : ∀ j, j < n → ∃ d, row[c + j]? = some d := fun j hj => ⟨row[c + j]'(by omega), by simp⟩
    have hu : ∀ j, ∃ u, j < n → ∃ d, row[c + j]? = some d ∧ cellC d = true ∧ w.cell? ⟨oblk gh q g, i * osz gh q g + (c + j), none⟩ = some u ∧ CRep w gh (some (ohome q g i (c + j))) d u := by
      intro j
      by_cases hj : j < n
      · obtain ⟨d, hd⟩ := hd j hj
        obtain ⟨k0, u, k1, _, k3⟩ := hcells (c + j) d hd
        exact ⟨u, fun _ => ⟨d, hd, k0, k1, k3⟩⟩
      · exact ⟨undef, fun hj' => absurd hj' hj⟩
    have ⟨f, hf⟩ := Classical.axiomOfChoice hu
    have hmv := mkV_rep (w := w) (gh := gh) (f := f) (n := n) (by simp; omega) hmk (fun j d hjd => ?_)
    · refine ⟨_, _, f, rfl, fun j hj => ?_, hmv.2, hmv.1⟩
      obtain ⟨d, _, _, hcell, _⟩ := hf j hj
      rw [Nat.add_assoc]; exact hcell
    · simp only [List.getElem?_map, Option.map_eq_some_iff, List.getElem?_take] at hjd
      obtain ⟨d0, hd0, rfl⟩ := hjd
      split at hd0
      · rename_i hj
        rw [List.getElem?_drop] at hd0
        obtain ⟨d1, hd1, hc1, _, hrep⟩ := hf j hj
        have : d1 = d0 := by rw [hd1] at hd0; exact Option.some.inj hd0
        subst this
        obtain ⟨x1, x2, x3⟩ := hrep.cell hc1
        exact ⟨noL_wk1 (cellC_noL hc1), x2, x1⟩
      · simp at hd0
  cases dv with
  | pim cs =>
    simp only [loadD] at hs
    split at hs
    · rename_i hle'
      have hle : n ≤ cs.length := by simp only [Bool.and_eq_true, decide_eq_true_eq] at hle'; exact hle'.1
      cases hr with
      | pim hcell hrep =>
        rename_i b p u
        have hmv := mkV_rep (w := w) (gh := gh) (f := u) (n := n) (by simp; omega) hs (fun j d hjd => ?_)
        · exact ⟨b, p, u, rfl, fun j hj => (hcell j (by omega)).1, hmv.2, hmv.1⟩
        · rw [List.getElem?_take] at hjd
          split at hjd
          · exact ⟨(hrep j d hjd).toC.1, (hrep j d hjd).toC.2, (hrep j d hjd).toS⟩
          · simp at hjd
    · simp at hs
  | _ =>
    simp only [loadD, Option.bind_eq_some_iff] at hs
    obtain ⟨y, hy, row, hrow, hs⟩ := hs
    split at hs
    · rename_i hle'
      simp only [Bool.and_eq_true, decide_eq_true_eq] at hle'
      exact obj y row hy hrow hle'.1 hs
    · simp at hs

theorem ok_ld {d n : Nat} {T : TypeId} {ag : Bool} {x : Opd} {ox : Operand} {δ : De} {ti : TypeInfo} {dsc : TypeDesc} (h : AI w0 gh0 Wr N s gh a w) (hdst : o.dst = some d) (hd : d < N)
    (ho : o.op = .load T ox) (hT : P.underlying T = some dsc) (hag : tyAg dsc = ag) (hi : P.info? T = some ti) (hsz : ti.size = n)
    (hx : OpdM ox x) (hs : stepD P call s (.ld d T n ag x false) = some δ) :
    o.wp P a w (fun a' w' => Mod w0 gh0 Wr N (s.ap (some d) δ) a' w') Q := by
  obtain ⟨ℓ, hr⟩ := h.getO hx
  simp only [stepD, Bool.false_eq_true, if_false, Option.map_eq_some_iff] at hs
  obtain ⟨r, hl, rfl⟩ := hs
  obtain ⟨b, p, f, he, hcell, h1, hrep⟩ := loadD_rep h.inv hr hl
  refine put_ok h hdst hd ?_ hrep
  have := run_loadVar' hT hag hi hsz h1 hcell
  simp [execOp, ho, Instr.loadAt, Instr.sureAddr, he, this]

end Go.AM
