/- Slices of strings and of slices. -/
import Derived.Test.YtnglcmfgkcdgcaaGreatAmA12
namespace Go.AM
open Go
set_option linter.unusedVariables false
set_option linter.unusedSimpArgs false

variable {w0 w w' : World} {Wr : Nat → Prop} {s s' : St} {gh gh' gh0 : Gh} {P : Program} {call : Call} {t t' : Nat → Value}
variable {N : Nat} {a : Act} {Q : Exit → Act → World → Prop} {o : Oper}

def OptM : Option Operand → Option Opd → Prop
  | none, none => True
  | some x, some y => OpdM x y
  | _, _ => False

theorem natOfD_rep {x : Opd} {ox : Operand} {n : Nat} (h : AI w0 gh0 Wr N s gh a w) (hx : OpdM ox x) (hn : natOfD (getO s.fr x) = some n) : ∃ k, a.eval ox = .int k (n : Int) := by
  unfold natOfD at hn
  split at hn <;> simp only [Option.ite_none_right_eq_some, Option.some.injEq, reduceCtorEq] at hn
  rename_i k i heq
  obtain ⟨h0, rfl⟩ := hn
  obtain ⟨k', hk'⟩ := intOfD_rep (n := i) h hx (by rw [heq]; rfl)
  exact ⟨k', by rw [hk']; congr 1; omega⟩

theorem run_sliceBound {k : IntKind} {n y : Nat} {code : BoundsCode} (h : n ≤ y) : (Instr.sliceBound (.int k n) y code).run P w = .ok n w := by
  simp [Instr.sliceBound, asIntOf, h]

def mxIs (fr : Nat → DV) (cap : Nat) (mx : Option Opd) (m : Nat) : Prop :=
  match mx with
  | none => m = cap
  | some x => natOfD (getO fr x) = some m

/-- The bounds of a slice expression. -/
theorem run_sliceBounds {isS : Bool} {len cap l hh m : Nat} {lo hi mx : Option Opd} {olo ohi omx : Option Operand} (h : AI w0 gh0 Wr N s gh a w) (hlo : OptM olo lo) (hhi : OptM ohi hi) (hmx : OptM omx mx)
    (el : optN s.fr 0 lo = some l) (eh : optN s.fr len hi = some hh) (em : mxIs s.fr cap mx m) (hsome : mx.isSome = true → hi.isSome = true)
    (h1 : l ≤ hh) (h2 : hh ≤ m) (h3 : m ≤ cap) : (Instr.sliceBounds isS len cap (olo.map a.eval) (ohi.map a.eval) (omx.map a.eval)).run P w = .ok (l, hh, m) w := by
  have hm : ∃ km, (omx.map a.eval = none ∧ mx = none ∧ m = cap) ∨ (omx.map a.eval = some (.int km (m : Int)) ∧ mx.isSome = true) := by
    cases omx <;> cases mx <;> simp only [OptM] at hmx
    · exact ⟨.i64, .inl ⟨rfl, rfl, em⟩⟩
    · obtain ⟨k, hk⟩ := natOfD_rep h hmx em
      exact ⟨k, .inr ⟨by simp [hk], rfl⟩⟩
  have hh' : ∃ kh, (ohi.map a.eval = none ∧ hi = none ∧ hh = len) ∨ (ohi.map a.eval = some (.int kh (hh : Int)) ∧ hi.isSome = true) := by
    cases ohi <;> cases hi <;> simp only [OptM] at hhi
    · simp only [optN, Option.some.injEq] at eh; exact ⟨.i64, .inl ⟨rfl, rfl, eh.symm⟩⟩
    · simp only [optN] at eh
      obtain ⟨k, hk⟩ := natOfD_rep h hhi eh
      exact ⟨k, .inr ⟨by simp [hk], rfl⟩⟩
  have hl' : ∃ kl, (olo.map a.eval = none ∧ l = 0) ∨ (olo.map a.eval = some (.int kl (l : Int))) := by
    cases olo <;> cases lo <;> simp only [OptM] at hlo
    · simp only [optN, Option.some.injEq] at el; exact ⟨.i64, .inl ⟨rfl, el.symm⟩⟩
    · simp only [optN] at el
      obtain ⟨k, hk⟩ := natOfD_rep h hlo el
      exact ⟨k, .inr (by simp [hk])⟩
  obtain ⟨km, hm⟩ := hm
  obtain ⟨kh, hh'⟩ := hh'
  obtain ⟨kl, hl'⟩ := hl'
  rcases hm with ⟨m1, m2, m3⟩ | ⟨m1, m2⟩ <;> rcases hh' with ⟨h1', h2', h3'⟩ | ⟨h1', h2'⟩ <;> rcases hl' with ⟨l1, l2⟩ | l1
  all_goals first
    | (exfalso; have := hsome m2; simp [h2'] at this; done)
    | (rw [m1, h1', l1]; simp [Instr.sliceBounds, run_sliceBound, *]; done)
    | (rw [m1, h1', l1]; simp [Instr.sliceBounds, run_sliceBound, *])
  all_goals (try subst m3) <;> (try subst h3') <;> simp [run_sliceBound, *]

theorem ok_slc {d sz : Nat} {T : TypeId} {str : Bool} {x : Opd} {ox : Operand} {lo hi mx : Option Opd} {olo ohi omx : Option Operand} {δ : De} (h : AI w0 gh0 Wr N s gh a w) (hdst : o.dst = some d) (hd : d < N)
    (ho : o.op = .slice T ox olo ohi omx) (hT : if str then P.underlying T = some .string else ∃ e ti, P.underlying T = some (.slice e) ∧ P.info? e = some ti ∧ ti.size = sz)
    (hx : OpdM ox x) (hlo : OptM olo lo) (hhi : OptM ohi hi) (hmx : OptM omx mx) (hsome : mx.isSome = true → hi.isSome = true) (hs : stepD P call s (.slc d T str sz x lo hi mx) = some δ) :
    o.wp P a w (fun a' w' => Mod w0 gh0 Wr N (s.ap (some d) δ) a' w') Q := by
  have hv := h.getW hx
  simp only [stepD] at hs
  cases str with
  | true =>
    simp only [if_true] at hs hT
    split at hs
    case h_2 => simp at hs
    rename_i b heq
    simp only [Option.bind_eq_some_iff, Option.ite_none_right_eq_some, Option.some.injEq] at hs
    obtain ⟨l, el, hh, eh, ⟨h1, h2, h3⟩, rfl⟩ := hs
    rw [heq] at hv
    generalize he : a.eval ox = v at hv
    cases hv
    have hm0 : mx = none := by cases mx <;> simp_all
    subst hm0
    have hb := run_sliceBounds (P := P) (w := w) (isS := false) (m := b.size) h hlo hhi hmx el eh rfl (by simp) h1 h2 (Nat.le_refl _)
    cases omx <;> simp only [OptM] at hmx
    refine put_ok (v := .string (b.extract l hh)) h hdst hd ?_ (Rep.val _)
    simp only [execOp, ho, he]
    refine run_execOp_value ?_
    simp only [Option.map_none] at hb ⊢
    simp [Instr.sliceAt, Instr.slice, run_underlying hT, hb]
  | false =>
    simp only [Bool.false_eq_true, if_false, Option.bind_eq_some_iff] at hs hT
    obtain ⟨e, ti, hT, hi', hsz⟩ := hT
    obtain ⟨r, hr, l, el, hh, eh, hs⟩ := hs
    simp only [Option.ite_none_left_eq_some, Bool.not_eq_true', Bool.not_eq_false] at hs
    obtain ⟨hall, hs⟩ := hs
    have hall' : ∀ row ∈ r, row.length = sz := fun row hrow => by simpa using List.all_eq_true.1 hall row hrow
    obtain ⟨A, c, he, hc, hcm⟩ := rowsOf_slice hv hr
    -- the machine's side
    have run : ∀ m, mxIs s.fr c mx m → l ≤ hh → hh ≤ m → m ≤ c →
        (execOp a.eval o).run P w = .ok (.value (.slice (if m = l then A else A.map (·.add (l * sz))) (hh - l) (m - l))) w := by
      intro m em h1 h2 h3
      have hb := run_sliceBounds (P := P) (w := w) (isS := true) (m := m) h hlo hhi hmx el eh em hsome h1 h2 h3
      simp only [execOp, ho, he]
      refine run_execOp_value ?_
      simp [Instr.sliceAt, Instr.slice, run_underlying hT, hb, sizeOf, typeInfo, hi', hsz]
    have mk : ∀ (mo : Option Nat) m dv, mxIs s.fr c mx m → (mo = none ∧ m = c ∨ mo = some m) → sliceRows (getW s.fr x) l hh mo = some dv →
        δ = .put dv none → o.wp P a w (fun a' w' => Mod w0 gh0 Wr N (s.ap (some d) δ) a' w') Q := by
      intro mo m dv em hmo hsl hδ
      subst hδ
      generalize hg : getW s.fr x = dx at *
      cases dx with
      | lst b rows =>
        simp only [rowsOf, Option.some.injEq] at hr
        subst hr
        simp only [sliceRows, Option.ite_none_right_eq_some, Option.some.injEq] at hsl
        obtain ⟨⟨h1, h2, h3⟩, rfl⟩ := hsl
        have hm : hh ≤ m ∧ m ≤ c := by
          rcases hmo with ⟨rfl, rfl⟩ | rfl
          · exact ⟨by omega, Nat.le_refl _⟩
          · have := h3 m rfl; exact ⟨this.1, by omega⟩
        refine put_ok h hdst hd (run m em h1 hm.1 hm.2) ?_
        by_cases hml : mo = some l
        · rw [if_pos hml]
          have : m = l := by
            rcases hmo with ⟨h0, _⟩ | h0
            · rw [h0] at hml; simp at hml
            · rw [h0] at hml; simpa using hml
          subst this
          have : hh = m := by omega
          subst this
          simp only [Nat.sub_self]
          exact (Rep.nil _).toS
        · rw [if_neg hml]
          have hrr := hv.rows
          rw [he] at hrr
          cases hrr with
          | lst hn hc' hm' hA hcell hrep =>
            rename_i b' o' sz' u
            refine Rep.lst (b := b') (o := o' + l * sz') (sz := sz') (u := fun i j => u (i + l) j) (by simp; omega) (by omega) (by omega) (fun hne => ?_) (fun i row hrow => ?_) (fun i row j d' hrow hd' => ?_)
            · have hne0 : rows.length ≠ 0 := by omega
              have hA' := hA hne0
              have hml' : m ≠ l := by omega
              rw [if_neg hml', hA']
              have hz : sz' = sz := by
                have h0 : 0 < rows.length := by omega
                exact ((hcell 0 rows[0] (by simp)).1).symm.trans (hall' _ (List.getElem_mem h0))
              simp [Addr.add_lit, hz]
            · rw [List.getElem?_drop, List.getElem?_take] at hrow
              split at hrow
              · obtain ⟨e1, e2⟩ := hcell (l + i) row hrow
                refine ⟨e1, fun j hj => ?_⟩
                have := e2 j hj
                rw [show o' + l * sz' + i * sz' + j = o' + (l + i) * sz' + j by rw [Nat.add_mul]; omega, Nat.add_comm i l]
                exact this
              · simp at hrow
            · rw [List.getElem?_drop, List.getElem?_take] at hrow
              split at hrow
              · have := hrep (l + i) row j d' hrow hd'
                rwa [Nat.add_comm l i] at this
              · simp at hrow
      | arr g off len =>
        simp only [sliceRows, Option.ite_none_right_eq_some, Option.some.injEq] at hsl
        obtain ⟨⟨h1, h2, h3⟩, rfl⟩ := hsl
        subst h3
        have hm : m = c := by rcases hmo with ⟨_, h0⟩ | h0; exact h0; simp at h0
        subst hm
        obtain ⟨hgn, A', cap', he', hc1, hc2, hA⟩ := hv
        rw [he] at he'
        simp only [Value.slice.injEq] at he'
        obtain ⟨rfl, hlen, rfl⟩ := he'
        refine put_ok h hdst hd (run m em h1 (by omega) (Nat.le_refl _)) ⟨hgn, _, _, rfl, by omega, by omega, fun hne => ?_⟩
        have hml' : m ≠ l := by omega
        rw [if_neg hml', hA (by omega)]
        simp only [rowsOf, Option.bind_eq_some_iff, Option.ite_none_right_eq_some, Option.some.injEq] at hr
        obtain ⟨rs, hrs, hle, rfl⟩ := hr
        have hz : gh.sz g = sz := by
          obtain ⟨cur, e', _, _, hcells⟩ := h.inv.gobs g rs hrs
          have h0 : off < rs.length := by omega
          have hrow : rs[off]? = some rs[off] := by simp
          have hmem : rs[off] ∈ (rs.drop off).take len := by
            refine List.mem_of_getElem? (i := 0) ?_
            rw [List.getElem?_take, if_pos (by omega), List.getElem?_drop]; simp
          exact ((hcells off _ hrow).1).symm.trans (hall' _ hmem)
        simp [Addr.add_lit, hz, Nat.add_mul]
      | larr g off len =>
        simp only [sliceRows, Option.ite_none_right_eq_some, Option.some.injEq] at hsl
        obtain ⟨⟨h1, h2, h3⟩, rfl⟩ := hsl
        subst h3
        have hm : m = c := by rcases hmo with ⟨_, h0⟩ | h0; exact h0; simp at h0
        subst hm
        obtain ⟨A', cap', he', hc1, hc2, hA⟩ := hv
        rw [he] at he'
        simp only [Value.slice.injEq] at he'
        obtain ⟨rfl, hlen, rfl⟩ := he'
        refine put_ok h hdst hd (run m em h1 (by omega) (Nat.le_refl _)) ⟨_, _, rfl, by omega, by omega, fun hne => ?_⟩
        have hml' : m ≠ l := by omega
        rw [if_neg hml', hA (by omega)]
        simp only [rowsOf, Option.bind_eq_some_iff, Option.ite_none_right_eq_some, Option.some.injEq] at hr
        obtain ⟨rs, hrs, hle, rfl⟩ := hr
        have hz : gh.lsz g = sz := by
          obtain ⟨cur, e', _, _, hcells⟩ := h.inv.lobs g rs hrs
          have h0 : off < rs.length := by omega
          have hrow : rs[off]? = some rs[off] := by simp
          have hmem : rs[off] ∈ (rs.drop off).take len := by
            refine List.mem_of_getElem? (i := 0) ?_
            rw [List.getElem?_take, if_pos (by omega), List.getElem?_drop]; simp
          exact ((hcells off _ hrow).1).symm.trans (hall' _ hmem)
        simp [Addr.add_lit, hz, Nat.add_mul]
      | _ => simp [sliceRows] at hsl
    cases hmxe : mx with
    | none =>
      subst hmxe
      simp only [Option.map_eq_some_iff] at hs
      obtain ⟨dv, hsl, rfl⟩ := hs
      exact mk none c dv rfl (.inl ⟨rfl, rfl⟩) hsl rfl
    | some m0 =>
      subst hmxe
      simp only [Option.bind_eq_some_iff, Option.map_eq_some_iff] at hs
      obtain ⟨m, em, dv, hsl, rfl⟩ := hs
      exact mk (some m) m dv em (.inr rfl) hsl rfl

end Go.AM
