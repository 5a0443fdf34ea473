/- Calls that share objects; the operations of a call. -/
import Derived.Test.YtnglcmfgkcdgcaaGreatAmA15
namespace Go.AM
open Go
set_option linter.unusedVariables false
set_option linter.unusedSimpArgs false

variable {w0 w w' : World} {Wr : Nat → Prop} {s s' : St} {gh gh' gh0 : Gh} {P : Program} {call : Call} {t t' : Nat → Value}
variable {N : Nat} {a : Act} {Q : Exit → Act → World → Prop} {o : Oper}

/-- A key of what is shared. -/
def gkey : Key → Prop
  | .go _ => True
  | .own (.ge ..) => True
  | _ => False

theorem noLocA_lnames {d : DV} (h : noLocA d = true) : lnames d = false := by
  cases d with
  | clo f caps =>
    simp only [noLocA, List.all_eq_true] at h
    simp only [lnames, List.any_eq_false]
    intro x hx
    have := h x hx
    cases x <;> simp_all [noLocA1]
  | _ => simp_all [noLocA, lnames]

theorem resNoLoc_lnames {d : DV} (h : resNoLoc d = true) : lnames d = false := by
  cases d with
  | clo f caps =>
    simp only [resNoLoc, List.all_eq_true] at h
    simp only [lnames, List.any_eq_false]
    intro x hx
    have := h x hx
    cases x <;> simp_all [resNoLoc1]
  | _ => simp_all [resNoLoc, lnames]

theorem ok_callO {d : Option Nat} {f : FuncId} {ds : List DV} {vs : Array Value} {δ : De} (h : AI w0 gh0 Wr N s gh a w) (hdst : o.dst = d) (hd : ∀ x, d = some x → x < N)
    (hrun : (execOp a.eval o).run P w = .ok (.enter f vs) w) (hargs : ArgsR w gh ds vs) (hC : CallOK P call) (hs : doCall call s f ds true = some δ) :
    o.wp P a w (fun a' w' => Mod w0 gh0 Wr N (s.ap d δ) a' w') Q := by
  simp only [doCall, if_true, Option.ite_none_right_eq_some, Option.bind_eq_some_iff] at hs
  obtain ⟨hall, ⟨r, gl'⟩, hcall, hres, hs⟩ := hs
  simp only [Option.some.injEq] at hs
  subst hs
  have hn : ∀ dd ∈ ds, noLocA dd = true := fun dd hdd => List.all_eq_true.1 hall dd hdd
  let hbc : Own → Option Nat := fun ℓ => match ℓ with | .ge g i c => gh.hb (.ge g i c) | _ => none
  let Wc : Nat → Prop := fun b => w.heap.size ≤ b ∨ ∃ k, gkey k ∧ Uses s gh k b
  have back : ∀ k b, Uses (entryS ds s.gl) { gh with hb := hbc } k b → gkey k ∧ Uses s gh k b := by
    intro k b hu
    match k, hu with
    | .own (.sl j), hu => exact absurd hu.2 (by simp [hbc])
    | .own (.ge g i c), hu => exact ⟨trivial, hu⟩
    | .own (.le g i c), hu => exact absurd hu.2 (by simp [hbc])
    | .go g, hu => exact ⟨trivial, hu⟩
    | .lo l, hu => have := hu.1; simp [entryS] at this
  have hWr : ∀ b, Wc b → Wr b := by
    rintro b (hb | ⟨k, _, hu⟩)
    · exact h.inv.wrNew b (Nat.le_trans h.inv.size hb)
    · exact (h.inv.uses k b hu).1
  have hentry : Inv w { gh with hb := hbc } Wc (entryS ds s.gl) { gh with hb := hbc } (fun i => vs.getD i undef) w := by
    refine { os := rfl, tape := rfl, output := rfl, size := Nat.le_refl _, frame := fun _ _ _ => rfl, wrNew := fun _ h => .inl h, s0 := fun _ _ _ => rfl, keep0 := Keeps.refl _ _, m0 := ⟨Nat.le_refl _, fun _ _ => ⟨rfl, rfl⟩⟩, marks := h.inv.marks, slots := fun i => ?_, gobs := fun g rows hg => ?_, lobs := fun l rows hl => by simp [entryS] at hl, zero := fun k b hu hk => ?_, uses := fun k b hu => ?_, one := fun k k' b hu hu' => ?_, nx := h.inv.nx }
    · exact ((hargs.slots i).rehb hbc (fun x hx => by simp at hx)).home
    · exact (h.inv.gobs g rows hg).keep (gh := gh) (Keeps.refl _ _) (fun _ hg => ⟨hg, rfl, rfl⟩) rfl (fun i c r row v _ _ hown => hown)
    · exact h.inv.zero k b (back k b hu).2 hk
    · exact ⟨.inr ⟨k, back k b hu⟩, (h.inv.uses k b (back k b hu).2).2⟩
    · exact h.inv.one k k' b (back k b hu).2 (back k' b hu').2
  have hgood := (hC f ds s.gl r gl' hcall).2 w _ _ vs hargs.1 hentry
  refine wp_enter hrun (hgood.mono fun e w' hh => ?_)
  obtain ⟨v, gh', rfl, hI⟩ := hh
  refine ⟨v, rfl, ?_⟩
  -- what is not shared is as it was
  have hnw : ∀ k b, ¬ gkey k → Uses s gh k b → b < w.heap.size ∧ ¬ Wc b := by
    intro k b hk hu
    have hlt := (h.inv.uses k b hu).2
    refine ⟨hlt, ?_⟩
    rintro (hb | ⟨k', hk', hu'⟩)
    · omega
    · rw [h.inv.one k k' b hu hu'] at hk; exact hk hk'
  have hsame : ∀ k b, ¬ gkey k → Uses s gh k b → w'.heap[b]? = w.heap[b]? ∧ gh'.S b = gh.S b := fun k b hk hu =>
    ⟨hI.frame b (hnw k b hk hu).1 (hnw k b hk hu).2, hI.s0 b (hnw k b hk hu).1 (hnw k b hk hu).2⟩
  have hkeep : Keeps w gh.S w' gh'.S := hI.keep0
  have hm : ∀ g, g < gh.nx → g < gh'.nx ∧ gh'.mu g = gh.mu g ∧ gh'.sz g = gh.sz g := fun g hg => ⟨Nat.lt_of_lt_of_le hg hI.m0.1, hI.m0.2 g hg⟩
  let dd : Nat → Bool := fun i => d.any (fun x => x == i)
  let hbn : Own → Option Nat := fun ℓ => match ℓ with
    | .sl i => if dd i then gh'.hb (.sl 0) else gh.hb (.sl i)
    | .ge g i c => gh'.hb (.ge g i c)
    | .le l i c => gh.hb (.le l i c)
  let ghn : Gh := { S := gh'.S, mu := gh'.mu, sz := gh'.sz, lmu := gh.lmu, lsz := gh.lsz, hb := hbn, nx := gh'.nx }
  have hfr : ∀ i, dd i = false → putO s.fr d r i = s.fr i := by
    intro i hi
    cases hdv : d with
    | none => rfl
    | some x =>
      simp only [putO]
      refine upd_ne _ _ (fun e => ?_)
      subst e
      simp [dd, hdv] at hi
  have hfrd : ∀ i, dd i = true → d = some i ∧ putO s.fr d r i = r := by
    intro i hi
    cases hdv : d with
    | none => simp [dd, hdv] at hi
    | some x =>
      have : x = i := by simpa [dd, hdv] using hi
      subst this
      exact ⟨rfl, by simp [putO]⟩
  -- who uses what, anew
  have key : ∀ k b, Uses { s with fr := putO s.fr d r, gl := gl' } ghn k b →
      (¬ gkey k ∧ (∀ i, k = .own (.sl i) → dd i = false) ∧ Uses s gh k b) ∨ (∃ i, k = .own (.sl i) ∧ dd i = true ∧ Uses (exitS r gl') gh' (.own (.sl 0)) b) ∨ (gkey k ∧ Uses (exitS r gl') gh' k b) := by
    intro k b hu
    match k, hu with
    | .own (.sl i), ⟨⟨rows, hr⟩, hb⟩ =>
      cases hdi : dd i with
      | true =>
        refine .inr (.inl ⟨i, rfl, hdi, ⟨rows, ?_⟩, ?_⟩)
        · simp only [(hfrd i hdi).2] at hr
          simpa [exitS] using hr
        · simpa [ghn, hbn, hdi] using hb
      | false =>
        refine .inl ⟨by simp [gkey], fun j hj => by cases hj; exact hdi, ⟨rows, ?_⟩, ?_⟩
        · simpa only [hfr i hdi] using hr
        · simpa [ghn, hbn, hdi] using hb
    | .own (.ge g i c), hu => exact .inr (.inr ⟨trivial, hu⟩)
    | .own (.le l i c), hu => exact .inl ⟨by simp [gkey], fun j hj => by simp at hj, hu⟩
    | .go g, hu => exact .inr (.inr ⟨trivial, hu⟩)
    | .lo l, hu => exact .inl ⟨by simp [gkey], fun j hj => by simp at hj, hu⟩
  have hcallee : ∀ k b, Uses (exitS r gl') gh' k b → Wc b ∧ b < w'.heap.size := hI.uses
  refine ⟨ghn, ?_, by simpa using h.size, by simpa using h.defers⟩
  have hap : s.ap d (.opn r gl') = { s with fr := putO s.fr d r, gl := gl' } := rfl
  rw [hap, hdst]
  have htm : ∀ i, tm (a.put d v) i = if dd i then v else tm a i := by
    intro i
    rw [tm_putO a v (by rw [h.size]; exact hd)]
    cases hdv : d with
    | none => simp [dd, hdv, putT]
    | some x =>
      simp only [dd, hdv, Option.any_some, beq_iff_eq, putT, upd]
      by_cases e : i = x
      · subst e; simp
      · rw [if_neg e, if_neg (Ne.symm e)]
  refine { os := hI.os.trans h.inv.os, tape := hI.tape.trans h.inv.tape, output := hI.output.trans h.inv.output, size := Nat.le_trans h.inv.size hI.size, frame := fun b hb hW => ?_, wrNew := h.inv.wrNew, s0 := fun b hb hW => ?_, keep0 := h.inv.keep0.trans hkeep, m0 := ⟨Nat.le_trans h.inv.m0.1 hI.m0.1, fun g hg => ?_⟩, marks := hI.marks, slots := fun i => ?_, gobs := fun g rows hg => ?_, lobs := fun l rows hl => ?_, zero := fun k b hu hk => ?_, uses := fun k b hu => ?_, one := fun k k' b hu hu' => ?_, nx := hI.nx }
  · rw [hI.frame b (Nat.lt_of_lt_of_le hb h.inv.size) (fun hc => hW (hWr b hc))]
    exact h.inv.frame b hb hW
  · show gh'.S b = _
    rw [hI.s0 b (Nat.lt_of_lt_of_le hb h.inv.size) (fun hc => hW (hWr b hc))]
    exact h.inv.s0 b hb hW
  · have h1 := hm g (Nat.lt_of_lt_of_le hg h.inv.m0.1)
    exact ⟨h1.2.1.trans (h.inv.m0.2 g hg).1, h1.2.2.trans (h.inv.m0.2 g hg).2⟩
  · show SRep w' ghn (some (.sl i)) (putO s.fr d r i) (tm (a.put d v) i)
    rw [htm i]
    cases hdi : dd i with
    | true =>
      rw [(hfrd i hdi).2]
      simp only [if_true]
      have h0 := hI.slots 0
      simp only [exitS, upd_same] at h0
      refine h0.keep (gh := gh') (ℓ := some (.sl 0)) (ℓ' := some (.sl i)) (Keeps.refl _ _) (.inr fun _ hg => ⟨hg, rfl, rfl⟩) (.inl (resNoLoc_lnames hres)) (fun rows _ hown => ?_)
      show OwnR w' gh'.S (hbn (.sl i)) rows v
      simp only [hbn, hdi, if_true]
      exact hown
    | false =>
      rw [hfr i hdi]
      simp only [Bool.false_eq_true, if_false]
      refine (h.inv.slots i).keep (gh := gh) (ℓ := some (.sl i)) (ℓ' := some (.sl i)) hkeep (.inr hm) (.inr fun _ => ⟨rfl, rfl⟩) (fun rows hrw hown => ?_)
      show OwnR w' gh'.S (hbn (.sl i)) rows (tm a i)
      simp only [hbn, hdi, Bool.false_eq_true, if_false]
      exact hown.keep fun b hb _ => hsame (.own (.sl i)) b (by simp [gkey]) ⟨⟨rows, hrw⟩, hb⟩
  · exact (hI.gobs g rows hg).keep (gh := gh') (Keeps.refl _ _) (fun _ hg => ⟨hg, rfl, rfl⟩) rfl (fun i c r row v _ _ hown => hown)
  · have hul : Uses s gh (.lo l) (gh.lmu l) := ⟨by simp only at hl; simp [hl], rfl⟩
    refine (h.inv.lobs l rows hl).keep (gh := gh) hkeep hm (hsame (.lo l) _ (by simp [gkey]) hul).1 (fun i c r row v h1 h2 hown => ?_)
    exact hown.keep fun b hb _ => hsame (.own (.le l i c)) b (by simp [gkey]) ⟨⟨rows, row, r, hl, h1, h2⟩, hb⟩
  · rcases key k b hu with ⟨hk', _, hu'⟩ | ⟨i, rfl, _, _⟩ | ⟨hk', hu'⟩
    · rw [show ghn.S b = gh.S b from (hsame k b hk' hu').2]; exact h.inv.zero k b hu' hk
    · exact absurd rfl (hk _)
    · exact hI.zero k b hu' hk
  · rcases key k b hu with ⟨hk', _, hu'⟩ | ⟨i, rfl, _, hu'⟩ | ⟨hk', hu'⟩
    · exact ⟨(h.inv.uses k b hu').1, Nat.lt_of_lt_of_le (h.inv.uses k b hu').2 hI.size⟩
    · exact ⟨hWr b (hcallee _ b hu').1, (hcallee _ b hu').2⟩
    · exact ⟨hWr b (hcallee _ b hu').1, (hcallee _ b hu').2⟩
  · rcases key k b hu with ⟨h1, h1', hu1⟩ | ⟨i, rfl, h1, hu1⟩ | ⟨h1, hu1⟩ <;> rcases key k' b hu' with ⟨h2, h2', hu2⟩ | ⟨j, rfl, h2, hu2⟩ | ⟨h2, hu2⟩
    · exact h.inv.one k k' b hu1 hu2
    · exact absurd (hcallee _ b hu2).1 (hnw k b h1 hu1).2
    · exact absurd (hcallee _ b hu2).1 (hnw k b h1 hu1).2
    · exact absurd (hcallee _ b hu1).1 (hnw k' b h2 hu2).2
    · have e1 := (hfrd i h1).1
      have e2 := (hfrd j h2).1
      rw [e1] at e2
      cases e2; rfl
    · have := hI.one _ _ b hu1 hu2
      rw [← this] at h2
      simp [gkey] at h2
    · exact absurd (hcallee _ b hu1).1 (hnw k' b h2 hu2).2
    · have := hI.one _ _ b hu1 hu2
      rw [this] at h1
      simp [gkey] at h1
    · exact hI.one k k' b hu1 hu2

theorem ok_doCall {d : Option Nat} {f : FuncId} {ds : List DV} {vs : Array Value} {op : Bool} {δ : De} (h : AI w0 gh0 Wr N s gh a w) (hdst : o.dst = d) (hd : ∀ x, d = some x → x < N)
    (hrun : (execOp a.eval o).run P w = .ok (.enter f vs) w) (hargs : ArgsR w gh ds vs) (hC : CallOK P call) (hs : doCall call s f ds op = some δ) :
    o.wp P a w (fun a' w' => Mod w0 gh0 Wr N (s.ap d δ) a' w') Q := by
  cases op with
  | true => exact ok_callO h hdst hd hrun hargs hC hs
  | false => exact ok_callC h hdst hd hrun hargs hC hs

theorem doCall_fun {f : FuncId} {ds : List DV} {op : Bool} {δ : De} (hC : CallOK P call) (hs : doCall call s f ds op = some δ) : FuncM P f := by
  cases op with
  | true =>
    simp only [doCall, if_true, Option.ite_none_right_eq_some, Option.bind_eq_some_iff] at hs
    obtain ⟨_, ⟨r, gl'⟩, hcall, _⟩ := hs
    exact (hC _ _ _ _ _ hcall).1
  | false =>
    simp only [doCall, Bool.false_eq_true, if_false, Option.bind_eq_some_iff] at hs
    obtain ⟨as, _, ⟨r, gl'⟩, hcall, _⟩ := hs
    exact (hC _ _ _ _ _ hcall).1

theorem callFunc_run {f : FuncId} (hf : FuncM P f) (args : Array Value) : (callFunc f args).run P w = .ok (.enter f args) w := by
  obtain ⟨fn, h1, h2, h3⟩ := hf
  have h3' : ¬ fn.name = "runtime.NumGoroutine" := by simpa using h3
  have h2' : fn.body ≠ none := by intro e; simp [e] at h2
  simp [callFunc, h1, h2', h3']

theorem getWs_rep (h : AI w0 gh0 Wr N s gh a w) {xs : List Operand} {ys : List Opd} (hm : OpdsM xs ys) : ArgsR w gh (ys.map (getW s.fr)) (xs.map a.eval).toArray := by
  refine ⟨by simp [hm.1], fun j d v hd hv => ?_⟩
  simp only [List.getElem?_map, Option.map_eq_some_iff] at hd
  obtain ⟨y, hy, rfl⟩ := hd
  simp only [List.getElem?_toArray, List.getElem?_map, Option.map_eq_some_iff] at hv
  obtain ⟨x, hx, rfl⟩ := hv
  exact h.getW (hm.2 j x y hx hy)

theorem ok_call {d : Option Nat} {f : FuncId} {args : List Opd} {oargs : List Operand} {Ts : Array TypeId} {op : Bool} {δ : De} (h : AI w0 gh0 Wr N s gh a w) (hdst : o.dst = d) (hd : ∀ x, d = some x → x < N)
    (ho : o.op = .call { callee := .value (.func f), args := oargs.toArray, argTypes := Ts }) (hm : OpdsM oargs args) (hC : CallOK P call) (hs : stepD P call s (.call d f args op) = some δ) :
    o.wp P a w (fun a' w' => Mod w0 gh0 Wr N (s.ap d δ) a' w') Q := by
  simp only [stepD] at hs
  refine ok_doCall h hdst hd ?_ (getWs_rep h hm) hC hs
  have hf := doCall_fun hC hs
  simp [execOp, ho, resolve, invoke, Act.eval, Deferred.ofValue, callFunc_run hf]

theorem ok_callv {d : Option Nat} {x : Opd} {ox : Operand} {args : List Opd} {oargs : List Operand} {Ts : Array TypeId} {op : Bool} {δ : De} (h : AI w0 gh0 Wr N s gh a w) (hdst : o.dst = d) (hd : ∀ x, d = some x → x < N)
    (ho : o.op = .call { callee := .value ox, args := oargs.toArray, argTypes := Ts }) (hx : OpdM ox x) (hm : OpdsM oargs args) (hC : CallOK P call) (hs : stepD P call s (.callv d x args op) = some δ) :
    o.wp P a w (fun a' w' => Mod w0 gh0 Wr N (s.ap d δ) a' w') Q := by
  simp only [stepD] at hs
  split at hs
  case h_2 => simp at hs
  rename_i f caps heq
  have hv := h.getW hx
  rw [heq] at hv
  obtain ⟨cs, he, hl, hcs⟩ := hv
  have hf := doCall_fun hC hs
  have hargs := getWs_rep h hm
  refine ok_doCall (vs := (oargs.map a.eval).toArray ++ cs) h hdst hd ?_ ?_ hC hs
  · simp [execOp, ho, resolve, invoke, he, Deferred.ofValue, callFunc_run hf]
  · refine ⟨by simp [hm.1, hl], fun j dd v hdd hv => ?_⟩
    by_cases hj : j < (args.map (getW s.fr)).length
    · rw [List.getElem?_append_left hj] at hdd
      have hj' : j < (oargs.map a.eval).toArray.size := by simpa [hm.1] using hj
      rw [Array.getElem?_append_left hj'] at hv
      exact hargs.2 j dd v hdd hv
    · have e : (oargs.map a.eval).toArray.size = (args.map (getW s.fr)).length := by simp [hm.1]
      rw [List.getElem?_append_right (by omega)] at hdd
      rw [Array.getElem?_append_right (by omega), e] at hv
      have hcu := hcs _ dd v hdd hv
      -- a captured value as an argument
      cases dd with
      | agg c => exact Rep.toS (d := .agg c) hcu
      | tup c => exact Rep.toS (d := .tup c) hcu
      | clo f c => exact Rep.toS (d := .clo f c) hcu
      | _ => exact hcu

end Go.AM
