/- Calls: the operations. -/
import Derived.Test.YtnglcmfgkcdgcaaGreatAmA14
namespace Go.AM
open Go
set_option linter.unusedVariables false
set_option linter.unusedSimpArgs false

variable {w0 w w' : World} {Wr : Nat → Prop} {s s' : St} {gh gh' gh0 : Gh} {P : Program} {call : Call} {t t' : Nat → Value}
variable {N : Nat} {a : Act} {Q : Exit → Act → World → Prop} {o : Oper}

theorem wp_enter {f : FuncId} {vs : Array Value} {K : Act → World → Prop} (hr : (execOp a.eval o).run P w = .ok (.enter f vs) w)
    (h : Calls P f vs w fun e w' => ∃ v, e = .returned v ∧ K (a.put o.dst v) w') : o.wp P a w K Q := by
  simp only [Oper.wp, hr, Oper.upon]
  refine h.mono fun e w' hh => ?_
  obtain ⟨v, rfl, hK⟩ := hh
  exact hK

theorem closedC_no {d : DV} (h : closedC d = true) : noG d = true ∧ noL d = true := by cases d <;> simp_all [closedC, noG, noL]

theorem pureClo_no {f : FuncId} {caps : List DV} (h : pureC (.clo f caps) = true) : gnames (.clo f caps) = false ∧ lnames (.clo f caps) = false := by
  simp only [pureC, List.all_eq_true] at h
  constructor
  · simp only [gnames, List.any_eq_false]
    intro x hx
    have := h x hx
    cases x <;> simp_all [noG]
  · simp only [lnames, List.any_eq_false]
    intro x hx
    have := h x hx
    cases x <;> simp_all

theorem closedR_no {d : DV} (h : closedR d = true) : gnames d = false ∧ lnames d = false := by
  cases d with
  | agg cs =>
    refine ⟨?_, rfl⟩
    simp only [closedR, List.all_eq_true] at h
    simp only [gnames, List.any_eq_false]
    intro x hx
    simpa using (closedC_no (h x hx)).1
  | tup cs =>
    refine ⟨?_, rfl⟩
    simp only [closedR, List.all_eq_true] at h
    simp only [gnames, List.any_eq_false]
    intro x hx
    have := h x hx
    cases x <;> simp_all [noG, closedC]
  | clo f caps => exact pureClo_no h
  | _ => simp_all [closedR, closedC, gnames, lnames]

/-- A result without own objects. -/
theorem flat_rep {r : DV} {v : Value} {ℓ : Option Own} {gh1 gh2 : Gh} (hf : flatR r = true) (hl : ∀ rows, r ≠ .lst true rows) (h : SRep w gh1 ℓ r v) : SRep w' gh2 none r v := by
  have val : ∀ {c : DV} {u : Value}, flatC c = true → CRep w gh1 none c u → noL c = true ∧ CRep w' gh2 none c u := by
    intro c u hc hcu
    cases c <;> simp only [flatC, reduceCtorEq] at hc
    cases hcu
    exact ⟨rfl, Rep.val _⟩
  cases r with
  | val x => cases h; exact Rep.val _
  | agg cs =>
    obtain ⟨vs, rfl, h1, h2⟩ := h
    simp only [flatR, List.all_eq_true] at hf
    exact ⟨vs, rfl, h1, fun j c u hc hu => val (hf c (List.mem_of_getElem? hc)) (h2 j c u hc hu).2⟩
  | tup cs =>
    obtain ⟨vs, rfl, h1, h2⟩ := h
    simp only [flatR, List.all_eq_true] at hf
    exact ⟨vs, rfl, h1, fun j c u hc hu => val (hf c (List.mem_of_getElem? hc)) (h2 j c u hc hu).2⟩
  | lst b rows =>
    cases b with
    | true => exact absurd rfl (hl rows)
    | false => simp [flatR] at hf
  | _ => simp [flatR] at hf

theorem SRep.dropHome {ℓ : Option Own} {r : DV} {v : Value} (hl : ∀ rows, r ≠ .lst true rows) (h : SRep w gh ℓ r v) : SRep w gh none r v := by
  cases r with
  | lst b rows => cases b with
    | true => exact absurd rfl (hl rows)
    | false => exact h
  | _ => exact h

def putT (t : Nat → Value) (d : Option Nat) (v : Value) : Nat → Value :=
  match d with
  | some d => upd t d v
  | none => t

theorem tm_putO {d : Option Nat} (a : Act) (v : Value) (hd : ∀ x, d = some x → x < a.tmps.size) : tm (a.put d v) = putT (tm a) d v := by
  cases d with
  | none => rfl
  | some d => exact tm_put a d v (hd d rfl)

/-- A call that sees nothing of the objects. -/
theorem ok_callC {d : Option Nat} {f : FuncId} {ds : List DV} {vs : Array Value} {δ : De} (h : AI w0 gh0 Wr N s gh a w) (hdst : o.dst = d) (hd : ∀ x, d = some x → x < N)
    (hrun : (execOp a.eval o).run P w = .ok (.enter f vs) w) (hargs : ArgsR w gh ds vs) (hC : CallOK P call) (hs : doCall call s f ds false = some δ) :
    o.wp P a w (fun a' w' => Mod w0 gh0 Wr N (s.ap d δ) a' w') Q := by
  simp only [doCall, Bool.false_eq_true, if_false, Option.bind_eq_some_iff] at hs
  obtain ⟨as, has, ⟨r, gl'⟩, hcall, hs⟩ := hs
  simp only [Option.ite_none_right_eq_some, Bool.and_eq_true, Option.some.injEq] at hs
  obtain ⟨⟨hclosed, hlk⟩, rfl⟩ := hs
  -- the callee's marks: with what is lent, if anything is looked at
  let Sc : Nat → Nat := if ds.any looks = true then lent s gh w else gh.S
  have hScnew : ∀ b, w.heap.size ≤ b → Sc b = 0 := by
    intro b hb
    simp only [Sc]
    split
    · exact lent_new h.inv b hb
    · exact h.inv.marks b hb
  have hasz : as.length = ds.length := mapO_len has
  have hAR : ArgsR w { gh with S := Sc, nx := 0 } as vs := by
    refine ⟨by rw [hasz]; exact hargs.1, fun j dd v hd hv => ?_⟩
    obtain ⟨d0, hd0, hcl⟩ := mapO_get has j dd hd
    have hr0 := hargs.2 j d0 v hd0 hv
    by_cases hany : ds.any looks = true
    · have := closeA_rep h.inv hr0 hcl { gh with S := Sc, nx := 0 } (by simp [Sc, hany])
      exact this.toS
    · have hnl : looks d0 = false := by
        have := List.any_eq_false.1 (by simpa using hany) d0 (List.mem_of_getElem? hd0)
        simpa using this
      have hSc : Sc = gh.S := by simp [Sc, hany]
      -- nothing is looked at: the argument as it is, less the right to append
      have plain1 : ∀ {c c' : DV} {u : Value} {ℓ : Option Own}, looks1 c = false → closeC s c = some c' → CRep w gh ℓ c u → Rep w Sc c' u := by
        intro c c' u ℓ hc hcc hcu
        rw [hSc]
        cases c <;> simp only [closeC, Option.some.injEq, reduceCtorEq, Option.ite_none_right_eq_some] at hcc <;> simp only [looks1, Bool.true_eq_false, reduceCtorEq] at hc
        · subst hcc; exact hcu
        · subst hcc; exact SRep.rows (ℓ := ℓ) hcu
        · subst hcc; exact hcu
        · obtain ⟨_, rfl⟩ := hcc; exact hcu
      have manyR : ∀ (cs cs' : List DV) (us : Array Value), us.size = cs.length → cs.any looks1 = false → mapO (closeC s) cs = some cs' → (∀ (j : Nat) c u, cs[j]? = some c → us[j]? = some u → CRep w gh none c u) →
          us.size = cs'.length ∧ ∀ (j : Nat) dd u, cs'[j]? = some dd → us[j]? = some u → Rep w Sc dd u := by
        intro cs cs' us hl hno hm hall
        refine ⟨by rw [mapO_len hm]; exact hl, fun j dd u hd hu => ?_⟩
        obtain ⟨c, hcj, hf⟩ := mapO_get hm j dd hd
        have := List.any_eq_false.1 hno c (List.mem_of_getElem? hcj)
        exact plain1 (by simpa using this) hf (hall j c u hcj hu)
      have : Rep w Sc dd v := by
        cases d0 with
        | agg cs =>
          simp only [closeA, Option.map_eq_some_iff] at hcl
          obtain ⟨cs', hm, rfl⟩ := hcl
          obtain ⟨us, rfl, hl, h2⟩ := hr0
          obtain ⟨m1, m2⟩ := manyR cs cs' us hl hnl hm (fun j c u hcj hu => (h2 j c u hcj hu).2)
          exact Rep.agg m1 m2
        | clo f caps =>
          simp only [closeA, Option.map_eq_some_iff] at hcl
          obtain ⟨cs', hm, rfl⟩ := hcl
          obtain ⟨us, rfl, hl, h2⟩ := hr0
          obtain ⟨m1, m2⟩ := manyR caps cs' us hl hnl hm h2
          exact Rep.clo m1 m2
        | tup cs => simp [closeA, closeC] at hcl
        | any => simp [closeA, closeC] at hcl
        | lst b rows => exact plain1 (ℓ := none) (c := .lst b rows) hnl hcl hr0
        | val x => exact plain1 (ℓ := none) (c := .val x) hnl hcl hr0
        | pim x => exact plain1 (ℓ := none) (c := .pim x) hnl hcl hr0
        | ref x y z => simp [looks, looks1] at hnl
        | arr x y z => simp [looks, looks1] at hnl
        | lref x y z => simp [looks, looks1] at hnl
        | larr x y z => simp [looks, looks1] at hnl
      exact Rep.toS (gh := { gh with S := Sc, nx := 0 }) this
  have hentry := entry_inv w { gh with S := Sc, nx := 0 } hAR hScnew rfl
  have hgood := (hC f as Gl.empty r gl' hcall).2 w _ _ vs hAR.1 hentry
  refine wp_enter hrun (hgood.mono fun e w' hh => ?_)
  obtain ⟨v, gh', rfl, hI⟩ := hh
  refine ⟨v, rfl, ?_⟩
  have hext : Ext w w' := ⟨hI.os, hI.tape, hI.output, hI.size, fun b hb => hI.frame b hb (by simp; omega)⟩
  let S2 : Nat → Nat := fun b => if b < w.heap.size then gh.S b else gh'.S b
  have hW : Inv w0 gh0 Wr s { gh with S := S2 } (tm a) w' := h.inv.world hext S2 (fun b hb => by simp [S2, hb]) (fun b hb => by
    have h1 : ¬ b < w.heap.size := by have := hI.size; omega
    simp only [S2, if_neg h1]
    exact hI.marks b hb)
  have hs0 : ∀ b, b < w.heap.size → gh'.S b = Sc b := fun b hb => hI.s0 b hb (by simp; omega)
  have hrep := hI.slots 0
  simp only [exitS, upd_same] at hrep
  cases d with
  | none =>
    refine ⟨{ gh with S := S2 }, ?_, by simpa using h.size, by simpa using h.defers⟩
    rw [hdst]
    show Inv w0 gh0 Wr { s with fr := putO (wkO s.fr none) none r } _ (tm a) w'
    simpa [putO, wkO] using hW
  | some d =>
    have hdN := hd d rfl
    have fin : ∀ gh'', Inv w0 gh0 Wr { s with fr := upd s.fr d r } gh'' (upd (tm a) d v) w' → Mod w0 gh0 Wr N (s.ap (some d) (.put r none)) (a.put o.dst v) w' := by
      intro gh'' hI''
      refine ⟨gh'', ?_, by simpa using h.size, by simpa using h.defers⟩
      rw [hdst, tm_put _ _ _ (by rw [h.size]; exact hdN)]
      exact hI''
    by_cases hl : ∃ rows, r = .lst true rows
    · obtain ⟨rows, rfl⟩ := hl
      obtain ⟨hrl, hown⟩ := hrep
      have hrl2 : Rep w' S2 (.lst false rows) v := by
        by_cases hany : ds.any looks = true
        · -- flat rows, in a block of their own
          have hfl : rows.all (·.all flatC) = true := by simpa [hany, flatR] using hlk
          rcases hown with ⟨rfl, A, rfl⟩ | ⟨g, cap, cur, e, sz, h0, h1, h2, h3, h4, h5, h6, h7, h8⟩
          · exact (Rep.nil A).wk1
          · have hg : w.heap.size ≤ g := (hI.uses (.own (.sl 0)) g ⟨⟨rows, by simp [exitS]⟩, h0⟩).1
            cases hrl with
            | lst hn hc hm hA hcell hrep' =>
              rename_i A n c b o' sz' u
              simp only [Value.slice.injEq] at h1
              obtain ⟨rfl, rfl, rfl⟩ := h1
              have hA' := hA (by have := List.length_pos_iff.2 h8; omega)
              simp only [Option.some.injEq, Addr.mk.injEq, and_true] at hA'
              obtain ⟨rfl, rfl⟩ := hA'
              refine Rep.lst (b := g) (o := 0) (sz := sz') (u := u) hn hc hm (fun _ => rfl) (fun i row hr => ⟨(hcell i row hr).1, fun j hj => ?_⟩) (fun i row j dd hr hdd => ?_)
              · obtain ⟨k1, k2, k3⟩ := (hcell i row hr).2 j hj
                refine ⟨k1, ?_, k3⟩
                simp only [S2]
                rw [if_neg (by omega)]
                exact k2
              · have hv := hrep' i row j dd hr hdd
                have := List.all_eq_true.1 (List.all_eq_true.1 hfl row (List.mem_of_getElem? hr)) dd (List.mem_of_getElem? hdd)
                cases dd <;> simp only [flatC, reduceCtorEq] at this
                generalize u i j = uu at hv
                cases hv
                exact Rep.val _
        · have hSc : Sc = gh.S := by simp [Sc, hany]
          refine hrl.keep fun b o ho => ⟨rfl, ?_⟩
          simp only [S2]
          split
          · rename_i hb
            rw [hs0 b hb, hSc] at ho; exact ho
          · exact ho
      rcases hown with ⟨rfl, A, rfl⟩ | ⟨g, cap, cur, e, sz, h0, h1, h2, h3, h4, h5, h6, h7, h8⟩
      · exact fin _ (hW.put d (d := .lst true []) ⟨hrl2, .inl ⟨rfl, A, rfl⟩⟩)
      · have hu := hI.uses (.own (.sl 0)) g ⟨⟨rows, by simp [exitS]⟩, h0⟩
        have hg : w.heap.size ≤ g := hu.1
        have hS2g : S2 g = gh'.S g := by simp only [S2]; rw [if_neg (by omega)]
        refine fin _ (hW.putOwn d (b := g) hrl2 ?_ (fun k hk => ?_) (h.inv.wrNew g (Nat.le_trans h.inv.size hg)) hu.2)
        · exact .inr ⟨g, cap, cur, e, sz, rfl, h1, h2, h3, h4, h5, hS2g.trans h6, h7, h8⟩
        · have := (h.inv.uses k g hk).2; omega
    · have hl' : ∀ rows, r ≠ .lst true rows := fun rows hr => hl ⟨rows, hr⟩
      refine fin _ (hW.put d ?_)
      by_cases hany : ds.any looks = true
      · exact flat_rep (by simpa [hany] using hlk) hl' hrep
      · have hSc : Sc = gh.S := by simp [Sc, hany]
        obtain ⟨hg, hlo⟩ := closedR_no hclosed
        refine (hrep.dropHome hl').keep (gh := gh') (fun b o ho => ⟨rfl, ?_⟩) (.inl hg) (.inl hlo) (fun rows hr _ => absurd hr (hl' rows))
        simp only [S2]
        split
        · rename_i hb
          rw [hs0 b hb, hSc] at ho; exact ho
        · exact ho

end Go.AM
