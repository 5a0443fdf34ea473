/- Typed operations are operations: numbers, strings, each operation. -/
import Derived.Test.YtnglcmfgkcdgcaaGreatAmT4
namespace Go.AM
open Go
set_option linter.unusedVariables false
set_option linter.unusedSimpArgs false

variable {P : Program} {sig : List Sm} {call : Call} {T : TSt} {β : Type} {r : β}

theorem calcP_bind {α γ : Type} {P : Program} : ∀ (x : Sem α) (f : α → Sem γ), calcP P (x >>= f) = (calcP P x).bind fun a => calcP P (f a) := by
  intro x f
  show calcP P (Sem.bind x f) = _
  induction x with
  | pure a => rfl
  | program k ih => simp only [Sem.bind, calcP]; exact ih P
  | _ => rfl

theorem calcP_pure {α : Type} {P : Program} (a : α) : calcP P (pure a : Sem α) = some a := rfl

theorem calcP_ite {α : Type} {P : Program} {c : Prop} [Decidable c] (x y : Sem α) : calcP P (if c then x else y) = if c then calcP P x else calcP P y := by
  split <;> rfl

/-- A computed value. -/
def scalD (v : Value) : Option DV := match v with
    | .int k n => some (.val (.int k n))
    | .bool t => some (.val (.bool t))
    | .string t => some (.val (.string t))
    | _ => none

theorem vint_ok {op : BinOp} {U : TypeId} {k k' : IntKind} {x y : Int} {K : Value → Option β} (h : vintK op k x k' y K = some r) :
    ∃ v, bin2 P op U (.int k x) (.int k' y) = some (.val v) ∧ K v = some r := by
  have hg : ∀ op, calcP P (eqGuard op U (.tmp 0) (.tmp 0) (.int k x) (.int k' y)) = some () := by
    intro op
    cases op <;> rfl
  have hb : bin2 P op U (.int k x) (.int k' y) = (calcP P (binOp op U (.int k x) (.int k' y))).bind scalD := by
    simp only [bin2, calcP_bind, hg, Option.bind_some]
    rfl
  rw [hb]
  cases op <;> simp only [vintK, Option.ite_none_right_eq_some, Option.ite_none_left_eq_some, reduceCtorEq, and_false] at h
  all_goals first
    | (obtain ⟨rfl, h1, h2⟩ := h
       refine ⟨_, ?_, h2⟩
       simp only [binOp, Op.intDiv, calcP_ite, if_neg h1, calcP_pure, ne_eq, not_true_eq_false, if_false]
       rfl)
    | (obtain ⟨rfl, h2⟩ := h
       refine ⟨_, ?_, h2⟩
       simp only [binOp, Op.intArith, Op.intCmp, Op.intBits, ibits, calcP_ite, calcP_pure, ne_eq, not_true_eq_false, if_false]
       rfl)
    | (obtain ⟨h1, h2⟩ := h
       refine ⟨_, ?_, h2⟩
       simp only [binOp, Op.shift, calcP_ite, if_neg h1, calcP_pure]
       rfl)

theorem vstr_ok {op : BinOp} {U : TypeId} {x y : ByteArray} {K : Value → Option β} (h : vstrK op x y K = some r) :
    ∃ v, bin2 P op U (.string x) (.string y) = some (.val v) ∧ K v = some r := by
  have hg : ∀ op, calcP P (eqGuard op U (.tmp 0) (.tmp 0) (.string x) (.string y)) = some () := by
    intro op
    cases op <;> rfl
  have hb : bin2 P op U (.string x) (.string y) = (calcP P (binOp op U (.string x) (.string y))).bind scalD := by
    simp only [bin2, calcP_bind, hg, Option.bind_some]
    rfl
  rw [hb]
  cases op <;> simp only [vstrK, Option.ite_none_left_eq_some, reduceCtorEq] at h
  all_goals first
    | (obtain ⟨h1, h2⟩ := h
       refine ⟨_, ?_, h2⟩
       simp only [binOp, Op.stringOp, calcP_ite, if_neg h1, calcP_pure, Option.bind_some]
       rfl)
    | (refine ⟨_, ?_, h⟩
       simp only [binOp, Op.stringOp, calcP_pure, strEq, strLt]
       rfl)

theorem calcP_under {P : Program} {U : TypeId} {d : TypeDesc} (h : P.underlying U = some d) : calcP P (underlying U) = some d := by
  unfold underlying
  simp only [calcP_bind, program]
  simp [calcP, h, calcP_pure]

theorem calcP_part {P : Program} {t : TypeId} {cs : Array Value} {o : Nat} {d : TypeDesc} {v : Value} (h : P.underlying t = some d) (hd : d = .bool ∨ d = .string ∨ ∃ k, d = .int k) (hv : cs[o]? = some v) : calcP P (part t cs o) = some v := by
  have ha : calcP P (isAgg t) = some false := by
    rcases hd with rfl | rfl | ⟨k, rfl⟩ <;> simp [isAgg, calcP_bind, calcP_under h, calcP_pure]
  simp [part, calcP_bind, ha, hv, calcP_pure]

theorem eqF_ok {P : Program} {xs ys : Array Value} {d : Nat} : ∀ {fs : List Field} {t : Bool}, eqF P xs ys fs = some t →
    calcP P (forIn fs ((none : Option Bool), ()) fun f __s =>
                if f.name ≠ "_" then do
                  let __do_lift ← part f.type xs f.offset
                  let __do_lift_1 ← part f.type ys f.offset
                  let __do_lift ← Op.equalIn (d + 1) f.type __do_lift __do_lift_1
                  if (!__do_lift) = true then pure (ForInStep.done (some false, ()))
                    else pure (ForInStep.yield (none, ()))
                else pure (ForInStep.yield (none, ()))) = some (if t then none else some false, ())
  | [], t, h => by
    simp only [eqF, Option.some.injEq] at h
    subst h
    rfl
  | f :: r, t, h => by
    simp only [eqF, Option.ite_none_right_eq_some] at h
    obtain ⟨hn, h⟩ := h
    rw [List.forIn_cons, if_pos hn]
    have key : ∃ (b : Bool) (x y : Value), calcP P (part f.type xs f.offset) = some x ∧ calcP P (part f.type ys f.offset) = some y ∧ calcP P (Op.equalIn (d + 1) f.type x y) = some b ∧ (eqF P xs ys r).map (fun c => b && c) = some t := by
      split at h
      · rename_i k k1 x k2 y hu hx hy
        simp only [Option.ite_none_right_eq_some] at h
        obtain ⟨rfl, h⟩ := h
        refine ⟨_, _, _, calcP_part hu (.inr (.inr ⟨_, rfl⟩)) hx, calcP_part hu (.inr (.inr ⟨_, rfl⟩)) hy, ?_, h⟩
        unfold Op.equalIn
        simp only [calcP_bind, calcP_under hu, Option.bind_some, if_true, calcP_pure]
      · rename_i x y hu hx hy
        refine ⟨_, _, _, calcP_part hu (.inr (.inl rfl)) hx, calcP_part hu (.inr (.inl rfl)) hy, ?_, h⟩
        unfold Op.equalIn
        simp only [calcP_bind, calcP_under hu, Option.bind_some, calcP_pure]
      · rename_i x y hu hx hy
        refine ⟨_, _, _, calcP_part hu (.inl rfl) hx, calcP_part hu (.inl rfl) hy, ?_, h⟩
        unfold Op.equalIn
        simp only [calcP_bind, calcP_under hu, Option.bind_some, calcP_pure]
      · simp at h
    obtain ⟨b, x, y, h1, h2, h3, h4⟩ := key
    simp only [Option.map_eq_some_iff] at h4
    obtain ⟨c, h4, rfl⟩ := h4
    have ih := eqF_ok (d := d) h4
    simp only [calcP_bind, h1, h2, h3, Option.bind_some]
    cases b with
    | true => simp only [Bool.not_true, Bool.false_eq_true, if_false, calcP_pure, Option.bind_some, Bool.true_and]; exact ih
    | false => rfl

theorem eqStruct_ok {P : Program} {U : TypeId} {fs : Array Field} {xs ys : Array Value} {t : Bool} (h : P.underlying U = some (.struct fs)) (hs : P.stoodInHeld U = false) (ht : eqF P xs ys fs.toList = some t) :
    calcP P (Op.equal U (.agg xs) (.agg ys)) = some t := by
  unfold Op.equal Op.maxDepth Op.equalIn
  have hp : calcP P program = some P := rfl
  simp only [calcP_bind, calcP_under h, Option.bind_some, hp, hs, Bool.false_eq_true, if_false]
  rw [← Array.forIn_toList, eqF_ok ht]
  cases t <;> rfl
theorem veq_ok {U : TypeId} {a b : Value} {K : Bool → Option β} (h : veqK P U a b K = some r) :
    ∃ t, (∀ op, calcP P (eqGuard op U (.tmp 0) (.tmp 0) a b) = some ()) ∧ calcP P (Op.equal U a b) = some t ∧ K t = some r ∧ (∀ k n, a ≠ .int k n) ∧ (∀ x, a ≠ .string x) ∧ a ≠ .nilIface ∧ b ≠ .nilIface ∧ (∃ x y, a = .bool x ∧ b = .bool y ∨ ∃ x y, a = .agg x ∧ b = .agg y) := by
  unfold veqK at h
  split at h
  · rename_i x y
    split at h
    · rename_i h1
      refine ⟨_, fun op => by cases op <;> rfl, ?_, h, by simp, by simp, by simp, by simp, x, y, .inl ⟨rfl, rfl⟩⟩
      unfold Op.equal Op.maxDepth Op.equalIn
      simp only [calcP_bind, calcP_under h1, Option.bind_some, calcP_pure]
    · simp at h
  · rename_i xs ys
    split at h
    · rename_i fs h1
      simp only [cond_eq_ite, Option.ite_none_left_eq_some, Bool.or_eq_true, not_or, Bool.not_eq_true] at h
      obtain ⟨⟨h2, h3⟩, h⟩ := h
      split at h
      · rename_i t ht
        refine ⟨t, fun op => ?_, eqStruct_ok h1 h2 ht, h, by simp, by simp, by simp, by simp, true, true, .inr ⟨xs, ys, rfl, rfl⟩⟩
        have hp : calcP P program = some P := rfl
        have hg : calcP P (do
            if !(← program).eqGuardType (← program).depth U then return
            if ← Op.eqGuardIn Op.maxDepth U (.agg xs) (.agg ys) then unsupported (.noEntry "binop/eql: two nil values of an interface type with methods, in a part of a struct or an array")) = some () := by
          simp only [calcP_bind, hp, Option.bind_some, h3, Bool.not_false, if_true]
          rfl
        cases op <;> first | exact hg | rfl
      · simp at h
    · simp at h
  · simp at h

theorem vbin_ok {op : BinOp} {U : TypeId} {a b : Value} {K : Value → Option β} (h : vbinK P op U a b K = some r) : ∃ v, bin2 P op U a b = some (.val v) ∧ K v = some r := by
  unfold vbinK at h
  split at h
  · exact vint_ok h
  · exact vstr_ok h
  · split at h
    · obtain ⟨t, hg, he, h2, _, _, _, _, x, y, hx⟩ := veq_ok h
      refine ⟨_, ?_, h2⟩
      rcases hx with ⟨rfl, rfl⟩ | ⟨x, y, rfl, rfl⟩ <;> simp only [bin2, calcP_bind, hg, Option.bind_some, binOp, he, calcP_pure]
    · obtain ⟨t, hg, he, h2, _, _, _, _, x, y, hx⟩ := veq_ok h
      refine ⟨_, ?_, h2⟩
      rcases hx with ⟨rfl, rfl⟩ | ⟨x, y, rfl, rfl⟩ <;> simp only [bin2, calcP_bind, hg, Option.bind_some, binOp, he, calcP_pure]
    · simp at h

theorem vun_ok {op : UnOp} {a : Value} {K : Value → Option β} (h : vunK op a K = some r) : ∃ v, (calcP P (Op.unary op a)).bind scal = some (.val v) ∧ K v = some r := by
  unfold vunK at h
  split at h
  · exact ⟨_, rfl, h⟩
  · exact ⟨_, rfl, h⟩
  · simp at h

theorem vconv_ok {src dst : TypeId} {a : Value} {K : Value → Option β} (h : vconvK P src dst a K = some r) : ∃ v, (calcP P (convert src dst a)).bind scal = some (.val v) ∧ K v = some r := by
  unfold vconvK at h
  split at h
  · rename_i h1 h2
    refine ⟨_, ?_, h⟩
    simp only [convert, calcP_bind, calcP_under h1, calcP_under h2, Option.bind_some]
    rfl
  · rename_i h1 h2
    refine ⟨_, ?_, h⟩
    simp only [convert, calcP_bind, calcP_under h1, calcP_under h2, Option.bind_some]
    rfl
  · simp at h

theorem vmnx_ok {b : Bool} : ∀ {vs : List Value} {v u : Value}, (∃ k n, v = .int k n) → vmnx b v vs = some u → calcP P (vs.foldlM (if b then Builtin.max2 else Builtin.min2) v) = some u ∧ ∃ k n, u = .int k n
  | [], v, u, hv, h => by
    obtain ⟨k, n, rfl⟩ := hv
    simp only [vmnx, Option.some.injEq] at h
    subst h
    exact ⟨rfl, _, _, rfl⟩
  | w :: q, v, u, hv, h => by
    obtain ⟨k, n, rfl⟩ := hv
    cases w with
    | int k' y =>
      simp only [vmnx, Option.ite_none_right_eq_some] at h
      obtain ⟨rfl, h⟩ := h
      obtain ⟨h1, h2⟩ := vmnx_ok ⟨_, _, rfl⟩ h
      refine ⟨?_, h2⟩
      rw [List.foldlM_cons, calcP_bind]
      cases b with
      | true => simp only [if_true, Builtin.max2, calcP_pure, Option.bind_some] at h1 ⊢; exact h1
      | false => simp only [Bool.false_eq_true, if_false, Builtin.min2, calcP_pure, Option.bind_some] at h1 ⊢; exact h1
    | _ => simp [vmnx] at h

theorem exact1_er {v : TV} {x : Value} (h : exactT1 v = some x) : exact1 v.er = some x := by
  cases v <;> simp only [exactT1, reduceCtorEq] at h
  simpa [TV.er, exact1] using h

theorem mapO_er {vs : List TV} {xs : List Value} (h : mapO exactT1 vs = some xs) : mapO exact1 (vs.map TV.er) = some xs := by
  induction vs generalizing xs with
  | nil => exact h
  | cons v q ih =>
    simp only [mapO, Option.bind_eq_some_iff, Option.map_eq_some_iff] at h
    obtain ⟨x, h1, l, h2, rfl⟩ := h
    simp [mapO, exact1_er h1, ih h2]

theorem exact_er {v : TV} {x : Value} (h : exactT v = some x) : exact v.er = some x := by
  cases v with
  | val y => simpa [exactT, exact, TV.er] using h
  | agg cs =>
    simp only [exactT, Option.map_eq_some_iff] at h
    obtain ⟨l, h1, rfl⟩ := h
    simp [er_agg, exact, mapO_er h1]
  | _ => simp [exactT] at h

theorem byteAt_ok {s : ByteArray} {i n : Int} (h : byteAt s i = some n) : ∃ b, (if 0 ≤ i then s[i.toNat]? else none) = some b ∧ n = (b.toNat : Int) := by
  unfold byteAt at h
  split at h
  · rename_i hi
    simp only [Option.map_eq_some_iff] at h
    obtain ⟨b, h1, rfl⟩ := h
    exact ⟨b, by rw [if_pos hi, h1], rfl⟩
  · simp at h

theorem mkVT_ok {ag : Bool} {cs : List TV} {v : TV} (h : mkVT ag cs = some v) : mkV ag (cs.map TV.er) = some v.er := by
  unfold mkVT at h
  cases ag with
  | true =>
    simp only [cond_true, Option.some.injEq] at h
    subst h
    simp [mkV, er_agg]
  | false =>
    simp only [cond_false] at h
    split at h
    · simp only [Option.some.injEq] at h
      subst h
      simp [mkV]
    · simp at h

theorem getI_ok {α : Type} {xs : List α} {n : Int} {y : α} (h : getI xs n = some y) : 0 ≤ n ∧ n < xs.length ∧ xs[n.toNat]? = some y := by
  simp only [getI, Option.ite_none_right_eq_some] at h
  exact ⟨h.1.1, h.1.2, h.2⟩

theorem all_len {t : Ty} (xs : List t.den) {n : Nat} (h : t.w = n) : (xs.map t.row).all (fun x => decide (x.length = n)) = true := by
  simp [row_len, h]

theorem zero_er (l : List Value) : (l.map oneT).map TV.er = l.map oneV := by simp [Function.comp_def, oneT_er]
theorem zero_er' (l : List Value) : (l.map fun v => wkT1 (oneT v)).map TV.er = l.map fun v => wk1 (oneV v) := by simp [Function.comp_def, oneT_er, wkT1_er]

theorem getWs_er (T : TSt) (l : List Opd) : (l.map (getTW T.fr)).map TV.er = l.map (getW T.er.fr) := by simp [Function.comp_def, getTW_er]

end Go.AM
