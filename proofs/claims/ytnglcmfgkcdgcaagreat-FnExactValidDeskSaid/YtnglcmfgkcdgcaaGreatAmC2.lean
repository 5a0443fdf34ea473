/- Abstract code out of the program's code, checked: regions, functions. -/
import Derived.Test.YtnglcmfgkcdgcaaGreatAmC1
namespace Go.AM
open Go
set_option linter.unusedVariables false
set_option linter.unusedSimpArgs false

variable {P : Program} {N : Nat} {o : Oper}

def mkG (P : Program) (N : Nat) (ops : Array Oper) (g0 : GOp) (o : Oper) : Option GOp :=
  (mkOp P N g0.op o).bind fun a => match o.guard with
    | none => some ⟨a, none, g0.pu, g0.ty⟩
    | some (i, b) => ((ops[i]?).bind (·.dst)).bind fun j => if j < N then some ⟨a, some (j, b), g0.pu, g0.ty⟩ else none

theorem mkG_ok {ops : Array Oper} {g0 g : GOp} (h : mkG P N ops g0 o = some g) : GM P N ops o g := by
  simp only [mkG, Option.bind_eq_some_iff] at h
  obtain ⟨a, h1, h2⟩ := h
  split at h2
  · rename_i hg
    simp only [Option.some.injEq] at h2
    subst h2
    exact ⟨mkOp_ok h1, hg⟩
  · rename_i i b hg
    simp only [Option.bind_eq_some_iff, Option.ite_none_right_eq_some, Option.some.injEq] at h2
    obtain ⟨j, ⟨x, hx, hd⟩, hj, rfl⟩ := h2
    exact ⟨mkOp_ok h1, hj, i, hg, by simp [hx, hd]⟩

def mkGs (P : Program) (N : Nat) (ops : Array Oper) : List GOp → List Oper → Option (List GOp)
  | [], [] => some []
  | g :: gs, o :: os => (mkG P N ops g o).bind fun g => (mkGs P N ops gs os).map fun gs => g :: gs
  | _, _ => none

theorem mkGs_ok {ops : Array Oper} : ∀ {g0s : List GOp} {os : List Oper} {gs : List GOp}, mkGs P N ops g0s os = some gs → os.length = gs.length ∧ ∀ (i : Nat) o g, os[i]? = some o → gs[i]? = some g → GM P N ops o g
  | [], [], gs, h => by simp only [mkGs, Option.some.injEq] at h; subst h; exact ⟨rfl, fun i o g ho => by simp at ho⟩
  | g0 :: g0s, o :: os, gs, h => by
    simp only [mkGs, Option.bind_eq_some_iff, Option.map_eq_some_iff] at h
    obtain ⟨g, h1, gs', h2, rfl⟩ := h
    obtain ⟨hl, hall⟩ := mkGs_ok h2
    refine ⟨by simp [hl], fun i o' g' ho hg => ?_⟩
    cases i with
    | zero =>
      simp only [List.getElem?_cons_zero, Option.some.injEq] at ho hg
      subst ho hg
      exact mkG_ok h1
    | succ i => exact hall i o' g' (by simpa using ho) (by simpa using hg)
  | [], _ :: _, gs, h => by simp [mkGs] at h
  | _ :: _, [], gs, h => by simp [mkGs] at h

/-- What must come before an operation, as bits. -/
def maskE (acc : List Nat) : List Edge → Nat
  | [] => 0
  | e :: r => if Region.binds .any e then (2 ^ e.on ||| acc.getD e.on 0) ||| maskE acc r else maskE acc r

def masks : List Oper → List Nat → List Nat
  | [], acc => acc
  | o :: r, acc => masks r (acc ++ [maskE acc o.after.toList])

theorem maskE_ok {acc : List Nat} {i : Nat} : ∀ {es : List Edge}, (maskE acc es).testBit i = true → ∃ e ∈ es, Region.binds .any e = true ∧ (i = e.on ∨ (acc.getD e.on 0).testBit i = true)
  | [], h => by simp [maskE] at h
  | e :: r, h => by
    simp only [maskE] at h
    split at h
    · rename_i hb
      simp only [Nat.testBit_or, Bool.or_eq_true, Nat.testBit_two_pow, decide_eq_true_eq] at h
      rcases h with (h | h) | h
      · exact ⟨e, by simp, hb, .inl h.symm⟩
      · exact ⟨e, by simp, hb, .inr h⟩
      · obtain ⟨e', h1, h2⟩ := maskE_ok h
        exact ⟨e', by simp [h1], h2⟩
    · obtain ⟨e', h1, h2⟩ := maskE_ok h
      exact ⟨e', by simp [h1], h2⟩

theorem masks_ok {ops : Array Oper} : ∀ {os : List Oper} {acc : List Nat}, (∀ (j : Nat) o, os[j]? = some o → ops[acc.length + j]? = some o) → (∀ (j : Nat) m i, acc[j]? = some m → m.testBit i = true → Bef ops i j) →
    ∀ (j : Nat) m i, (masks os acc)[j]? = some m → m.testBit i = true → Bef ops i j
  | [], acc, _, hacc => hacc
  | o :: r, acc, hos, hacc => by
    refine masks_ok (os := r) (acc := acc ++ [maskE acc o.after.toList]) (fun j o' hj => ?_) (fun j m i hj hm => ?_)
    · have := hos (j + 1) o' (by simpa using hj)
      rw [← this, List.length_append]
      congr 1
      simp only [List.length_cons, List.length_nil]
      omega
    · rw [List.getElem?_append] at hj
      split at hj
      · exact hacc j m i hj hm
      · rename_i hlt
        have h0 : j - acc.length = 0 := by
          rcases Nat.eq_zero_or_pos (j - acc.length) with h | h
          · exact h
          · rw [List.getElem?_eq_none (by simp; omega)] at hj; simp at hj
        rw [h0] at hj
        simp only [List.getElem?_cons_zero, Option.some.injEq] at hj
        subst hj
        have hja : j = acc.length := by omega
        have ho := hos 0 o rfl
        rw [Nat.add_zero, ← hja] at ho
        obtain ⟨e, h1, h2, h3⟩ := maskE_ok hm
        have h1' : e ∈ o.after := by simpa using h1
        rcases h3 with rfl | h3
        · exact .one ho h1' h2
        · have hg : ∃ m', acc[e.on]? = some m' ∧ m'.testBit i = true := by
            rw [List.getD_eq_getElem?_getD] at h3
            cases hx : acc[e.on]? with
            | none => rw [hx] at h3; simp at h3
            | some m' => rw [hx] at h3; exact ⟨m', rfl, h3⟩
          obtain ⟨m', hm', hb⟩ := hg
          exact .more ho h1' h2 (hacc _ _ _ hm' hb)

/-- Every later element with every earlier one. -/
def pairsB {α : Type} (f : Nat → Nat → α → α → Bool) : Nat → List α → Bool
  | _, [] => true
  | n, x :: r => (r.zipIdx (n + 1)).all (fun y => f n y.2 x y.1) && pairsB f (n + 1) r

theorem pairsB_ok {α : Type} {f : Nat → Nat → α → α → Bool} : ∀ {n : Nat} {l : List α}, pairsB f n l = true → ∀ (i j : Nat) x y, i < j → l[i]? = some x → l[j]? = some y → f (n + i) (n + j) x y = true
  | n, [], _, i, j, x, y, _, hx, _ => by simp at hx
  | n, z :: r, h, i, j, x, y, hij, hx, hy => by
    simp only [pairsB, Bool.and_eq_true, List.all_eq_true] at h
    cases i with
    | zero =>
      simp only [List.getElem?_cons_zero, Option.some.injEq] at hx
      subst hx
      cases j with
      | zero => omega
      | succ j =>
        simp only [List.getElem?_cons_succ] at hy
        have := h.1 (y, n + 1 + j) (by
          refine List.mem_of_getElem? (i := j) ?_
          rw [List.getElem?_zipIdx, hy]
          rfl)
        simpa [Nat.add_assoc, Nat.add_comm 1 j] using this
    | succ i =>
      cases j with
      | zero => omega
      | succ j =>
        simp only [List.getElem?_cons_succ] at hx hy
        have := pairsB_ok h.2 i j x y (by omega) hx hy
        rw [show n + (i + 1) = n + 1 + i by omega, show n + (j + 1) = n + 1 + j by omega]
        exact this

def drawB (ops : Array Oper) (gs : List GOp) : Bool :=
  ops.toList.zipIdx.all (fun o => o.1.after.toList.all fun e => !Region.binds .any e || decide (e.on < o.2)) &&
  (let ms := masks ops.toList []
   pairsB (fun i j x y => ((ms.getD j 0).testBit i || apartG x y) && (match locOf x.op, locOf y.op with | some a, some b => a != b | _, _ => true)) 0 gs)

theorem drawB_ok {ops : Array Oper} {gs : List GOp} (h : drawB ops gs = true) : DrawM ops gs := by
  simp only [drawB, Bool.and_eq_true, List.all_eq_true, Bool.or_eq_true, Bool.not_eq_true', decide_eq_true_eq] at h
  obtain ⟨h1, h2⟩ := h
  have hp := fun i j x y hij hx hy => pairsB_ok h2 i j x y hij hx hy
  simp only [Nat.zero_add, Bool.and_eq_true, Bool.or_eq_true] at hp
  refine ⟨fun j o e ho he hb => ?_, fun i j x y hij hx hy => ?_, fun i j x y d hx hy hdx hdy => ?_⟩
  · have := h1 (o, j) (by
      refine List.mem_of_getElem? (i := j) ?_
      rw [List.getElem?_zipIdx]
      simp [ho]) e (by simpa using he)
    rcases this with h | h
    · rw [hb] at h; simp at h
    · exact h
  · rcases (hp i j x y hij hx hy).1 with hm | hm
    · refine .inl ?_
      rw [List.getD_eq_getElem?_getD] at hm
      cases hx' : (masks ops.toList [])[j]? with
      | none => rw [hx'] at hm; simp at hm
      | some m =>
        rw [hx'] at hm
        exact masks_ok (ops := ops) (os := ops.toList) (acc := []) (fun j o ho => by simpa using ho) (fun j m i hj => by simp at hj) j m i hx' hm
    · exact .inr hm
  · rcases Nat.lt_trichotomy i j with h | h | h
    · have := (hp i j x y h hx hy).2
      rw [hdx, hdy] at this
      simp at this
    · exact h
    · have := (hp j i y x h hy hx).2
      rw [hdx, hdy] at this
      simp at this

/-- Abstract code out of the program's; the first argument tells what is left open. -/
def mkC (P : Program) (N : Nat) : AC → Code → Option AC
  | .frz l a, c => (mkC P N a c).map fun a => .frz l a
  | .skip, .skip => some .skip
  | .reg gs _, .region _ ops dr => (mkGs P N ops gs ops.toList).bind fun gs => if dr then (if P.follows .mixedOrders && drawB ops gs then some (.reg gs true) else none) else some (.reg gs false)
  | .seq a b, .seq x y => (mkC P N a x).bind fun a => (mkC P N b y).map fun b => .seq a b
  | .cond _ a b, .cond c x y => (mkOpd c).bind fun c => (mkC P N a x).bind fun a => (mkC P N b y).map fun b => .cond c a b
  | .block _ a, .block id x => (mkC P N a x).map fun a => .block id a
  | .loop H outs a, .loop x => (mkC P N a x).map fun a => .loop H outs a
  | .scope outs a, c => (mkC P N a c).map fun a => .scope outs a
  | .exit _, .exit id => some (.exit id)
  | .ret, .ret => some .ret
  | _, _ => none

theorem mkC_ok : ∀ {a0 a : AC} {c : Code}, mkC P N a0 c = some a → CM P N c a := by
  intro a0
  induction a0 with
  | frz l a ih =>
    intro a' c h
    simp only [mkC, Option.map_eq_some_iff] at h
    obtain ⟨x, h1, rfl⟩ := h
    exact .frz (ih h1)
  | skip => intro a c h; cases c <;> simp only [mkC, Option.some.injEq, reduceCtorEq] at h; subst h; exact .skip
  | reg gs dr =>
    intro a c h
    cases c <;> simp only [mkC, reduceCtorEq] at h
    rename_i id ops d
    simp only [Option.bind_eq_some_iff] at h
    obtain ⟨gs', h1, h2⟩ := h
    obtain ⟨hl, hall⟩ := mkGs_ok h1
    have hl' : ops.size = gs'.length := by simpa using hl
    have hall' : ∀ (i : Nat) o g, ops[i]? = some o → gs'[i]? = some g → GM P N ops o g := fun i o g ho hg => hall i o g (by simpa using ho) hg
    cases d with
    | true =>
      simp only [if_true, Option.ite_none_right_eq_some, Bool.and_eq_true, Option.some.injEq] at h2
      obtain ⟨⟨h3, h4⟩, rfl⟩ := h2
      exact .draw hl' hall' h3 (drawB_ok h4)
    | false =>
      simp only [Bool.false_eq_true, if_false, Option.some.injEq] at h2
      subst h2
      exact .reg hl' hall'
  | seq a b iha ihb =>
    intro a' c h
    cases c <;> simp only [mkC, reduceCtorEq] at h
    simp only [Option.bind_eq_some_iff, Option.map_eq_some_iff] at h
    obtain ⟨x, h1, y, h2, rfl⟩ := h
    exact .seq (iha h1) (ihb h2)
  | cond c0 a b iha ihb =>
    intro a' c h
    cases c <;> simp only [mkC, reduceCtorEq] at h
    simp only [Option.bind_eq_some_iff, Option.map_eq_some_iff] at h
    obtain ⟨oc, h0, x, h1, y, h2, rfl⟩ := h
    exact .cond (mkOpd_ok h0) (iha h1) (ihb h2)
  | block id a iha =>
    intro a' c h
    cases c <;> simp only [mkC, reduceCtorEq] at h
    simp only [Option.map_eq_some_iff] at h
    obtain ⟨x, h1, rfl⟩ := h
    exact .block (iha h1)
  | loop H outs a iha =>
    intro a' c h
    cases c <;> simp only [mkC, reduceCtorEq] at h
    simp only [Option.map_eq_some_iff] at h
    obtain ⟨x, h1, rfl⟩ := h
    exact .loop (iha h1)
  | scope outs a iha =>
    intro a' c h
    simp only [mkC, Option.map_eq_some_iff] at h
    obtain ⟨x, h1, rfl⟩ := h
    exact .scope (iha h1)
  | exit id => intro a c h; cases c <;> simp only [mkC, Option.some.injEq, reduceCtorEq] at h; subst h; exact .exit
  | ret => intro a c h; cases c <;> simp only [mkC, Option.some.injEq, reduceCtorEq] at h; subst h; exact .ret

def mkRV (P : Program) : ResultVar → Option RV
  | .tmp t => some (.tmp t)
  | .cell a T => (P.underlying T).bind fun dsc => (P.info? T).map fun ti => .cell a T ti.size (tyAg dsc)

theorem mkRV_ok : ∀ {xs : List ResultVar} {ys : List RV}, mapO (mkRV P) xs = some ys → RVsM P xs ys
  | [], ys, h => by simp only [mapO, Option.some.injEq] at h; subst h; trivial
  | x :: r, ys, h => by
    simp only [mapO, Option.bind_eq_some_iff, Option.map_eq_some_iff] at h
    obtain ⟨y, h1, l, h2, rfl⟩ := h
    refine ⟨?_, mkRV_ok h2⟩
    cases x with
    | tmp t => simp only [mkRV, Option.some.injEq] at h1; subst h1; rfl
    | cell a T =>
      simp only [mkRV, Option.bind_eq_some_iff, Option.map_eq_some_iff] at h1
      obtain ⟨dsc, e1, ti, e2, rfl⟩ := h1
      exact ⟨rfl, ti, dsc, e1, rfl, e2, rfl⟩

/-- An abstract function out of the program's. -/
def mkF (P : Program) (f : FuncId) (a0 : AF) : Option AF :=
  (P.funcs[f]?).bind fun fn => fn.body.bind fun c => if (fn.name == "runtime.NumGoroutine") || decide (fn.ntmps < a0.nparams) then none else
    (mkC P fn.ntmps a0.body c).bind fun b => (mapO (mkRV P) fn.results.toList).map fun rs => ⟨a0.nparams, b, rs⟩

theorem mkF_ok {f : FuncId} {a0 a : AF} (h : mkF P f a0 = some a) : FM P f a := by
  simp only [mkF, Option.bind_eq_some_iff, Option.ite_none_left_eq_some, Option.map_eq_some_iff] at h
  obtain ⟨fn, h1, c, h2, h3, b, h4, rs, h5, rfl⟩ := h
  simp only [Bool.or_eq_true, decide_eq_true_eq, not_or] at h3
  exact ⟨fn, c, h1, h2, by simpa using h3.1, by simpa using h3.2, mkRV_ok h5, mkC_ok h4⟩

end Go.AM
