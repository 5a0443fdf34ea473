/- The abstract machine: what an operation depends on; operations that change places. Nothing of the machine here. -/
import Derived.Test.YtnglcmfgkcdgcaaGreatAmA1
namespace Go.AM
open Go
set_option linter.unusedVariables false
set_option linter.unusedSimpArgs false

variable {P : Program} {call : Call} {s s' s1 s2 : St}

/-- The slots that an operand reads. -/
def rdO : Opd → List Nat
  | .t n => [n]
  | _ => []

def rdOp : Option Opd → List Nat
  | some x => rdO x
  | none => []

def rdL : List Opd → List Nat
  | [] => []
  | x :: r => rdO x ++ rdL r

/-- The slots that an operation reads. -/
def rdA : AOp → List Nat
  | .mv _ x _ | .nilc _ x | .box _ _ x _ | .un _ _ x | .conv _ _ _ x | .fad _ _ _ _ _ x | .ext _ x _ | .len _ _ x => rdO x
  | .pick _ c a b => rdO c ++ (rdO a ++ rdO b)
  | .alloc .. => []
  | .build _ _ _ parts => rdL (parts.map (·.2.2))
  | .bsl _ _ _ _ _ parts => rdL (parts.map (·.2))
  | .ld _ _ _ _ a _ => rdO a
  | .st _ _ a x _ => rdO a ++ rdO x
  | .bin _ _ _ x y | .app _ _ _ x y | .idx _ _ x y | .iad _ _ _ x y | .mks _ _ _ _ x y _ => rdO x ++ rdO y
  | .slc _ _ _ _ x lo hi mx => rdO x ++ (rdOp lo ++ (rdOp hi ++ rdOp mx))
  | .call _ _ args _ | .mnx _ _ args | .mkf _ _ args => rdL args
  | .callv _ x args _ => rdO x ++ rdL args

theorem getO_congr {f f' : Nat → DV} {x : Opd} (h : ∀ n ∈ rdO x, f n = f' n) : getO f x = getO f' x := by
  cases x <;> simp_all [getO, rdO]

theorem getW_congr {f f' : Nat → DV} {x : Opd} (h : ∀ n ∈ rdO x, f n = f' n) : getW f x = getW f' x := by
  cases x <;> simp_all [getW, rdO]

theorem getWs_congr {f f' : Nat → DV} : ∀ {xs : List Opd}, (∀ n ∈ rdL xs, f n = f' n) → xs.map (getW f) = xs.map (getW f')
  | [], _ => rfl
  | x :: r, h => by
    simp only [List.map_cons]
    rw [getW_congr (f' := f') (fun n hn => h n (by simp [rdL, hn])), getWs_congr (f' := f') (fun n hn => h n (by simp [rdL, hn]))]

theorem optN_congr {f f' : Nat → DV} {d : Nat} {x : Option Opd} (h : ∀ n ∈ rdOp x, f n = f' n) : optN f d x = optN f' d x := by
  cases x with
  | none => rfl
  | some x => simp only [optN]; rw [getO_congr (f' := f') h]

theorem fillParts_congr {f f' : Nat → DV} : ∀ {ps : List (Nat × Nat × Opd)} {cells : List DV}, (∀ n ∈ rdL (ps.map (·.2.2)), f n = f' n) → fillParts f cells ps = fillParts f' cells ps
  | [], _, _ => rfl
  | (off, n, x) :: r, cells, h => by
    simp only [fillParts]
    rw [getW_congr (f' := f') (x := x) (fun n hn => h n (by simp [rdL, hn]))]
    split
    · exact fillParts_congr (fun n hn => h n (by simp [rdL, hn]))
    · rfl

theorem fillRows_congr {f f' : Nat → DV} {sz : Nat} : ∀ {ps : List (Nat × Opd)} {rows : Rows}, (∀ n ∈ rdL (ps.map (·.2)), f n = f' n) → fillRows f rows sz ps = fillRows f' rows sz ps
  | [], _, _ => rfl
  | (i, x) :: r, rows, h => by
    simp only [fillRows]
    rw [getW_congr (f' := f') (x := x) (fun n hn => h n (by simp [rdL, hn]))]
    split
    · exact fillRows_congr (fun n hn => h n (by simp [rdL, hn]))
    · rfl

theorem look_congr (h1 : s.lo = s'.lo) (h2 : s.gl = s'.gl) (d : DV) : look s d = look s' d := by cases d <;> simp [look, h1, h2]
theorem rowsOf_congr (h1 : s.lo = s'.lo) (h2 : s.gl = s'.gl) (d : DV) : rowsOf s d = rowsOf s' d := by cases d <;> simp [rowsOf, h1, h2]
theorem loadD_congr (h1 : s.lo = s'.lo) (h2 : s.gl = s'.gl) (n : Nat) (ag : Bool) (d : DV) : loadD s n ag d = loadD s' n ag d := by
  cases d <;> simp [loadD, look_congr h1 h2]
theorem closeC_congr (h1 : s.lo = s'.lo) (h2 : s.gl = s'.gl) : closeC s = closeC s' := by funext d; cases d <;> simp [closeC, h1, h2]
theorem closeA_congr (h1 : s.lo = s'.lo) (h2 : s.gl = s'.gl) : closeA s = closeA s' := by funext d; cases d <;> simp [closeA, closeC_congr h1 h2]
theorem doCall_congr (h1 : s.lo = s'.lo) (h2 : s.gl = s'.gl) (f : FuncId) (as : List DV) (op : Bool) : doCall call s f as op = doCall call s' f as op := by
  simp [doCall, closeA_congr h1 h2, h2]

/-- An operation depends on what it reads, and on the objects. -/
theorem stepD_congr {o : AOp} (h : ∀ n ∈ rdA o, s.fr n = s'.fr n) (h1 : s.lo = s'.lo) (h2 : s.gl = s'.gl) : stepD P call s o = stepD P call s' o := by
  cases o with
  | mv d x tr =>
    have e := getW_congr (x := x) h
    cases x <;> simp_all [stepD, rdA, rdO]
  | nilc d x => simp only [stepD, getW_congr (x := x) h]
  | pick d c a b =>
    simp only [stepD]
    rw [getO_congr (x := c) (f' := s'.fr) (fun n hn => h n (by simp [rdA, hn])), getW_congr (x := a) (f' := s'.fr) (fun n hn => h n (by simp [rdA, hn])), getW_congr (x := b) (f' := s'.fr) (fun n hn => h n (by simp [rdA, hn]))]
  | alloc => simp only [stepD]
  | box d T x m => simp only [stepD, getW_congr (x := x) h]
  | build d T z ps => simp only [stepD]; rw [fillParts_congr (f' := s'.fr) h]
  | bsl d T sz z n ps => simp only [stepD]; rw [fillRows_congr (f' := s'.fr) h]
  | ld d T n ag x tr => simp only [stepD, getO_congr (x := x) h, loadD_congr h1 h2, look_congr h1 h2]
  | st T n x y tr =>
    simp only [stepD]
    rw [getO_congr (x := x) (f' := s'.fr) (fun n hn => h n (by simp [rdA, hn])), getO_congr (x := y) (f' := s'.fr) (fun n hn => h n (by simp [rdA, hn])), getW_congr (x := y) (f' := s'.fr) (fun n hn => h n (by simp [rdA, hn])), look_congr h1 h2]
  | bin d op T x y =>
    simp only [stepD]
    rw [getW_congr (x := x) (f' := s'.fr) (fun n hn => h n (by simp [rdA, hn])), getW_congr (x := y) (f' := s'.fr) (fun n hn => h n (by simp [rdA, hn]))]
  | un d op x => simp only [stepD, getW_congr (x := x) h]
  | conv d T U x => simp only [stepD, getW_congr (x := x) h]
  | slc d T str sz x lo hi mx =>
    have e0 := getW_congr (x := x) (f' := s'.fr) (fun n hn => h n (by simp [rdA, hn]))
    have e1 := fun k => optN_congr (d := k) (x := lo) (f' := s'.fr) (fun n hn => h n (by simp [rdA, hn]))
    have e2 := fun k => optN_congr (d := k) (x := hi) (f' := s'.fr) (fun n hn => h n (by simp [rdA, hn]))
    have e3 : ∀ m, mx = some m → getO s.fr m = getO s'.fr m := fun m hm => getO_congr (fun n hn => h n (by simp [rdA, rdOp, hm, hn]))
    simp only [stepD, e0, e1, e2, rowsOf_congr h1 h2]
    cases mx with
    | none => rfl
    | some m => simp only [e3 m rfl]
  | fad d T fi off n x => simp only [stepD, getO_congr (x := x) h]
  | iad d T sz x i =>
    simp only [stepD]
    rw [getO_congr (x := x) (f' := s'.fr) (fun n hn => h n (by simp [rdA, hn])), getO_congr (x := i) (f' := s'.fr) (fun n hn => h n (by simp [rdA, hn])), h1, h2]
  | idx d T x i =>
    simp only [stepD]
    rw [getW_congr (x := x) (f' := s'.fr) (fun n hn => h n (by simp [rdA, hn])), getW_congr (x := i) (f' := s'.fr) (fun n hn => h n (by simp [rdA, hn]))]
  | ext d x i => simp only [stepD, getO_congr (x := x) h]
  | call d f args op => simp only [stepD]; rw [getWs_congr (f' := s'.fr) h, doCall_congr h1 h2]
  | callv d x args op =>
    simp only [stepD]
    rw [getW_congr (x := x) (f' := s'.fr) (fun n hn => h n (by simp [rdA, hn])), getWs_congr (f' := s'.fr) (fun n hn => h n (by simp [rdA, hn]))]
    simp only [doCall_congr h1 h2]
  | len d str x => simp only [stepD, getW_congr (x := x) h, rowsOf_congr h1 h2]
  | app d T sz x y =>
    simp only [stepD]
    rw [getO_congr (x := x) (f' := s'.fr) (fun n hn => h n (by simp [rdA, hn])), getW_congr (x := y) (f' := s'.fr) (fun n hn => h n (by simp [rdA, hn])), rowsOf_congr h1 h2]
  | mnx d mx args => simp only [stepD]; rw [getWs_congr (f' := s'.fr) h]
  | mkf d f caps => simp only [stepD]; rw [getWs_congr (f' := s'.fr) h]
  | mks d T sz z l c lo =>
    simp only [stepD]
    rw [getO_congr (x := l) (f' := s'.fr) (fun n hn => h n (by simp [rdA, hn])), getO_congr (x := c) (f' := s'.fr) (fun n hn => h n (by simp [rdA, hn]))]

theorem rowsOf_mono {d : DV} {r : Rows} (h : rowsOf s.noMem d = some r) : rowsOf s d = some r := by
  cases d <;> simp_all [rowsOf, St.noMem, Gl.empty]

theorem look_noMem (d : DV) : look s.noMem d = none := by cases d <;> simp [look, St.noMem, Gl.empty]

theorem loadD_mono {n : Nat} {ag : Bool} {d v : DV} (h : loadD s.noMem n ag d = some v) : loadD s n ag d = some v := by
  cases d <;> simp_all [loadD, look_noMem]

theorem mapO_mono {α β : Type} {f g : α → Option β} (h : ∀ x y, f x = some y → g x = some y) : ∀ {l : List α} {r : List β}, mapO f l = some r → mapO g l = some r
  | [], r, hm => hm
  | x :: l, r, hm => by
    simp only [mapO, Option.bind_eq_some_iff, Option.map_eq_some_iff] at hm ⊢
    obtain ⟨y, hy, r', hr', e⟩ := hm
    exact ⟨y, h x y hy, r', mapO_mono h hr', e⟩

theorem closeC_mono {d v : DV} (h : closeC s.noMem d = some v) : closeC s d = some v := by
  cases d <;> first | exact h | (simp [closeC, St.noMem, Gl.empty] at h)

theorem closeA_mono {d v : DV} (h : closeA s.noMem d = some v) : closeA s d = some v := by
  cases d with
  | agg cs =>
    simp only [closeA, Option.map_eq_some_iff] at h ⊢
    obtain ⟨cs', h1, h2⟩ := h
    exact ⟨cs', mapO_mono (fun _ _ => closeC_mono) h1, h2⟩
  | clo f caps =>
    simp only [closeA, Option.map_eq_some_iff] at h ⊢
    obtain ⟨cs', h1, h2⟩ := h
    exact ⟨cs', mapO_mono (fun _ _ => closeC_mono) h1, h2⟩
  | _ => simp only [closeA] at h ⊢; exact closeC_mono h

theorem doCall_mono {f : FuncId} {as : List DV} {op : Bool} {v : DV} {src : Option Nat} (h : doCall call s.noMem f as op = some (.put v src)) : doCall call s f as op = some (.put v src) := by
  unfold doCall at h ⊢
  cases op with
  | true =>
    simp only [if_true, Option.ite_none_right_eq_some, Option.bind_eq_some_iff] at h
    obtain ⟨_, r, _, _, h⟩ := h
    simp at h
  | false =>
    simp only [Bool.false_eq_true, if_false, Option.bind_eq_some_iff] at h ⊢
    obtain ⟨as', h1, h2⟩ := h
    exact ⟨as', mapO_mono (fun _ _ => closeA_mono) h1, h2⟩

/-- What an operation does with no object at hand it does with objects. -/
theorem stepD_mono {o : AOp} {v : DV} {src : Option Nat} (h : stepD P call s.noMem o = some (.put v src)) : stepD P call s o = some (.put v src) := by
  have hf : s.noMem.fr = s.fr := rfl
  cases o with
  | alloc d T z g => simp only [stepD] at h; split at h <;> simp at h
  | ld d T n ag x tr =>
    simp only [stepD, hf, look_noMem] at h ⊢
    cases tr with
    | true => simp at h
    | false =>
      simp only [Bool.false_eq_true, if_false, Option.map_eq_some_iff] at h ⊢
      obtain ⟨r, h1, h2⟩ := h
      exact ⟨r, loadD_mono h1, h2⟩
  | st T n x y tr => simp only [stepD, look_noMem] at h; simp at h
  | slc d T str sz x lo hi mx =>
    simp only [stepD, hf] at h ⊢
    cases str with
    | true => exact h
    | false =>
      simp only [Bool.false_eq_true, if_false, Option.bind_eq_some_iff] at h ⊢
      obtain ⟨r, h1, h2⟩ := h
      exact ⟨r, rowsOf_mono h1, h2⟩
  | iad d T sz x i =>
    simp only [stepD, hf, Option.bind_eq_some_iff] at h ⊢
    obtain ⟨n, h1, h2⟩ := h
    refine ⟨n, h1, ?_⟩
    split at h2
    · exact h2
    · simp [St.noMem, Gl.empty] at h2
    · simp [St.noMem, Gl.empty] at h2
    · simp at h2
  | call d f args op => exact doCall_mono h
  | callv d x args op =>
    simp only [stepD, hf] at h ⊢
    split at h
    · exact doCall_mono h
    · simp at h
  | len d str x =>
    simp only [stepD, hf] at h ⊢
    cases str with
    | true => exact h
    | false =>
      simp only [Bool.false_eq_true, if_false, Option.map_eq_some_iff] at h ⊢
      obtain ⟨r, h1, h2⟩ := h
      exact ⟨r, rowsOf_mono h1, h2⟩
  | app d T sz x y =>
    simp only [stepD, hf, Option.bind_eq_some_iff] at h ⊢
    obtain ⟨r, h1, h2⟩ := h
    exact ⟨r, rowsOf_mono h1, h2⟩
  | _ => exact h

theorem oneD_put {o : GOp} {δ : De} (h : oneD P call s o = some δ) : stepD P call s o.op = some δ := by
  unfold oneD at h
  split at h
  · simp only [Option.bind_eq_some_iff] at h
    obtain ⟨δ', h1, h2⟩ := h
    cases δ' <;> simp only [isPut, Option.some.injEq, reduceCtorEq] at h2
    subst h2
    exact stepD_mono h1
  · exact h

end Go.AM
