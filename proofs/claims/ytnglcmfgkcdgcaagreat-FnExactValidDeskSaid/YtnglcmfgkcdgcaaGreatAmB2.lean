/- The abstract machine: no operation makes up a pointer; what is apart changes places. -/
import Derived.Test.YtnglcmfgkcdgcaaGreatAmB1
namespace Go.AM
open Go
set_option linter.unusedVariables false
set_option linter.unusedSimpArgs false

variable {P : Program} {call : Call} {s s' s1 s2 : St}

/-- Nothing points to the object of that name. -/
def NM (d : Nat) (s : St) : Prop := ∀ n, kill d (s.fr n) = s.fr n

theorem kill_wk1 (d : Nat) (v : DV) : kill d (wk1 v) = wk1 (kill d v) := by
  cases v with
  | lref => simp only [kill, wk1]; split <;> rfl
  | larr => simp only [kill, wk1]; split <;> rfl
  | clo => simp only [kill, wk1]; split <;> rfl
  | _ => rfl
theorem kill_wk (d : Nat) (v : DV) : kill d (wk v) = wk (kill d v) := by
  cases v with
  | lref => simp only [kill, wk]; split <;> rfl
  | larr => simp only [kill, wk]; split <;> rfl
  | clo => simp only [kill, wk]; split <;> rfl
  | _ => rfl

theorem kill_or (e : Nat) (v : DV) : kill e v = v ∨ kill e v = .any := by
  cases v with
  | lref s i c => by_cases h : s = e <;> simp [kill, h]
  | larr s i c => by_cases h : s = e <;> simp [kill, h]
  | clo f caps => simp only [kill]; split <;> simp
  | _ => exact .inl rfl

theorem kill_kill (d e : Nat) (v : DV) (h : kill d v = v) : kill d (kill e v) = kill e v := by
  rcases kill_or e v with h1 | h1 <;> rw [h1]
  · exact h
  · rfl

theorem kill_oneV (d : Nat) (v : Value) : kill d (oneV v) = oneV v := by unfold oneV; split <;> rfl
theorem kill_dvOf (d : Nat) (v : Value) : kill d (dvOf v) = dvOf v := by unfold dvOf; split; · rfl
                                                                         · exact kill_oneV d _

theorem NM.getO {d : Nat} (h : NM d s) (x : Opd) : kill d (getO s.fr x) = AM.getO s.fr x := by
  cases x with
  | t n => exact h n
  | k v => exact kill_dvOf d v
  | f n => rfl

theorem NM.getW {d : Nat} (h : NM d s) (x : Opd) : kill d (getW s.fr x) = AM.getW s.fr x := by
  cases x with
  | t n => show kill d (wk _) = wk _; rw [kill_wk, h n]
  | k v => exact kill_dvOf d v
  | f n => rfl

theorem kill_clo_all {d : Nat} {f : FuncId} {caps : List DV} (h : ∀ c ∈ caps, kill d c = c) : kill d (.clo f caps) = .clo f caps := by
  simp only [kill]
  rw [if_neg]
  simp only [List.any_eq_true, not_exists, not_and]
  intro c hc
  have := h c hc
  cases c with
  | lref s i c => simp only [kill] at this; simp only [beq_iff_eq]; intro e; rw [if_pos e] at this; simp at this
  | larr s i c => simp only [kill] at this; simp only [beq_iff_eq]; intro e; rw [if_pos e] at this; simp at this
  | _ => simp

theorem kill_cap {d : Nat} {c : DV} (h1 : ∀ s i k, c ≠ .lref s i k) (h2 : ∀ s i k, c ≠ .larr s i k) (h3 : ∀ f caps, c ≠ .clo f caps) : kill d c = c := by
  cases c <;> first | rfl | exact absurd rfl (h1 _ _ _) | exact absurd rfl (h2 _ _ _) | exact absurd rfl (h3 _ _)

theorem kill_clo_any {d : Nat} {f : FuncId} {caps : List DV} (h : ∀ c ∈ caps, (∀ s i k, c ≠ .lref s i k) ∧ ∀ s i k, c ≠ .larr s i k) : kill d (.clo f caps) = .clo f caps := by
  simp only [kill]
  rw [if_neg]
  simp only [List.any_eq_true, not_exists, not_and]
  intro c hc
  obtain ⟨h1, h2⟩ := h c hc
  cases c <;> first | exact absurd rfl (h1 _ _ _) | exact absurd rfl (h2 _ _ _) | simp

theorem kill_pureC {d : Nat} {c : DV} (h : pureC c = true) : kill d c = c := by
  cases c with
  | clo f caps =>
    simp only [pureC, List.all_eq_true] at h
    exact kill_clo_any fun c hc => by have := h c hc; cases c <;> simp_all
  | lref => simp [pureC] at h
  | larr => simp [pureC] at h
  | _ => rfl

theorem kill_cellC {d : Nat} {c : DV} (h : cellC c = true) : kill d c = c := by
  cases c with
  | ref => rfl
  | arr => rfl
  | _ => exact kill_pureC h

theorem kill_mkV {d : Nat} {ag : Bool} {cs : List DV} {v : DV} (h : mkV ag cs = some v) (hc : ∀ c ∈ cs, kill d c = c) : kill d v = v := by
  unfold mkV at h
  split at h
  · simp only [Option.some.injEq] at h; subst h; rfl
  · split at h
    · simp only [Option.some.injEq] at h; subst h; exact hc _ (by simp)
    · simp at h

theorem kill_loadD {d n : Nat} {ag : Bool} {p v : DV} (h : loadD s n ag p = some v) : kill d v = v := by
  have obj : ∀ (y : Rows × Nat × Nat) (row : List DV), ((row.drop y.2.2).take n).all cellC = true → mkV ag (((row.drop y.2.2).take n).map wk1) = some v → kill d v = v := by
    intro y row hall hm
    refine kill_mkV hm fun c hc => ?_
    simp only [List.mem_map] at hc
    obtain ⟨c0, hc0, rfl⟩ := hc
    rw [kill_wk1, kill_cellC (List.all_eq_true.1 hall c0 hc0)]
  cases p with
  | pim cs =>
    simp only [loadD] at h
    split at h
    · rename_i hle
      simp only [Bool.and_eq_true] at hle
      exact kill_mkV h fun c hc => kill_cellC (List.all_eq_true.1 hle.2 c hc)
    · simp at h
  | _ =>
    simp only [loadD, Option.bind_eq_some_iff] at h
    obtain ⟨y, hy, row, hrow, hs⟩ := h
    split at hs
    · rename_i hle
      simp only [Bool.and_eq_true] at hle
      exact obj y row hle.2 hs
    · simp at hs

theorem kill_scal {d : Nat} {v : Value} {r : DV} (h : scal v = some r) : kill d r = r := by
  unfold scal at h
  split at h <;> simp only [Option.some.injEq, reduceCtorEq] at h <;> subst h <;> rfl

theorem kill_bin2 {d : Nat} {op : BinOp} {T : TypeId} {a b : Value} {r : DV} (h : bin2 P op T a b = some r) : kill d r = r := by
  unfold bin2 at h
  split at h
  · simp at h
  · simp at h
  · simp only [Option.bind_eq_some_iff] at h
    obtain ⟨v, _, h⟩ := h
    split at h <;> simp only [Option.some.injEq, reduceCtorEq] at h <;> subst h <;> rfl

theorem kill_slice {d lo hi : Nat} {mx : Option Nat} {x r : DV} (hx : kill d x = x) (h : sliceRows x lo hi mx = some r) : kill d r = r := by
  unfold sliceRows at h
  split at h <;> try split at h
  all_goals first | simp at h; done | skip
  · simp only [Option.some.injEq] at h; subst h; split <;> rfl
  · simp only [Option.some.injEq] at h; subst h; rfl
  · simp only [Option.some.injEq] at h; subst h
    simp only [kill] at hx ⊢
    split at hx
    · simp at hx
    · rename_i hn; rw [if_neg hn]

theorem kill_closedR {d : Nat} {r : DV} (h : closedR r = true) : kill d r = r := by
  cases r with
  | clo f caps => exact kill_pureC (c := .clo f caps) (by simpa [closedR, closedC] using h)
  | lref => simp [closedR, closedC] at h
  | larr => simp [closedR, closedC] at h
  | _ => rfl

theorem kill_resNoLoc {d : Nat} {r : DV} (h : resNoLoc r = true) : kill d r = r := by
  cases r with
  | clo f caps =>
    simp only [resNoLoc, List.all_eq_true] at h
    exact kill_clo_any fun c hc => by have := h c hc; cases c <;> simp_all [resNoLoc1]
  | lref => simp [resNoLoc] at h
  | larr => simp [resNoLoc] at h
  | _ => rfl

theorem kill_extOK {d : Nat} {r : DV} (h : extOK r = true) : kill d r = r := by
  cases r with
  | clo f caps =>
    simp only [extOK, List.all_eq_true] at h
    exact kill_clo_any fun c hc => by have := h c hc; cases c <;> simp_all
  | lref => simp [extOK] at h
  | larr => simp [extOK] at h
  | _ => rfl

theorem kill_lref_of {d g i c j k : Nat} (h : kill d (.lref g i c) = .lref g i c) : kill d (.lref g j k) = .lref g j k := by
  simp only [kill] at h ⊢
  split at h
  · simp at h
  · rename_i hn; rw [if_neg hn]

theorem kill_larr_of {d g i c j k : Nat} (h : kill d (.larr g i c) = .larr g i c) : kill d (.lref g j k) = .lref g j k := by
  simp only [kill] at h ⊢
  split at h
  · simp at h
  · rename_i hn; rw [if_neg hn]

/-- The values that an operation yields. -/
def deV : De → Option DV
  | .put v _ => some v
  | .wr _ _ _ v => v
  | .opn v _ => some v
  | _ => none

theorem doCall_kill {d : Nat} {f : FuncId} {as : List DV} {op : Bool} {δ : De} {v : DV} (h : doCall call s f as op = some δ) (hv : deV δ = some v) : kill d v = v := by
  unfold doCall at h
  split at h
  · simp only [Option.ite_none_right_eq_some, Option.bind_eq_some_iff, Option.some.injEq] at h
    obtain ⟨_, r, _, h1, rfl⟩ := h
    simp only [deV, Option.some.injEq] at hv
    subst hv
    exact kill_resNoLoc h1
  · simp only [Option.ite_none_right_eq_some, Option.bind_eq_some_iff, Option.some.injEq, Bool.and_eq_true] at h
    obtain ⟨_, _, r, _, h1, rfl⟩ := h
    simp only [deV, Option.some.injEq] at hv
    subst hv
    exact kill_closedR h1.1

/-- No operation makes up a pointer to an object of the activation's own, but the one that makes the object. -/
theorem stepD_kill {d : Nat} {o : AOp} {δ : De} {v : DV} (hn : NM d s) (h : stepD P call s o = some δ) (hv : deV δ = some v) : kill d v = v := by
  have two : ∀ {w : DV} {src : Option Nat}, δ = .put w src → kill d w = w → kill d v = v := by
    intro w src e hk
    subst e
    simp only [deV, Option.some.injEq] at hv
    subst hv; exact hk
  cases o with
  | mv e x tr =>
    simp only [stepD] at h
    split at h
    · split at h
      · split at h
        · simp at h
        · simp only [Option.some.injEq] at h; exact two h.symm (hn _)
      · simp only [Option.some.injEq] at h; exact two h.symm (hn.getW _)
    · simp only [Option.some.injEq] at h; exact two h.symm (hn.getW _)
  | nilc e x =>
    simp only [stepD] at h
    have hx := hn.getW x
    split at h <;> first | (simp at h; done) | skip
    all_goals
      rename_i heq
      rw [heq] at hx
      simp only [Option.some.injEq] at h
      exact two h.symm hx
  | pick e c a b =>
    simp only [stepD] at h
    split at h
    · simp only [Option.some.injEq] at h
      refine two h.symm ?_
      split
      · exact hn.getW a
      · exact hn.getW b
    · simp at h
  | alloc e T z g =>
    simp only [stepD] at h
    split at h <;> simp only [Option.some.injEq] at h <;> subst h <;> simp [deV] at hv
  | box e T x m =>
    simp only [stepD] at h
    split at h
    · split at h
      · simp only [Option.some.injEq] at h; exact two h.symm rfl
      · simp at h
    · split at h
      · split at h <;> simp only [Option.some.injEq] at h <;> subst h <;> simp [deV] at hv
      · simp at h
  | build e T z ps =>
    simp only [stepD, Option.map_eq_some_iff] at h
    obtain ⟨cs, _, h⟩ := h
    exact two h.symm rfl
  | bsl e T sz z n ps =>
    simp only [stepD, Option.ite_none_right_eq_some, Option.map_eq_some_iff] at h
    obtain ⟨_, cs, _, h⟩ := h
    exact two h.symm rfl
  | ld e T n ag x tr =>
    simp only [stepD] at h
    split at h
    · simp only [Option.bind_eq_some_iff] at h
      obtain ⟨y, _, row, _, h⟩ := h
      split at h
      · split at h
        · simp at h
        · rename_i v0 _ hc
          simp only [Option.some.injEq] at h
          subst h
          simp only [deV, Option.some.injEq] at hv
          subst hv
          refine kill_cellC ?_
          simp only [not_or] at hc
          simpa using hc.2.2
      · simp at h
    · simp only [Option.map_eq_some_iff] at h
      obtain ⟨r, h1, h⟩ := h
      exact two h.symm (kill_loadD h1)
  | st T n x y tr =>
    simp only [stepD, Option.bind_eq_some_iff, Option.ite_none_right_eq_some, Option.some.injEq] at h
    obtain ⟨_, _, _, _, _, rfl⟩ := h
    simp [deV] at hv
  | bin e op T x y =>
    simp only [stepD, Option.bind_eq_some_iff, Option.map_eq_some_iff] at h
    obtain ⟨_, _, _, _, r, h1, h⟩ := h
    exact two h.symm (kill_bin2 h1)
  | un e op x =>
    simp only [stepD, Option.bind_eq_some_iff, Option.map_eq_some_iff] at h
    obtain ⟨_, _, _, _, r, h1, h⟩ := h
    exact two h.symm (kill_scal h1)
  | conv e T U x =>
    simp only [stepD, Option.bind_eq_some_iff, Option.map_eq_some_iff] at h
    obtain ⟨_, _, _, _, r, h1, h⟩ := h
    exact two h.symm (kill_scal h1)
  | slc e T str sz x lo hi mx =>
    simp only [stepD] at h
    split at h
    · split at h
      · simp only [Option.bind_eq_some_iff, Option.ite_none_right_eq_some, Option.some.injEq] at h
        obtain ⟨_, _, _, _, _, h⟩ := h
        exact two h.symm rfl
      · simp at h
    · simp only [Option.bind_eq_some_iff, Option.ite_none_left_eq_some] at h
      obtain ⟨_, _, _, _, _, _, _, h⟩ := h
      split at h
      · simp only [Option.map_eq_some_iff] at h
        obtain ⟨r, h1, h⟩ := h
        exact two h.symm (kill_slice (hn.getW x) h1)
      · simp only [Option.bind_eq_some_iff, Option.map_eq_some_iff] at h
        obtain ⟨_, _, r, h1, h⟩ := h
        exact two h.symm (kill_slice (hn.getW x) h1)
  | fad e T fi off n x =>
    simp only [stepD] at h
    have hx := hn.getO x
    split at h <;> first | (simp at h; done) | skip
    all_goals
      rename_i heq
      rw [heq] at hx
      simp only [Option.some.injEq] at h
      first | exact two h.symm (kill_lref_of hx) | exact two h.symm rfl
  | iad e T sz x i =>
    simp only [stepD, Option.bind_eq_some_iff] at h
    obtain ⟨n, _, h⟩ := h
    have hx := hn.getO x
    split at h <;> first | (simp at h; done) | skip
    all_goals
      rename_i heq
      rw [heq] at hx
      simp only [Option.ite_none_right_eq_some, Option.bind_eq_some_iff, Option.some.injEq] at h
    · obtain ⟨_, _, _, _, h⟩ := h
      exact two h.symm rfl
    · obtain ⟨_, _, _, _, _, _, h⟩ := h
      exact two h.symm rfl
    · obtain ⟨_, _, _, _, _, _, h⟩ := h
      exact two h.symm (kill_larr_of hx)
  | idx e T x i =>
    simp only [stepD, Option.bind_eq_some_iff, Option.map_eq_some_iff] at h
    obtain ⟨_, _, _, _, _, _, r, h1, h⟩ := h
    exact two h.symm (kill_scal h1)
  | ext e x i =>
    simp only [stepD] at h
    split at h
    · simp only [Option.bind_eq_some_iff, Option.ite_none_right_eq_some, Option.some.injEq] at h
      obtain ⟨c, _, h1, h⟩ := h
      exact two h.symm (by rw [kill_wk, kill_extOK h1])
    · simp at h
  | call e f args op => exact doCall_kill h hv
  | callv e x args op =>
    simp only [stepD] at h
    split at h
    · exact doCall_kill h hv
    · simp at h
  | len e str x =>
    simp only [stepD] at h
    split at h
    · split at h
      · simp only [Option.some.injEq] at h; exact two h.symm rfl
      · simp at h
    · simp only [Option.map_eq_some_iff] at h
      obtain ⟨r, _, h⟩ := h
      exact two h.symm rfl
  | app e T sz x y =>
    simp only [stepD, Option.bind_eq_some_iff] at h
    obtain ⟨_, _, h⟩ := h
    split at h
    · split at h
      · split at h
        · split at h
          · simp at h
          · simp only [Option.some.injEq] at h; exact two h.symm rfl
        · simp only [Option.some.injEq] at h; exact two h.symm rfl
      · simp at h
    · simp at h
  | mnx e mx args =>
    simp only [stepD, Option.bind_eq_some_iff, Option.map_eq_some_iff] at h
    obtain ⟨_, _, _, _, r, h1, h⟩ := h
    exact two h.symm (kill_scal h1)
  | mkf e f caps =>
    simp only [stepD, Option.ite_none_right_eq_some, Option.some.injEq] at h
    obtain ⟨_, h⟩ := h
    refine two h.symm (kill_clo_all fun c hc => ?_)
    simp only [List.mem_map] at hc
    obtain ⟨x, _, rfl⟩ := hc
    exact hn.getW x
  | mks e T sz z l c lo =>
    simp only [stepD, Option.bind_eq_some_iff, Option.ite_none_right_eq_some] at h
    obtain ⟨_, _, _, _, _, h⟩ := h
    split at h
    · simp only [Option.some.injEq] at h
      subst h; simp [deV] at hv
    · simp only [Option.some.injEq] at h
      exact two h.symm rfl

end Go.AM
