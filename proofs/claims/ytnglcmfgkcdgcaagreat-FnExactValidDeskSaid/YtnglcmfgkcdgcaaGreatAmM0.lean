/- Words on typed functions: rounds, numbers, lists. -/
import Derived.Test.YtnglcmfgkcdgcaaGreatAmT1
import GoSem.ClaimData
set_option linter.unusedVariables false
set_option linter.unusedSimpArgs false
namespace Go.AM
open Go

theorem wrap64_id {x : Int} (h1 : -9223372036854775808 ≤ x) (h2 : x ≤ 9223372036854775807) : IntKind.wrap .i64 x = x := by
  have e1 : (2 : Int) ^ IntKind.bits .i64 = 18446744073709551616 := rfl
  have e2 : (2 : Int) ^ (IntKind.bits .i64 - 1) = 9223372036854775808 := rfl
  have e3 : IntKind.signed .i64 = true := rfl
  simp only [IntKind.wrap, e1, e2, e3, Bool.true_and, decide_eq_true_eq]
  split <;> omega

theorem getI_nat {α : Type} (xs : List α) (i : Nat) : getI xs (i : Int) = xs[i]? := by
  unfold getI
  split
  · rfl
  · rename_i h
    rw [List.getElem?_eq_none]
    omega

theorem getI_lt {α : Type} {xs : List α} {i : Nat} (h : i < xs.length) : getI xs (i : Int) = some xs[i] := by
  rw [getI_nat, List.getElem?_eq_getElem h]

theorem getI_zero {α : Type} {xs : List α} (h : 0 < xs.length) : getI xs 0 = some xs[0] := getI_lt (i := 0) h

theorem byteAt_lt {s : ByteArray} {i : Nat} (h : i < s.size) : byteAt s (i : Int) = some (s[i].toNat : Int) := by
  unfold byteAt
  simp [h]

theorem mx_eq (x y : Int) : mx x y = max x y := by unfold mx; omega
theorem mn_eq (x y : Int) : mn x y = min x y := by unfold mn; omega

theorem cutL_take {α : Type} {xs : List α} {i : Nat} (h : i ≤ xs.length) : cutL xs 0 i = some (xs.take i) := by
  unfold cutL
  simp [h]

theorem appL_ok {α : Type} {xs ys : List α} (h : xs.length + ys.length ≤ 4294967296) : appL xs ys = some (xs ++ ys) := by
  unfold appL
  rw [if_pos (by simpa [roomN] using h)]

/-- Rounds: either none ends them before the n-th, or the first that does. -/
theorem iter_cases {α β : Type} {f : α → Option (α ⊕ β)} (st : Nat → α) (n : Nat) (out : Nat → Option β) (ex : β) {s : α} {L : Nat}
    (h : ∀ i, i < n → f (st i) = match out i with | none => some (.inl (st (i + 1))) | some b => some (.inr b)) (he : f (st n) = some (.inr ex)) (hs : s = st 0) (hL : n < L) :
    (iterS f L s = some ex ∧ ∀ i, i < n → out i = none) ∨ ∃ i b, i < n ∧ out i = some b ∧ (∀ j, j < i → out j = none) ∧ iterS f L s = some b := by
  subst hs
  have key : ∀ (m k L : Nat), k + m = n → m < L → (iterS f L (st k) = some ex ∧ ∀ i, k ≤ i → i < n → out i = none) ∨ ∃ i b, k ≤ i ∧ i < n ∧ out i = some b ∧ (∀ j, k ≤ j → j < i → out j = none) ∧ iterS f L (st k) = some b := by
    intro m
    induction m with
    | zero =>
      intro k L hk hL
      obtain ⟨L, rfl⟩ : ∃ l, L = l + 1 := ⟨L - 1, by omega⟩
      have : k = n := by omega
      subst this
      exact .inl ⟨by simp [iterS, he], fun i h1 h2 => by omega⟩
    | succ m ih =>
      intro k L hk hL
      obtain ⟨L, rfl⟩ : ∃ l, L = l + 1 := ⟨L - 1, by omega⟩
      have hb := h k (by omega)
      cases ho : out k with
      | some b =>
        rw [ho] at hb
        exact .inr ⟨k, b, Nat.le_refl _, by omega, ho, fun j h1 h2 => by omega, by simp [iterS, hb]⟩
      | none =>
        rw [ho] at hb
        have hstep : iterS f (L + 1) (st k) = iterS f L (st (k + 1)) := by simp [iterS, hb]
        rw [hstep]
        rcases ih (k + 1) L (by omega) (by omega) with ⟨h1, h2⟩ | ⟨i, b, h1, h2, h3, h4, h5⟩
        · refine .inl ⟨h1, fun i hi1 hi2 => ?_⟩
          rcases Nat.eq_or_lt_of_le hi1 with e | e
          · rw [← e]; exact ho
          · exact h2 i e hi2
        · refine .inr ⟨i, b, by omega, h2, h3, fun j hj1 hj2 => ?_, h5⟩
          rcases Nat.eq_or_lt_of_le hj1 with e | e
          · rw [← e]; exact ho
          · exact h4 j e hj2
  rcases key n 0 L (by omega) hL with ⟨h1, h2⟩ | ⟨i, b, h1, h2, h3, h4, h5⟩
  · exact .inl ⟨h1, fun i hi => h2 i (by omega) hi⟩
  · exact .inr ⟨i, b, h2, h3, fun j hj => h4 j (by omega) hj, h5⟩

/-- Rounds that all go on. -/
theorem iter_run {α β : Type} {f : α → Option (α ⊕ β)} (st : Nat → α) (n : Nat) (ex : β) {s : α} {L : Nat}
    (h : ∀ i, i < n → f (st i) = some (.inl (st (i + 1)))) (he : f (st n) = some (.inr ex)) (hs : s = st 0) (hL : n < L) : iterS f L s = some ex := by
  rcases iter_cases (f := f) st n (fun _ => none) ex (by simpa using h) he hs hL with ⟨h1, _⟩ | ⟨i, b, _, h2, _⟩
  · exact h1
  · simp at h2

/-- Rounds that ask the same of all. -/
theorem iter_all {α β : Type} {f : α → Option (α ⊕ β)} (st : Nat → α) (n : Nat) (p : Nat → Bool) (ex bad : β) {s : α} {L : Nat}
    (h : ∀ i, i < n → f (st i) = if p i = true then some (.inl (st (i + 1))) else some (.inr bad)) (he : f (st n) = some (.inr ex)) (hs : s = st 0) (hL : n < L) :
    iterS f L s = some (if ∀ i, i < n → p i = true then ex else bad) := by
  rcases iter_cases (f := f) st n (fun i => if p i = true then none else some bad) ex (fun i hi => by rw [h i hi]; split <;> simp_all) he hs hL with ⟨h1, h2⟩ | ⟨i, b, h1, h2, _, h3⟩
  · rw [h1, if_pos]
    intro i hi
    have := h2 i hi
    simp only [ite_eq_left_iff, reduceCtorEq, imp_false, Bool.not_eq_true, Bool.not_eq_false] at this
    exact this
  · rw [h3, if_neg]
    · split at h2
      · simp at h2
      · simp only [Option.some.injEq] at h2; rw [h2]
    · intro hall
      rw [if_pos (hall i h1)] at h2
      simp at h2

/-- Rounds that look for one. -/
theorem iter_any {α β : Type} {f : α → Option (α ⊕ β)} (st : Nat → α) (n : Nat) (p : Nat → Bool) (ex : β) (hit : Nat → β) {s : α} {L : Nat}
    (h : ∀ i, i < n → f (st i) = if p i = true then some (.inr (hit i)) else some (.inl (st (i + 1)))) (he : f (st n) = some (.inr ex)) (hs : s = st 0) (hL : n < L) :
    (iterS f L s = some ex ∧ ∀ i, i < n → p i = false) ∨ ∃ i, i < n ∧ p i = true ∧ (∀ j, j < i → p j = false) ∧ iterS f L s = some (hit i) := by
  rcases iter_cases (f := f) st n (fun i => if p i = true then some (hit i) else none) ex (fun i hi => by rw [h i hi]; split <;> simp_all) he hs hL with ⟨h1, h2⟩ | ⟨i, b, h1, h2, h3, h4⟩
  · exact .inl ⟨h1, fun i hi => by simpa using h2 i hi⟩
  · refine .inr ⟨i, h1, ?_, fun j hj => by simpa using h3 j hj, ?_⟩
    · by_cases hp : p i = true
      · exact hp
      · rw [if_neg hp] at h2; simp at h2
    · have hp : p i = true := by
        by_cases hp : p i = true
        · exact hp
        · rw [if_neg hp] at h2; simp at h2
      rw [if_pos hp] at h2
      simp only [Option.some.injEq] at h2
      rw [h4, h2]

/-- A list made anew, element by element. -/
theorem to_rounds {α : Type} {f : List α × (Nat × Nat) × Int × List α × Unit → Option ((List α × (Nat × Nat) × Int × List α × Unit) ⊕ ((Nat × Nat) × List α × Unit))} {g : α → Option α} {xs : List α} {z : α} {L : Nat}
    (hf : ∀ v, f v = (if decide (v.2.2.1 < (v.1.length : Int)) = true then ((getI v.1 v.2.2.1).bind fun y1 => ((g y1).bind fun r2 => (if 0 ≤ v.2.2.1 then (if v.2.2.1 < ((v.2.1.2 : Nat) : Int) then ((v.2.2.2.1[(v.2.1.1 + Int.toNat v.2.2.1)]?).bind fun y3 => ((v.2.2.2.1[(v.2.1.1 + Int.toNat v.2.2.1)]?).bind fun y4 => (some (.inl (v.1, (v.2.1.1, v.2.1.2), (IntKind.wrap .i64 (v.2.2.1 + 1)), (v.2.2.2.1.set (v.2.1.1 + Int.toNat v.2.2.1) r2), ()))))) else none) else none))) else (some (.inr ((v.2.1.1, v.2.1.2), v.2.2.2.1, ())))))
    (hg : ∀ x ∈ xs, g x = some x) (hn : xs.length ≤ 1048576) (hL : 4294967296 < L) :
    iterS f L (xs, (0, (Int.toNat (xs.length : Int))), 0, (List.replicate (Int.toNat (xs.length : Int)) z), ()) = some ((0, xs.length), xs, ()) := by
  refine iter_run (fun i => (xs, (0, xs.length), (i : Int), xs.take i ++ List.replicate (xs.length - i) z, ())) xs.length _ (fun i hi => ?_) ?_ (by simp) (by omega)
  · rw [hf]
    have hl : (xs.take i).length = i := by rw [List.length_take]; omega
    have hl' : (xs.take (i + 1)).length = i + 1 := by rw [List.length_take]; omega
    have h1 : (xs.take i ++ List.replicate (xs.length - i) z)[i]? = some z := by
      rw [List.getElem?_append_right (by omega), hl, List.getElem?_replicate, if_pos (by omega)]
    have h2 : (xs.take i ++ List.replicate (xs.length - i) z).set i xs[i] = xs.take (i + 1) ++ List.replicate (xs.length - (i + 1)) z := by
      refine List.ext_getElem? fun j => ?_
      rw [List.getElem?_set]
      by_cases hj : i = j
      · subst hj
        rw [if_pos rfl, if_pos (by rw [List.length_append, hl, List.length_replicate]; omega), List.getElem?_append_left (by omega), List.getElem?_take, if_pos (by omega), List.getElem?_eq_getElem hi]
      · rw [if_neg hj]
        simp only [List.getElem?_append, hl, hl', List.getElem?_take, List.getElem?_replicate]
        by_cases hlt : j < i
        · have h3 : j < i + 1 := by omega
          simp only [hlt, h3, if_true]
        · have h3 : ¬ j < i + 1 := by omega
          have h4 : (j - i < xs.length - i) = (j < xs.length) := by simp only [eq_iff_iff]; omega
          have h5 : (j - (i + 1) < xs.length - (i + 1)) = (j < xs.length) := by simp only [eq_iff_iff]; omega
          simp only [hlt, h3, if_false, h4, h5]
    simp only [getI_lt hi, hg _ (List.getElem_mem hi), Option.bind_some, Int.ofNat_lt, hi, decide_true, if_true, Int.natCast_nonneg, Int.toNat_natCast, Nat.zero_add, h1, h2]
    rw [wrap64_id (by omega) (by omega)]
    simp
  · rw [hf]
    simp

theorem to_all {α : Type} {f : List α × (Nat × Nat) × Int × List α × Unit → Option ((List α × (Nat × Nat) × Int × List α × Unit) ⊕ ((Nat × Nat) × List α × Unit))} {g : α → Option α} {xs : List α} {z : α} {L : Nat} {F : Option (List α)}
    (hF : F = (if 0 ≤ (xs.length : Int) then (if 0 ≤ (xs.length : Int) then (if (Int.toNat (xs.length : Int)) = (Int.toNat (xs.length : Int)) then (if (Int.toNat (xs.length : Int)) ≤ roomN then ((iterS f L (xs, (0, (Int.toNat (xs.length : Int))), 0, (List.replicate (Int.toNat (xs.length : Int)) z), ())).bind fun v5 => (if v5.1.1 + v5.1.2 ≤ v5.2.1.length then (if v5.1.1 + v5.1.2 ≤ v5.2.1.length then (if v5.1.1 + v5.1.2 ≤ v5.2.1.length then (some ((v5.2.1.drop v5.1.1).take v5.1.2)) else none) else none) else none)) else none) else none) else none) else none))
    (hf : ∀ v, f v = (if decide (v.2.2.1 < (v.1.length : Int)) = true then ((getI v.1 v.2.2.1).bind fun y1 => ((g y1).bind fun r2 => (if 0 ≤ v.2.2.1 then (if v.2.2.1 < ((v.2.1.2 : Nat) : Int) then ((v.2.2.2.1[(v.2.1.1 + Int.toNat v.2.2.1)]?).bind fun y3 => ((v.2.2.2.1[(v.2.1.1 + Int.toNat v.2.2.1)]?).bind fun y4 => (some (.inl (v.1, (v.2.1.1, v.2.1.2), (IntKind.wrap .i64 (v.2.2.1 + 1)), (v.2.2.2.1.set (v.2.1.1 + Int.toNat v.2.2.1) r2), ()))))) else none) else none))) else (some (.inr ((v.2.1.1, v.2.1.2), v.2.2.2.1, ())))))
    (hg : ∀ x ∈ xs, g x = some x) (hn : xs.length ≤ 1048576) (hL : 4294967296 < L) : F = some xs := by
  rw [hF, to_rounds hf hg hn hL]
  have : xs.length ≤ roomN := by simp only [roomN]; omega
  simp [this]

end Go.AM
namespace Go.AM
open Go

/-- Every list in it is short. -/
def sm : (ty : Ty) → ty.den → Prop
  | .unit, _ => True
  | .int _, _ => True
  | .bool, _ => True
  | .str, s => s.size ≤ 1048576
  | .lst t, xs => xs.length ≤ 1048576 ∧ ∀ x ∈ xs, sm t x
  | .pair a b, x => sm a x.1 ∧ sm b x.2
  | .pim t, x => sm t x
  | .clo _ t, x => sm t x

/-- What is known of what has been read. -/
def okv : (ty : Ty) → ty.den → Prop
  | .unit, _ => True
  | .int k, n => (Lit.int k n).wf = true
  | .bool, _ => True
  | .str, s => s.size ≤ maxLen
  | .lst t, xs => xs.length ≤ maxLen ∧ ∀ x ∈ xs, okv t x
  | .pair a b, x => okv a x.1 ∧ okv b x.2
  | .pim t, x => okv t x
  | .clo _ t, x => okv t x

/-- A count goes down; where it stays above, all is short. -/
def Sz (F : Option Int) (left : Int) (s : Prop) : Prop := ∃ r, F = some r ∧ r ≤ left ∧ (0 ≤ r → s)

theorem sz_ret {r : Int} {s : Prop} (h : 0 ≤ r) (hs : s) : Sz (some r) r s := ⟨r, rfl, Int.le_refl _, fun _ => hs⟩

theorem sz_bind {F : Option Int} {G : Int → Option Int} {left : Int} {s s' : Prop} (hl : -1 ≤ left) (h : Sz F left s) (k : ∀ r, 0 ≤ r → r ≤ left → s → Sz (G r) r s') :
    Sz (F.bind fun r => if decide (r < 0) = true then some (-1) else G r) left (s ∧ s') := by
  obtain ⟨r, h1, h2, h4⟩ := h
  subst h1
  by_cases hr : r < 0
  · exact ⟨-1, by simp [hr], by omega, fun h => by omega⟩
  · obtain ⟨q, k1, k2, k4⟩ := k r (by omega) h2 (h4 (by omega))
    exact ⟨q, by simp [hr, k1], by omega, fun hq => ⟨h4 (by omega), k4 hq⟩⟩

theorem sz_sub {G : Option Int} {left : Int} {n : Nat} {s : Prop} (h0 : 0 ≤ left) (hl' : left ≤ 1048576) (k : 0 ≤ left - (n : Int) → Sz G (left - n) s) :
    Sz (if decide (left - (n : Int) < 0) = true then some (-1) else G) left (n ≤ 1048576 ∧ s) := by
  by_cases h : left - (n : Int) < 0
  · exact ⟨-1, by simp [h], by omega, fun h => by omega⟩
  · obtain ⟨q, k1, k2, k4⟩ := k (by omega)
    exact ⟨q, by simp [h, k1], by omega, fun hq => ⟨by omega, k4 hq⟩⟩

theorem wrap_sub {left : Int} {n : Nat} (hl : 0 ≤ left) (hl' : left ≤ 1048576) (hn : n ≤ maxLen) : IntKind.wrap .i64 (left - (n : Int)) = left - n := by
  have hm : maxLen ≤ 9223372036854775807 := by decide
  exact wrap64_id (by omega) (by omega)

theorem Sz.mono {F : Option Int} {left left' : Int} {s s' : Prop} (h : Sz F left s) (hl : left ≤ left') (hs : s → s') : Sz F left' s' := by
  obtain ⟨r, h1, h2, h4⟩ := h
  exact ⟨r, h1, by omega, fun hr => hs (h4 hr)⟩

/-- A list's elements, one by one. -/
theorem sz_list {α : Type} {f : List α × Int × Int × Unit → Option ((List α × Int × Int × Unit) ⊕ ((Int × Unit) ⊕ (Int × Unit)))} {g : α → Int → Option Int} {P : α → Prop} {xs : List α} {left : Int} {L : Nat}
    (hf : ∀ v, f v = (if decide (v.2.2.1 < (v.1.length : Int)) = true then ((getI v.1 v.2.2.1).bind fun y1 => ((g y1 v.2.1).bind fun r2 => (if decide (r2 < 0) = true then (some (.inr (.inr ((-1), ())))) else (some (.inl (v.1, r2, (IntKind.wrap .i64 (v.2.2.1 + 1)), ())))))) else (some (.inr (.inl (v.2.1, ()))))))
    (hg : ∀ x ∈ xs, ∀ l, 0 ≤ l → l ≤ 1048576 → Sz (g x l) l (P x)) (hl : 0 ≤ left) (hl' : left ≤ 1048576) (hn : xs.length ≤ 1048576) (hL : 4294967296 < L) :
    Sz ((iterS f L (xs, left, 0, ())).bind fun v3 => (Sum.elim (fun v4 => (some v4.1)) (fun v5 => (some v5.1)) v3)) left (∀ x ∈ xs, P x) := by
  have key : ∀ (m k : Nat) (l : Int) (L : Nat), k + m = xs.length → m < L → 0 ≤ l → l ≤ left → (∀ i (h : i < xs.length), i < k → P xs[i]) →
      Sz ((iterS f L (xs, l, (k : Int), ())).bind fun v3 => (Sum.elim (fun v4 => (some v4.1)) (fun v5 => (some v5.1)) v3)) left (∀ x ∈ xs, P x) := by
    intro m
    induction m with
    | zero =>
      intro k l L hk hL h0 h1 hP
      obtain ⟨L, rfl⟩ : ∃ n, L = n + 1 := ⟨L - 1, by omega⟩
      have hk' : k = xs.length := by omega
      subst hk'
      refine ⟨l, by simp [iterS, hf], h1, fun _ x hx => ?_⟩
      obtain ⟨i, hi, rfl⟩ := List.mem_iff_getElem.1 hx
      exact hP i hi hi
    | succ m ih =>
      intro k l L hk hL h0 h1 hP
      obtain ⟨L, rfl⟩ : ∃ n, L = n + 1 := ⟨L - 1, by omega⟩
      have hi : k < xs.length := by omega
      obtain ⟨r, k1, k2, k4⟩ := hg xs[k] (List.getElem_mem hi) l h0 (by omega)
      have hb : f (xs, l, (k : Int), ()) = if decide (r < 0) = true then (some (.inr (.inr ((-1), ())))) else (some (.inl (xs, r, ((k + 1 : Nat) : Int), ()))) := by
        rw [hf]
        simp only [getI_lt hi, k1, Option.bind_some, Int.ofNat_lt, hi, decide_true, if_true]
        rw [wrap64_id (by omega) (by omega)]
        simp
      by_cases hr : r < 0
      · exact ⟨-1, by simp [iterS, hb, hr], by omega, fun h => by omega⟩
      · have := ih (k + 1) r L (by omega) (by omega) (by omega) (by omega) (fun i h hik => by
          rcases Nat.lt_succ_iff_lt_or_eq.1 hik with e | e
          · exact hP i h e
          · subst e; exact k4 (by omega))
        simp only [iterS, hb, hr, decide_false, Bool.false_eq_true, if_false, Option.bind_some, Sum.elim_inl]
        exact this
  have := key xs.length 0 left L (by omega) (by omega) hl (Int.le_refl _) (fun i h hi => by omega)
  simpa using this

/-- Lists are compared, element by element. -/
theorem eq_list {α : Type} {f : List α × List α × Int × Unit → Option ((List α × List α × Int × Unit) ⊕ ((Unit) ⊕ (Bool × Unit)))} {g : α → α → Option Bool} {xs : List α} {L : Nat}
    (hf : ∀ v, f v = (if decide (v.2.2.1 < (v.1.length : Int)) = true then ((getI v.1 v.2.2.1).bind fun y1 => ((getI v.2.1 v.2.2.1).bind fun y2 => ((g y1 y2).bind fun r3 => (if (!r3) = true then (some (.inr (.inr (false, ())))) else (some (.inl (v.1, v.2.1, (IntKind.wrap .i64 (v.2.2.1 + 1)), ()))))))) else (some (.inr (.inl ())))))
    (hg : ∀ x ∈ xs, g x x = some true) (hn : xs.length ≤ 1048576) (hL : 4294967296 < L) :
    (if ((xs.length : Int) != (xs.length : Int)) = true then (some false) else ((iterS f L (xs, xs, 0, ())).bind fun v4 => (Sum.elim (fun v5 => (some true)) (fun v6 => (some v6.1)) v4))) = some true := by
  have := iter_run (f := f) (fun i => (xs, xs, (i : Int), ())) xs.length (.inl ()) (s := (xs, xs, 0, ())) (L := L) (fun i hi => ?_) (by rw [hf]; simp) rfl (by omega)
  · simp [this]
  · rw [hf]
    simp only [getI_lt hi, hg _ (List.getElem_mem hi), Option.bind_some, Int.ofNat_lt, hi, decide_true, if_true, Bool.not_true, Bool.false_eq_true, if_false]
    rw [wrap64_id (by omega) (by omega)]
    simp

end Go.AM

namespace Go.AM
open Go

theorem toList_data (s : ByteArray) : s.toList = s.data.toList := by
  have key : ∀ (n i : Nat) (r : List UInt8), s.size - i = n → ByteArray.toList.loop s i r = r.reverse ++ s.data.toList.drop i := by
    intro n
    induction n with
    | zero =>
      intro i r h
      unfold ByteArray.toList.loop
      have : ¬ i < s.size := by omega
      rw [if_neg this, List.drop_eq_nil_of_le (by simp; show s.data.size ≤ i; have : s.size = s.data.size := rfl; omega)]
      simp
    | succ n ih =>
      intro i r h
      unfold ByteArray.toList.loop
      have hi : i < s.size := by omega
      rw [if_pos hi, ih (i+1) _ (by omega)]
      have hi' : i < s.data.toList.length := by simpa using hi
      rw [List.drop_eq_getElem_cons hi']
      simp [ByteArray.get!, hi]
  unfold ByteArray.toList
  rw [key _ 0 [] rfl]
  simp

theorem strEq_iff {a b : ByteArray} : strEq a b = true ↔ a = b := by
  unfold strEq
  rw [toList_data, toList_data, beq_iff_eq]
  constructor
  · intro h
    cases a; cases b
    simp only [ByteArray.mk.injEq]
    exact Array.toList_inj.1 h
  · intro h; rw [h]

theorem strEq_comm (a b : ByteArray) : strEq a b = strEq b a := by
  rw [Bool.eq_iff_iff, strEq_iff, strEq_iff]
  exact eq_comm

theorem strEq_empty (s : ByteArray) : strEq s (⟨#[]⟩ : ByteArray) = decide (s.size = 0) := by
  rw [Bool.eq_iff_iff, strEq_iff, decide_eq_true_iff]
  constructor
  · intro h; rw [h]; rfl
  · intro h
    cases s with
    | mk d =>
      simp only [ByteArray.mk.injEq]
      exact Array.eq_empty_of_size_eq_zero h

/-- A number in a range. -/
def inR (n lo hi : Int) : Bool := decide (lo ≤ n) && decide (n ≤ hi)

theorem inR_iff {n lo hi : Int} : inR n lo hi = true ↔ lo ≤ n ∧ n ≤ hi := by simp [inR]

/-- A byte. -/
def bt (s : ByteArray) (i : Nat) : Int := (byteAt s (i : Int)).getD 0

theorem byteAt_bt {s : ByteArray} {i : Nat} (h : i < s.size) : byteAt s (i : Int) = some (bt s i) := by
  unfold bt
  rw [byteAt_lt h]
  rfl

/-- A pair's equality, as it is computed. -/
theorem pair_eq (p q : Int × Int) : ((p.1 == q.1) && ((p.2 == q.2) && true)) = (p == q) := by
  rw [Bool.and_true]
  rfl

theorem wrap_succ {i : Nat} (h : i < 4611686018427387904) : IntKind.wrap .i64 ((i : Int) + 1) = ((i + 1 : Nat) : Int) := by
  rw [wrap64_id (by omega) (by omega)]
  simp

theorem wrap_pred {i : Nat} (h : i < 4611686018427387904) : IntKind.wrap .i64 ((i : Int) - 1) = (i : Int) - 1 := wrap64_id (by omega) (by omega)

end Go.AM
