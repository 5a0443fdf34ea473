/- Drawings, veneers, pictures. -/
import Derived.Test.YtnglcmfgkcdgcaaGreatVdW2
namespace Go.Proofs.YtnglcmfgkcdgcaaGreat
open Go Go.AM
set_option linter.unusedVariables false
set_option linter.unusedSimpArgs false

abbrev zF : ByteArray × List Int := (⟨#[]⟩, [])
def faceC (d : Drw) (i : Nat) : Bool :=
  nameB (d.2.2.2.getD i zF).1 && ((decide (i = 0) || strLt (d.2.2.2.getD (i - 1) zF).1 (d.2.2.2.getD i zF).1) && (ringOk d.2.2.1 (d.2.2.2.getD i zF).2 && polyB (ringP d.2.2.1 (d.2.2.2.getD i zF).2)))
def drawB (d : Drw) : Bool :=
  inR d.1 10 20000 && (inR d.2.1 10 20000 && ((decide (d.2.2.1.length ≤ 48) && dpB d.1 d.2.1 d.2.2.1) && (decide (d.2.2.2.length ≤ 24) && decide (∀ i, i < d.2.2.2.length → faceC d i = true))))

theorem getD_mem {α : Type} {xs : List α} {i : Nat} {z : α} (h : i < xs.length) : xs.getD i z ∈ xs := by
  have : xs.getD i z = xs[i] := by simp [h]
  rw [this]
  exact List.getElem_mem h

theorem wrap_pred1 {i : Nat} (h : i < 4611686018427387904) (h0 : 0 < i) : IntKind.wrap .i64 ((i : Int) - 1) = ((i - 1 : Nat) : Int) := by
  rw [wrap_pred h]
  omega

theorem e106 {L : Nat} (hL : 4294967296 < L) (d : Drw) (hp : d.2.2.1.length ≤ 1048576) (hf : d.2.2.2.length ≤ 1048576) (hr : ∀ f ∈ d.2.2.2, f.2.length ≤ 1048576) : F106 L d = some (drawB d) := by
  unfold F106 drawB
  simp only [e108, e155 hL d hp, Option.bind_some]
  by_cases a1 : inR d.1 10 20000 = true
  case neg => rw [Bool.not_eq_true] at a1; simp [a1]
  by_cases a2 : inR d.2.1 10 20000 = true
  case neg => rw [Bool.not_eq_true] at a2; simp [a1, a2]
  by_cases a3 : (decide (d.2.2.1.length ≤ 48) && dpB d.1 d.2.1 d.2.2.1) = true
  case neg => rw [Bool.not_eq_true] at a3; simp only [a1, a2, a3, Bool.not_true, Bool.not_false, if_true, Bool.false_eq_true, if_false, Bool.false_and, Bool.and_false]
  by_cases a4 : d.2.2.2.length ≤ 24
  case neg =>
    have : (d.2.2.2.length : Int) > 24 := by omega
    simp only [a1, a2, a3, a4, this, Bool.not_true, if_true, Bool.false_eq_true, if_false, decide_true, decide_false, Bool.false_and, Bool.and_false]
  have a4' : ¬ (d.2.2.2.length : Int) > 24 := by omega
  have := iter_all (f := F106_l0 L) (fun i => (d, (i : Int), ())) d.2.2.2.length (faceC d) (.inl ()) (.inr (false, ())) (s := (d, 0, ())) (L := L) (fun i hi => by
    have hri := hr _ (getD_mem (z := zF) hi)
    simp only [F106_l0, Int.ofNat_lt, hi, decide_true, if_true, getI_getD (z := zF) hi, Option.bind_some, e156 hL]
    unfold faceC
    have tail : ∀ (x : Bool), (do
        let v ← (if x = true then (some (.inl (d, (i : Int), ())) : Option ((Drw × Int × Unit) ⊕ (Bool × Unit))) else some (.inr (false, ())))
        Sum.elim (fun v9 : Drw × Int × Unit => (getI v9.1.2.2.2 v9.2.1).bind fun y11 => (F157 L v9.1 y11.2).bind fun r12 => if (!r12.2) = true then (some (.inr (.inr (false, ()))) : Option ((Drw × Int × Unit) ⊕ (Unit ⊕ (Bool × Unit)))) else (F158 L r12.1).bind fun r13 => if (!r13) = true then some (.inr (.inr (false, ()))) else some (.inl (v9.1, w64 (v9.2.1 + 1), ()))) (fun v10 : Bool × Unit => some (.inr (.inr (v10.1, ())))) v) =
        if (x && (ringOk d.2.2.1 (d.2.2.2.getD i zF).2 && polyB (ringP d.2.2.1 (d.2.2.2.getD i zF).2))) = true then some (.inl (d, ((i + 1 : Nat) : Int), ())) else some (.inr (.inr (false, ()))) := by
      intro x
      cases x with
      | false => rfl
      | true =>
        simp only [if_true, Option.bind_eq_bind, Option.bind_some, Sum.elim_inl, getI_getD (z := zF) hi, e157 hL d _ hp hri, Bool.true_and]
        by_cases b1 : ringOk d.2.2.1 (d.2.2.2.getD i zF).2 = true
        · simp only [b1, if_true, Bool.not_true, Bool.false_eq_true, if_false, e158 hL _ (show (ringP d.2.2.1 (d.2.2.2.getD i zF).2).length ≤ 1048576 by unfold ringP; rw [List.length_map]; exact hri), Option.bind_some, Bool.true_and]
          rw [show w64 ((i : Int) + 1) = ((i + 1 : Nat) : Int) from wrap_succ (by omega)]
          by_cases b2 : polyB (ringP d.2.2.1 (d.2.2.2.getD i zF).2) = true
          · simp only [b2, Bool.not_true, Bool.false_eq_true, if_false, if_true]
          · rw [Bool.not_eq_true] at b2
            simp only [b2, Bool.not_false, Bool.false_eq_true, if_false, if_true]
        · rw [Bool.not_eq_true] at b1
          simp only [b1, Bool.false_eq_true, if_false, Bool.not_false, if_true, Bool.false_and]
    have head : (if (!nameB (d.2.2.2.getD i zF).1) = true then (some (.inr (false, ())) : Option ((Drw × Int × Unit) ⊕ (Bool × Unit))) else if decide ((i : Int) > 0) = true then (getI d.2.2.2 (w64 ((i : Int) - 1))).bind fun y6 => if (!strLt y6.1 (d.2.2.2.getD i zF).1) = true then some (.inr (false, ())) else some (.inl (d, (i : Int), ())) else some (.inl (d, (i : Int), ()))) =
        if (nameB (d.2.2.2.getD i zF).1 && (decide (i = 0) || strLt (d.2.2.2.getD (i - 1) zF).1 (d.2.2.2.getD i zF).1)) = true then some (.inl (d, (i : Int), ())) else some (.inr (false, ())) := by
      by_cases b1 : nameB (d.2.2.2.getD i zF).1 = true
      case neg => rw [Bool.not_eq_true] at b1; simp only [b1, Bool.not_false, if_true, Bool.false_and, Bool.false_eq_true, if_false]
      by_cases b2 : i = 0
      · subst b2
        have : ¬ ((0 : Nat) : Int) > 0 := by omega
        simp only [b1, this, decide_false, Bool.not_true, Bool.false_eq_true, if_false, decide_true, Bool.true_or, Bool.and_self, if_true]
      · have h1 : (i : Int) > 0 := by omega
        simp only [b1, h1, decide_true, Bool.not_true, Bool.false_eq_true, if_false, if_true, b2, decide_false, Bool.false_or, Bool.true_and]
        rw [show w64 ((i : Int) - 1) = ((i - 1 : Nat) : Int) from wrap_pred1 (by omega) (by omega), getI_getD (z := zF) (by omega)]
        simp only [Option.bind_some]
        by_cases b3 : strLt (d.2.2.2.getD (i - 1) zF).1 (d.2.2.2.getD i zF).1 = true
        · simp only [b3, Bool.not_true, Bool.false_eq_true, if_false, if_true]
        · rw [Bool.not_eq_true] at b3
          simp only [b3, Bool.not_false, Bool.false_eq_true, if_false, if_true]
    rw [head]
    have := tail (nameB (d.2.2.2.getD i zF).1 && (decide (i = 0) || strLt (d.2.2.2.getD (i - 1) zF).1 (d.2.2.2.getD i zF).1))
    rw [Bool.and_assoc] at this
    exact this) (by simp [F106_l0]) rfl (by omega)
  simp only [a1, a2, a3, a4, a4', Bool.not_true, Bool.false_eq_true, if_false, decide_true, decide_false, Bool.true_and, this, Option.bind_some]
  exact elim_all

theorem e98 {L : Nat} (hL : 4294967296 < L) (d : Drw) (hp : d.2.2.1.length ≤ 1048576) (hf : d.2.2.2.length ≤ 1048576) (hr : ∀ f ∈ d.2.2.2, f.2.length ≤ 1048576) : F98 L d = some (drawB d) := by
  unfold F98 drawB
  simp only [e49, Option.bind_some]
  by_cases a1 : inR d.1 10 20000 = true
  case neg => rw [Bool.not_eq_true] at a1; simp [a1]
  by_cases a2 : inR d.2.1 10 20000 = true
  case neg => rw [Bool.not_eq_true] at a2; simp [a1, a2]
  by_cases a3 : d.2.2.1.length ≤ 48
  case neg =>
    have : (d.2.2.1.length : Int) > 48 := by omega
    simp only [a1, a2, a3, this, Bool.not_true, if_true, Bool.false_eq_true, if_false, decide_true, decide_false, Bool.false_and, Bool.and_false]
  have a3' : ¬ (d.2.2.1.length : Int) > 48 := by omega
  by_cases a4 : d.2.2.2.length ≤ 24
  case neg =>
    have : (d.2.2.2.length : Int) > 24 := by omega
    simp only [a1, a2, a3, a3', a4, this, Bool.not_true, if_true, Bool.false_eq_true, if_false, decide_true, decide_false, Bool.false_and, Bool.and_false]
  have a4' : ¬ (d.2.2.2.length : Int) > 24 := by omega
  have hpts := iter_all (f := F98_l0 L) (fun i => (d, d.2.2.1, (d.2.2.1.length : Int), (i : Int), ())) d.2.2.1.length (dpC d.1 d.2.1 d.2.2.1) (.inl (d, ())) (.inr (false, ())) (s := (d, d.2.2.1, (d.2.2.1.length : Int), 0, ())) (L := L) (fun i hi => by
    simp only [F98_l0, Int.ofNat_lt, hi, decide_true, if_true, getI_getD (z := (0, 0)) hi, Option.bind_some, e49, Int.natCast_nonneg, Int.toNat_natCast, cutL_take (Nat.le_of_lt hi),
      e143 hL (d.2.2.1.take i) (d.2.2.1.getD i (0, 0)) (by rw [List.length_take]; omega), seen_take hi]
    rw [show w64 ((i : Int) + 1) = ((i + 1 : Nat) : Int) from wrap_succ (by omega)]
    unfold dpC
    cases inR (d.2.2.1.getD i (0, 0)).1 0 d.1 <;> cases inR (d.2.2.1.getD i (0, 0)).2 0 d.2.1 <;> cases seen d.2.2.1 i <;> rfl) (by simp [F98_l0]) rfl (by omega)
  have hfs := iter_all (f := F98_l1 L) (fun i => (d, d.2.2.2, (d.2.2.2.length : Int), (i : Int), ())) d.2.2.2.length (faceC d) (.inl ()) (.inr (false, ())) (s := (d, d.2.2.2, (d.2.2.2.length : Int), 0, ())) (L := L) (fun i hi => by
    have hri := hr _ (getD_mem (z := zF) hi)
    have hpl : (ringP d.2.2.1 (d.2.2.2.getD i zF).2).length ≤ 1048576 := by unfold ringP; rw [List.length_map]; exact hri
    simp only [F98_l1, Int.ofNat_lt, hi, decide_true, if_true, getI_getD (z := zF) hi, Option.bind_some, e144 hL]
    unfold faceC
    by_cases b1 : nameB (d.2.2.2.getD i zF).1 = true
    case neg => rw [Bool.not_eq_true] at b1; simp only [b1, Bool.not_false, if_true, Bool.false_and, Bool.false_eq_true, if_false, Option.bind_some, Sum.elim_inr]
    have rest : ∀ x : Drw × List (ByteArray × List Int) × Int × Int × (ByteArray × List Int × Unit) × Unit, x = (d, d.2.2.2, (d.2.2.2.length : Int), (i : Int), ((d.2.2.2.getD i zF).1, (d.2.2.2.getD i zF).2, ()), ()) →
        ((F145 L x.1.2.2.1 x.2.2.2.2.1.2.1).bind fun r17 => if (!r17.2) = true then (some (.inr (.inr (false, ()))) : Option ((Drw × List (ByteArray × List Int) × Int × Int × Unit) ⊕ (Unit ⊕ (Bool × Unit)))) else (F146 L r17.1).bind fun r18 => if (!r18) = true then some (.inr (.inr (false, ()))) else some (.inl (x.1, x.2.1, x.2.2.1, w64 (x.2.2.2.1 + 1), ()))) =
        if (ringOk d.2.2.1 (d.2.2.2.getD i zF).2 && polyB (ringP d.2.2.1 (d.2.2.2.getD i zF).2)) = true then some (.inl (d, d.2.2.2, (d.2.2.2.length : Int), ((i + 1 : Nat) : Int), ())) else some (.inr (.inr (false, ()))) := by
      rintro x rfl
      simp only [e145 hL d.2.2.1 _ hp hri, Option.bind_some]
      rw [show w64 ((i : Int) + 1) = ((i + 1 : Nat) : Int) from wrap_succ (by omega)]
      by_cases c1 : ringOk d.2.2.1 (d.2.2.2.getD i zF).2 = true
      · simp only [c1, if_true, Bool.not_true, Bool.false_eq_true, if_false, e146 hL _ hpl, Option.bind_some, Bool.true_and]
        cases polyB (ringP d.2.2.1 (d.2.2.2.getD i zF).2) <;> rfl
      · rw [Bool.not_eq_true] at c1
        simp only [c1, Bool.false_eq_true, if_false, Bool.not_false, if_true, Bool.false_and]
    by_cases b2 : i = 0
    · subst b2
      have : ¬ ((0 : Nat) : Int) > 0 := by omega
      simp only [b1, this, decide_false, Bool.not_true, Bool.false_eq_true, if_false, decide_true, Bool.true_or, Bool.true_and, if_true, Option.bind_some, Sum.elim_inl]
      exact rest _ rfl
    · have h1 : (i : Int) > 0 := by omega
      simp only [b1, h1, decide_true, Bool.not_true, Bool.false_eq_true, if_false, if_true, b2, decide_false, Bool.false_or, Bool.true_and]
      rw [show w64 ((i : Int) - 1) = ((i - 1 : Nat) : Int) from wrap_pred1 (by omega) (by omega), getI_getD (z := zF) (by omega)]
      simp only [Option.bind_some]
      by_cases b3 : strLt (d.2.2.2.getD (i - 1) zF).1 (d.2.2.2.getD i zF).1 = true
      · simp only [b3, Bool.not_true, Bool.false_eq_true, if_false, Option.bind_some, Sum.elim_inl, Bool.true_and]
        exact rest _ rfl
      · rw [Bool.not_eq_true] at b3
        simp only [b3, Bool.not_false, Bool.false_eq_true, if_false, if_true, Bool.false_and, Option.bind_some, Sum.elim_inr]) (by simp [F98_l1]) rfl (by omega)
  simp only [a1, a2, a3, a3', a4, a4', Bool.not_true, Bool.false_eq_true, if_false, decide_true, decide_false, Bool.true_and, hpts, Option.bind_some]
  unfold dpB
  by_cases a5 : ∀ i, i < d.2.2.1.length → dpC d.1 d.2.1 d.2.2.1 i = true
  · rw [if_pos a5, decide_eq_true a5]
    simp only [Sum.elim_inl, hfs, Option.bind_some, Bool.true_and]
    exact elim_all
  · rw [if_neg a5, decide_eq_false a5]
    rfl

end Go.Proofs.YtnglcmfgkcdgcaaGreat
