/- Leaves, placements, orders of faces, jobs; the law. -/
import Derived.Test.YtnglcmfgkcdgcaaGreatVdW4
namespace Go.Proofs.YtnglcmfgkcdgcaaGreat
open Go Go.AM
set_option linter.unusedVariables false
set_option linter.unusedSimpArgs false

abbrev zL : Lf := (⟨#[]⟩, ⟨#[]⟩, 0, zV, 0, 0, [])
def leafC (l : List Lf) (i : Nat) : Bool := leafB (l.getD i zL) && (decide (i = 0) || strLt (l.getD (i - 1) zL).1 (l.getD i zL).1)
def leavesB (l : List Lf) : Bool := decide (∀ i, i < l.length → leafC l i = true) && decide (l.length ≤ 16)

theorem elim_len {α : Type} {P : Prop} [Decidable P] {l : List α} {n : Nat} {c : Int} (hc : c = n) : Sum.elim (fun v6 : List α × Unit => some (decide ((v6.1.length : Int) ≤ c))) (fun v7 : Bool × Unit => some v7.1) (if P then .inl (l, ()) else .inr (false, ())) = some (decide P && decide (l.length ≤ n)) := by
  subst hc
  by_cases h : P
  · rw [if_pos h, decide_eq_true h]
    simp
  · rw [if_neg h, decide_eq_false h]; rfl

theorem e88 {L : Nat} (hL : 4294967296 < L) (l : List Lf) (hl : l.length ≤ 1048576) (hb : ∀ x ∈ l, x.2.2.2.2.2.2.length ≤ 1048576) : F88 L l = some (leavesB l) := by
  unfold F88
  have := iter_all (f := F88_l0 L) (fun i => (l, (i : Int), ())) l.length (leafC l) (.inl (l, ())) (.inr (false, ())) (s := (l, 0, ())) (L := L) (fun i hi => by
    simp only [F88_l0, Int.ofNat_lt, hi, decide_true, if_true, getI_getD (z := zL) hi, Option.bind_some, e139 hL _ (hb _ (getD_mem hi))]
    rw [show w64 ((i : Int) + 1) = ((i + 1 : Nat) : Int) from wrap_succ (by omega)]
    unfold leafC
    by_cases b2 : i = 0
    · subst b2
      cases leafB (l.getD 0 zL) <;> simp
    · have h1 : (i : Int) > 0 := by omega
      rw [show w64 ((i : Int) - 1) = ((i - 1 : Nat) : Int) from wrap_pred1 (by omega) (by omega), getI_getD (z := zL) (by omega)]
      by_cases h3 : strLt (l.getD (i - 1) zL).1 (l.getD i zL).1 = true <;> (try rw [Bool.not_eq_true] at h3) <;> cases leafB (l.getD i zL) <;> simp only [h3, h1, b2, decide_true, decide_false, Bool.not_true, Bool.not_false, Bool.false_eq_true, if_true, if_false, Option.bind_some, Bool.false_or, Bool.and_self, Bool.false_and, Bool.and_false, Bool.true_and]) (by simp [F88_l0]) rfl (by omega)
  rw [this]
  exact elim_len rfl

theorem e46 {L : Nat} (hL : 4294967296 < L) (l : List Lf) (hl : l.length ≤ 1048576) (hb : ∀ x ∈ l, x.2.2.2.2.2.2.length ≤ 1048576) : F46 L l = some (leavesB l) := by
  unfold F46
  have := iter_all (f := F46_l0 L) (fun i => (l, l, (l.length : Int), (i : Int), ())) l.length (leafC l) (.inl (l, ())) (.inr (false, ())) (s := (l, l, (l.length : Int), 0, ())) (L := L) (fun i hi => by
    simp only [F46_l0, Int.ofNat_lt, hi, decide_true, if_true, getI_getD (z := zL) hi, Option.bind_some, e100 hL _ (hb _ (getD_mem hi))]
    rw [show w64 ((i : Int) + 1) = ((i + 1 : Nat) : Int) from wrap_succ (by omega)]
    unfold leafC
    by_cases b2 : i = 0
    · subst b2
      cases leafB (l.getD 0 zL) <;> simp
    · have h1 : (i : Int) > 0 := by omega
      rw [show w64 ((i : Int) - 1) = ((i - 1 : Nat) : Int) from wrap_pred1 (by omega) (by omega), getI_getD (z := zL) (by omega)]
      by_cases h3 : strLt (l.getD (i - 1) zL).1 (l.getD i zL).1 = true <;> (try rw [Bool.not_eq_true] at h3) <;> cases leafB (l.getD i zL) <;> simp only [h3, h1, b2, decide_true, decide_false, Bool.not_true, Bool.not_false, Bool.false_eq_true, if_true, if_false, Option.bind_some, Bool.false_or, Bool.and_self, Bool.false_and, Bool.and_false, Bool.true_and]) (by simp [F46_l0]) rfl (by omega)
  rw [this]
  exact elim_len rfl

abbrev Pl := Int × Int × Int × Int × Int
abbrev zP : Pl := (0, 0, 0, 0, 0)
def plB (p : Pl) : Bool := inR p.1 0 23 && (inR p.2.1 0 15 && (inR p.2.2.1 0 20000 && (inR p.2.2.2.1 0 20000 && inR p.2.2.2.2 0 7)))
theorem and5 (a b c d e : Bool) : (if a = true then if b = true then if c = true then if d = true then some e else some false else some false else some false else some false) = some (a && (b && (c && (d && e)))) := by
  cases a <;> cases b <;> cases c <;> cases d <;> rfl
theorem e101 (p : Pl) : F101 p = some (plB p) := by
  unfold F101 plB
  simp only [e49, Option.bind_some, and5]
theorem e140 (p : Pl) : F140 p = some (plB p) := by
  unfold F140 plB F172
  simp only [e108, Option.bind_some, and5]

def plC (l : List Pl) (i : Nat) : Bool := plB (l.getD i zP) && (decide (i = 0) || decide ((l.getD (i - 1) zP).1 < (l.getD i zP).1))
def plsB (l : List Pl) : Bool := decide (∀ i, i < l.length → plC l i = true) && decide (l.length ≤ 24)

theorem e89 {L : Nat} (hL : 4294967296 < L) (l : List Pl) (hl : l.length ≤ 1048576) : F89 L l = some (plsB l) := by
  unfold F89
  have := iter_all (f := F89_l0 L) (fun i => (l, (i : Int), ())) l.length (plC l) (.inl (l, ())) (.inr (false, ())) (s := (l, 0, ())) (L := L) (fun i hi => by
    simp only [F89_l0, Int.ofNat_lt, hi, decide_true, if_true, getI_getD (z := zP) hi, Option.bind_some, e140]
    rw [show w64 ((i : Int) + 1) = ((i + 1 : Nat) : Int) from wrap_succ (by omega)]
    unfold plC
    by_cases b2 : i = 0
    · subst b2
      cases plB (l.getD 0 zP) <;> simp
    · have h1 : (i : Int) > 0 := by omega
      rw [show w64 ((i : Int) - 1) = ((i - 1 : Nat) : Int) from wrap_pred1 (by omega) (by omega), getI_getD (z := zP) (by omega)]
      by_cases h3 : (l.getD (i - 1) zP).1 < (l.getD i zP).1
      · have h4 : ¬ (l.getD (i - 1) zP).1 ≥ (l.getD i zP).1 := by omega
        cases plB (l.getD i zP) <;> simp only [h1, b2, h3, h4, decide_true, decide_false, Bool.not_true, Bool.not_false, Bool.false_eq_true, if_true, if_false, Option.bind_some, Bool.false_or, Bool.and_self, Bool.false_and]
      · have h4 : (l.getD (i - 1) zP).1 ≥ (l.getD i zP).1 := by omega
        cases plB (l.getD i zP) <;> simp only [h1, b2, h3, h4, decide_true, decide_false, Bool.not_true, Bool.not_false, Bool.false_eq_true, if_true, if_false, Option.bind_some, Bool.false_or, Bool.and_self, Bool.false_and, Bool.and_false]) (by simp [F89_l0]) rfl (by omega)
  rw [this]
  exact elim_len rfl

theorem e47 {L : Nat} (hL : 4294967296 < L) (l : List Pl) (hl : l.length ≤ 1048576) : F47 L l = some (plsB l) := by
  unfold F47
  have := iter_all (f := F47_l0 L) (fun i => (l, l, (l.length : Int), (i : Int), ())) l.length (plC l) (.inl (l, ())) (.inr (false, ())) (s := (l, l, (l.length : Int), 0, ())) (L := L) (fun i hi => by
    simp only [F47_l0, Int.ofNat_lt, hi, decide_true, if_true, getI_getD (z := zP) hi, Option.bind_some, e101]
    rw [show w64 ((i : Int) + 1) = ((i + 1 : Nat) : Int) from wrap_succ (by omega)]
    unfold plC
    by_cases b2 : i = 0
    · subst b2
      cases plB (l.getD 0 zP) <;> simp
    · have h1 : (i : Int) > 0 := by omega
      rw [show w64 ((i : Int) - 1) = ((i - 1 : Nat) : Int) from wrap_pred1 (by omega) (by omega), getI_getD (z := zP) (by omega)]
      by_cases h3 : (l.getD (i - 1) zP).1 < (l.getD i zP).1
      · have h4 : ¬ (l.getD (i - 1) zP).1 ≥ (l.getD i zP).1 := by omega
        cases plB (l.getD i zP) <;> simp only [h1, b2, h3, h4, decide_true, decide_false, Bool.not_true, Bool.not_false, Bool.false_eq_true, if_true, if_false, Option.bind_some, Bool.false_or, Bool.and_self, Bool.false_and]
      · have h4 : (l.getD (i - 1) zP).1 ≥ (l.getD i zP).1 := by omega
        cases plB (l.getD i zP) <;> simp only [h1, b2, h3, h4, decide_true, decide_false, Bool.not_true, Bool.not_false, Bool.false_eq_true, if_true, if_false, Option.bind_some, Bool.false_or, Bool.and_self, Bool.false_and, Bool.and_false]) (by simp [F47_l0]) rfl (by omega)
  rw [this]
  exact elim_len rfl

def fitsB (n : Nat) (l : List Pl) : Bool := decide (∀ i, i < l.length → inR (l.getD i zP).1 0 ((n : Int) - 1) = true)

theorem e90 {L : Nat} (hL : 4294967296 < L) (p : Pic) (l : List Pl) (hl : l.length ≤ 1048576) (hf : p.1.2.2.2.length ≤ 1048576) : F90 L p l = some (fitsB p.1.2.2.2.length l) := by
  unfold F90
  have := iter_all (f := F90_l0 L) (fun i => (p, l, (i : Int), ())) l.length (fun i => inR (l.getD i zP).1 0 ((p.1.2.2.2.length : Int) - 1)) (.inl ()) (.inr (false, ())) (s := (p, l, 0, ())) (L := L) (fun i hi => by
    simp only [F90_l0, Int.ofNat_lt, hi, decide_true, if_true, getI_getD (z := zP) hi, Option.bind_some, F141, e108]
    rw [show w64 ((i : Int) + 1) = ((i + 1 : Nat) : Int) from wrap_succ (by omega), show w64 ((p.1.2.2.2.length : Int) - 1) = (p.1.2.2.2.length : Int) - 1 from wrap_pred (by omega)]
    cases inR (l.getD i zP).1 0 ((p.1.2.2.2.length : Int) - 1) <;> rfl) (by simp [F90_l0]) rfl (by omega)
  rw [this]
  exact elim_all

/-- The last of placements that rise tells whether all fit. -/
theorem fits_last {n : Nat} {l : List Pl} (h : plsB l = true) : fitsB n l = decide (l.length = 0 ∨ (l.getD (l.length - 1) zP).1 < (n : Int)) := by
  unfold plsB at h
  simp only [Bool.and_eq_true, decide_eq_true_eq] at h
  obtain ⟨h, _⟩ := h
  have rise : ∀ (m i : Nat), i + m < l.length → (l.getD i zP).1 ≤ (l.getD (i + m) zP).1 := by
    intro m
    induction m with
    | zero => intro i hi; exact Int.le_refl _
    | succ m ih =>
      intro i hi
      have h1 := ih i (by omega)
      have h2 := h (i + m + 1) (by omega)
      unfold plC at h2
      simp only [Bool.and_eq_true, Bool.or_eq_true, decide_eq_true_eq] at h2
      have h3 : i + m + 1 - 1 = i + m := by omega
      rw [h3] at h2
      rw [show i + (m + 1) = i + m + 1 by omega]
      rcases h2.2 with e | e
      · omega
      · omega
  unfold fitsB
  rw [decide_eq_decide]
  constructor
  · intro hall
    by_cases h0 : l.length = 0
    · exact .inl h0
    · right
      have := inR_iff.1 (hall (l.length - 1) (by omega))
      omega
  · intro hl i hi
    rcases hl with e | e
    · omega
    · have h1 := rise (l.length - 1 - i) i (by omega)
      rw [show i + (l.length - 1 - i) = l.length - 1 by omega] at h1
      have h2 := h i hi
      unfold plC plB at h2
      simp only [Bool.and_eq_true, inR_iff] at h2
      rw [inR_iff]
      omega

abbrev Ru := Int × Int × Int × Int
def rulesB (r : Ru) : Bool := inR r.1 0 500 && (inR r.2.1 0 500 && (inR r.2.2.1 0 90 && inR r.2.2.2 0 100))
theorem e48 (r : Ru) : F48 r = some (rulesB r) := by
  unfold F48 rulesB
  simp only [e49, Option.bind_some, and4]
theorem e91 (r : Ru) : F91 r = some (rulesB r) := by
  unfold F91 rulesB
  simp only [e108, Option.bind_some, and4]

def has (l : List Int) (x : Int) : Bool := decide (∃ k, k < l.length ∧ l.getD k 0 = x)
theorem e112 {L : Nat} (hL : 4294967296 < L) (l : List Int) (x : Int) (hl : l.length ≤ 1048576) : F112 L l x = some (has l x) := by
  unfold F112
  rcases iter_any (f := F112_l0 L) (fun i => (l, x, (i : Int), ())) l.length (fun i => l.getD i 0 == x) (.inl ()) (fun i => .inr (true, ())) (s := (l, x, 0, ())) (L := L) (fun i hi => by
    simp only [F112_l0, Int.ofNat_lt, hi, decide_true, if_true, getI_getD (z := (0 : Int)) hi, Option.bind_some]
    rw [show w64 ((i : Int) + 1) = ((i + 1 : Nat) : Int) from wrap_succ (by omega)]) (by simp [F112_l0]) rfl (by omega) with ⟨h1, h2⟩ | ⟨i, h1, h2, _, h3⟩
  · rw [h1]
    have : ¬ ∃ k, k < l.length ∧ l.getD k 0 = x := by
      rintro ⟨k, hk, e⟩
      have := h2 k hk
      rw [e] at this
      simp at this
    unfold has
    rw [decide_eq_false this]
    rfl
  · rw [h3]
    unfold has
    rw [decide_eq_true ⟨i, h1, beq_iff_eq.1 h2⟩]
    rfl
theorem e102 {L : Nat} (hL : 4294967296 < L) (l : List Int) (x : Int) (hl : l.length ≤ 1048576) : F102 L l x = some (has l x) := by
  unfold F102 F153
  rcases iter_any (f := F153_l0 L) (fun i => (l, x, (l.length : Int), (i : Int), ())) l.length (fun i => x == l.getD i 0) (.inl ()) (fun i => .inr ((i : Int), ())) (s := (l, x, (l.length : Int), 0, ())) (L := L) (fun i hi => by
    simp only [F153_l0, Int.ofNat_lt, hi, decide_true, if_true, getI_getD (z := (0 : Int)) hi, Option.bind_some]
    rw [show w64 ((i : Int) + 1) = ((i + 1 : Nat) : Int) from wrap_succ (by omega)]) (by simp [F153_l0]) rfl (by omega) with ⟨h1, h2⟩ | ⟨i, h1, h2, _, h3⟩
  · rw [h1]
    have : ¬ ∃ k, k < l.length ∧ l.getD k 0 = x := by
      rintro ⟨k, hk, e⟩
      have := h2 k hk
      rw [e] at this
      simp at this
    unfold has
    rw [decide_eq_false this]
    rfl
  · rw [h3]
    unfold has
    rw [decide_eq_true ⟨i, h1, (beq_iff_eq.1 h2).symm⟩]
    simp

def ordC (n : Nat) (l : List Int) (i : Nat) : Bool := inR (l.getD i 0) 0 ((n : Int) - 1) && !has (l.take i) (l.getD i 0)
def ordB (n : Nat) (l : List Int) : Bool := decide (∀ i, i < l.length → ordC n l i = true)
theorem e95 {L : Nat} (hL : 4294967296 < L) (d : Drw) (l : List Int) (hl : l.length ≤ 1048576) (hf : d.2.2.2.length ≤ 1048576) : F95 L d l = some (ordB d.2.2.2.length l) := by
  unfold F95
  have := iter_all (f := F95_l0 L) (fun i => (d, l, (i : Int), ())) l.length (ordC d.2.2.2.length l) (.inl ()) (.inr (false, ())) (s := (d, l, 0, ())) (L := L) (fun i hi => by
    simp only [F95_l0, Int.ofNat_lt, hi, decide_true, if_true, getI_getD (z := (0 : Int)) hi, Option.bind_some, F141, e108, Int.natCast_nonneg, Int.toNat_natCast, cutL_take (Nat.le_of_lt hi),
      e112 hL (l.take i) (l.getD i 0) (by rw [List.length_take]; omega)]
    rw [show w64 ((i : Int) + 1) = ((i + 1 : Nat) : Int) from wrap_succ (by omega), show w64 ((d.2.2.2.length : Int) - 1) = (d.2.2.2.length : Int) - 1 from wrap_pred (by omega)]
    unfold ordC
    cases inR (l.getD i 0) 0 ((d.2.2.2.length : Int) - 1) <;> cases has (l.take i) (l.getD i 0) <;> rfl) (by simp [F95_l0]) rfl (by omega)
  rw [this]
  exact elim_all
theorem e50 {L : Nat} (hL : 4294967296 < L) (n : Nat) (l : List Int) (hl : l.length ≤ 1048576) (hn : n ≤ 1048576) : F50 L l (n : Int) = some (ordB n l) := by
  unfold F50
  have := iter_all (f := F50_l0 L) (fun i => (l, (n : Int), l, (l.length : Int), (i : Int), ())) l.length (ordC n l) (.inl ()) (.inr (false, ())) (s := (l, (n : Int), l, (l.length : Int), 0, ())) (L := L) (fun i hi => by
    simp only [F50_l0, Int.ofNat_lt, hi, decide_true, if_true, getI_getD (z := (0 : Int)) hi, Option.bind_some, e49, Int.natCast_nonneg, Int.toNat_natCast, cutL_take (Nat.le_of_lt hi),
      e102 hL (l.take i) (l.getD i 0) (by rw [List.length_take]; omega)]
    rw [show w64 ((i : Int) + 1) = ((i + 1 : Nat) : Int) from wrap_succ (by omega), show w64 ((n : Int) - 1) = (n : Int) - 1 from wrap_pred (by omega)]
    unfold ordC
    cases inR (l.getD i 0) 0 ((n : Int) - 1) <;> cases has (l.take i) (l.getD i 0) <;> rfl) (by simp [F50_l0]) rfl (by omega)
  rw [this]
  exact elim_all

abbrev Jb := Pic × List Lf × List Pl × Ru × Int × Int × Int × Int × List Int × List Int
def jobB (j : Jb) : Bool :=
  picB j.1 && (leavesB j.2.1 && (plsB j.2.2.1 && (fitsB j.1.1.2.2.2.length j.2.2.1 && (rulesB j.2.2.2.1 && ((inR j.2.2.2.2.1 1 1000 && inR j.2.2.2.2.2.1 0 200) && (inR j.2.2.2.2.2.2.1 0 30 && (inR j.2.2.2.2.2.2.2.1 0 200 && ordB j.1.1.2.2.2.length j.2.2.2.2.2.2.2.2.1)))))))

structure Short (j : Jb) : Prop where
  pts : j.1.1.2.2.1.length ≤ 1048576
  fcs : j.1.1.2.2.2.length ≤ 1048576
  rings : ∀ f ∈ j.1.1.2.2.2, f.2.length ≤ 1048576
  vens : j.1.2.length ≤ 1048576
  lvs : j.2.1.length ≤ 1048576
  bxs : ∀ x ∈ j.2.1, x.2.2.2.2.2.2.length ≤ 1048576
  pls : j.2.2.1.length ≤ 1048576
  ord : j.2.2.2.2.2.2.2.2.1.length ≤ 1048576

theorem e39 {L : Nat} (hL : 4294967296 < L) (j : Jb) (h : Short j) : F39 L j = some (jobB j) := by
  unfold F39 jobB F92 F93 F94
  simp only [e87 hL j.1 h.pts h.fcs h.rings h.vens, e88 hL j.2.1 h.lvs h.bxs, e89 hL j.2.2.1 h.pls, e90 hL j.1 j.2.2.1 h.pls h.fcs, e91, e108, e95 hL j.1.1 _ h.ord h.fcs, Option.bind_some]
  cases picB j.1 <;> cases leavesB j.2.1 <;> cases plsB j.2.2.1 <;> cases fitsB j.1.1.2.2.2.length j.2.2.1 <;> cases rulesB j.2.2.2.1 <;> try rfl
  cases inR j.2.2.2.2.1 1 1000 <;> cases inR j.2.2.2.2.2.1 0 200 <;> try rfl
  cases inR j.2.2.2.2.2.2.1 0 30 <;> cases inR j.2.2.2.2.2.2.2.1 0 200 <;> rfl

theorem e11 {L : Nat} (hL : 4294967296 < L) (j : Jb) (h : Short j) : F11 L j = some (jobB j) := by
  unfold F11 jobB
  simp only [e45 hL j.1 h.pts h.fcs h.rings h.vens, e46 hL j.2.1 h.lvs h.bxs, e47 hL j.2.2.1 h.pls, e48, Option.bind_some]
  by_cases a1 : picB j.1 = true
  case neg => rw [Bool.not_eq_true] at a1; simp only [a1, Bool.not_false, if_true, Bool.false_and]
  by_cases a2 : leavesB j.2.1 = true
  case neg => rw [Bool.not_eq_true] at a2; simp only [a1, a2, Bool.not_false, Bool.not_true, Bool.false_eq_true, if_false, if_true, Bool.false_and, Bool.and_false]
  by_cases a3 : plsB j.2.2.1 = true
  case neg => rw [Bool.not_eq_true] at a3; simp only [a1, a2, a3, Bool.not_false, Bool.not_true, Bool.false_eq_true, if_false, if_true, Bool.false_and, Bool.and_false]
  by_cases a4 : rulesB j.2.2.2.1 = true
  case neg => rw [Bool.not_eq_true] at a4; simp only [a1, a2, a3, a4, Bool.not_false, Bool.not_true, Bool.false_eq_true, if_false, if_true, Bool.false_and, Bool.and_false]
  have hv : j.1.2.length = j.1.1.2.2.2.length := by
    unfold picB at a1
    simp only [Bool.and_eq_true, decide_eq_true_eq] at a1
    exact a1.2.1
  have rest : ((F49 j.2.2.2.2.1 1 1000).bind fun r9 => if r9 = true then (F49 j.2.2.2.2.2.1 0 200).bind fun r10 => if r10 = true then (F49 j.2.2.2.2.2.2.1 0 30).bind fun r11 => if r11 = true then (F49 j.2.2.2.2.2.2.2.1 0 200).bind fun r12 => if r12 = true then (F50 L j.2.2.2.2.2.2.2.2.1 (j.1.2.length : Int)).bind fun r13 => some r13 else some false else some false else some false else some false) =
      some ((inR j.2.2.2.2.1 1 1000 && inR j.2.2.2.2.2.1 0 200) && (inR j.2.2.2.2.2.2.1 0 30 && (inR j.2.2.2.2.2.2.2.1 0 200 && ordB j.1.1.2.2.2.length j.2.2.2.2.2.2.2.2.1))) := by
    simp only [e49, Option.bind_some, e50 hL j.1.2.length _ h.ord h.vens]
    rw [hv]
    cases inR j.2.2.2.2.1 1 1000 <;> cases inR j.2.2.2.2.2.1 0 200 <;> try rfl
    cases inR j.2.2.2.2.2.2.1 0 30 <;> cases inR j.2.2.2.2.2.2.2.1 0 200 <;> rfl
  rw [fits_last a3]
  simp only [a1, a2, a3, a4, Bool.not_true, Bool.false_eq_true, if_false, Bool.true_and]
  by_cases h0 : j.2.2.1.length = 0
  · have h1 : ¬ (j.2.2.1.length : Int) > 0 := by omega
    simp only [h0, h1, decide_false, Bool.false_eq_true, if_false, true_or, decide_true, Bool.true_and, Option.bind_some, Sum.elim_inl]
    simp only [h0] at h1
    simp only [Int.natCast_zero, Int.lt_irrefl, gt_iff_lt, decide_false, Bool.false_eq_true, if_false, Option.bind_some, Sum.elim_inl]
    exact rest
  · have h1 : (j.2.2.1.length : Int) > 0 := by omega
    have hl := h.pls
    rw [show w64 ((j.2.2.1.length : Int) - 1) = ((j.2.2.1.length - 1 : Nat) : Int) from wrap_pred1 (by omega) (by omega), getI_getD (z := zP) (by omega)]
    simp only [h0, h1, decide_true, if_true, Option.bind_some, false_or, hv]
    by_cases h2 : (j.2.2.1.getD (j.2.2.1.length - 1) zP).1 < (j.1.1.2.2.2.length : Int)
    · have h3 : ¬ (j.2.2.1.getD (j.2.2.1.length - 1) zP).1 ≥ (j.1.1.2.2.2.length : Int) := by omega
      simp only [h2, h3, decide_false, decide_true, Bool.false_eq_true, if_false, Option.bind_some, Sum.elim_inl, Bool.true_and]
      rw [hv] at rest
      exact rest
    · have h3 : (j.2.2.1.getD (j.2.2.1.length - 1) zP).1 ≥ (j.1.1.2.2.2.length : Int) := by omega
      simp only [h2, h3, decide_false, decide_true, if_true, Option.bind_some, Sum.elim_inr, Bool.false_and]


theorem short_of {a : Ty.den (.pair (.pair (.pair (.int .i64) (.pair (.int .i64) (.pair (.lst (.pair (.int .i64) (.int .i64))) (.lst (.pair .str (.lst (.int .i64))))))) (.lst (.pair .str (.pair (.int .i64) (.int .i64))))) (.pair (.lst (.pair .str (.pair .str (.pair (.int .i64) (.pair (.pair .str (.pair (.int .i64) (.int .i64))) (.pair (.int .i64) (.pair (.int .i64) (.lst (.pair (.int .i64) (.pair (.int .i64) (.pair (.int .i64) (.int .i64)))))))))))) (.pair (.lst (.pair (.int .i64) (.pair (.int .i64) (.pair (.int .i64) (.pair (.int .i64) (.int .i64)))))) (.pair (.pair (.int .i64) (.pair (.int .i64) (.pair (.int .i64) (.int .i64)))) (.pair (.int .i64) (.pair (.int .i64) (.pair (.int .i64) (.pair (.int .i64) (.pair (.lst (.int .i64)) (.lst (.int .i64)))))))))))} (h : sm (.pair (.pair (.pair (.int .i64) (.pair (.int .i64) (.pair (.lst (.pair (.int .i64) (.int .i64))) (.lst (.pair .str (.lst (.int .i64))))))) (.lst (.pair .str (.pair (.int .i64) (.int .i64))))) (.pair (.lst (.pair .str (.pair .str (.pair (.int .i64) (.pair (.pair .str (.pair (.int .i64) (.int .i64))) (.pair (.int .i64) (.pair (.int .i64) (.lst (.pair (.int .i64) (.pair (.int .i64) (.pair (.int .i64) (.int .i64)))))))))))) (.pair (.lst (.pair (.int .i64) (.pair (.int .i64) (.pair (.int .i64) (.pair (.int .i64) (.int .i64)))))) (.pair (.pair (.int .i64) (.pair (.int .i64) (.pair (.int .i64) (.int .i64)))) (.pair (.int .i64) (.pair (.int .i64) (.pair (.int .i64) (.pair (.int .i64) (.pair (.lst (.int .i64)) (.lst (.int .i64))))))))))) a) : Short a := by
  exact ⟨h.1.1.2.2.1.1, h.1.1.2.2.2.1, fun f hf => (h.1.1.2.2.2.2 f hf).2.1, h.1.2.1, h.2.1.1, fun x hx => (h.2.1.2 x hx).2.2.2.2.2.2.1, h.2.2.1.1, h.2.2.2.2.2.2.2.2.1.1⟩

end Go.Proofs.YtnglcmfgkcdgcaaGreat
