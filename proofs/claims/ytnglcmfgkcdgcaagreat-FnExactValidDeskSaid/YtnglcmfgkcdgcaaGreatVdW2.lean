/- Polygons, drawings. -/
import Derived.Test.YtnglcmfgkcdgcaaGreatVdW1
namespace Go.Proofs.YtnglcmfgkcdgcaaGreat
open Go Go.AM
set_option linter.unusedVariables false
set_option linter.unusedSimpArgs false

theorem e146 {L : Nat} (hL : 4294967296 < L) (p : List (Int × Int)) (hp : p.length ≤ 1048576) : F146 L p = some (polyB p) := by
  unfold F146 polyB
  by_cases h1 : 3 ≤ p.length
  case neg =>
    have : (p.length : Int) < 3 := by omega
    simp [h1, this]
  have h1' : ¬ (p.length : Int) < 3 := by omega
  by_cases h2 : p.length ≤ 24
  case neg =>
    have : (p.length : Int) > 24 := by omega
    simp [h1', h2, this]
  have h2' : ¬ (p.length : Int) > 24 := by omega
  have h0 : ¬ (p.length : Int) = 0 := by omega
  simp only [h1', h2', h1, h2, decide_false, decide_true, Bool.false_eq_true, if_false, e175 hL p hp, Option.bind_some, Bool.true_and]
  by_cases h3 : pts0 p = true
  case neg => simp [h3]
  have := iter_all (f := F146_l1 L) (fun i => (p, (p.length : Int), (p.length : Int), (i : Int), ())) p.length (outerC p) (.inl (p, ())) (.inr (false, ())) (s := (p, (p.length : Int), (p.length : Int), 0, ())) (L := L) (fun i hi => by
    have hin := inner_rounds hL h2 hi (f := F146_l0 L) (s := (p, (p.length : Int), (i : Int), ((i + 2 : Nat) : Int), (p.length : Int), (i : Int), ((p.getD i (0, 0)).1, (p.getD i (0, 0)).2, ()), ((p.getD ((i + 1) % p.length) (0, 0)).1, (p.getD ((i + 1) % p.length) (0, 0)).2, ()), ()))
      (ex := .inl (p, (p.length : Int), (p.length : Int), (i : Int), ())) (bad := .inr (false, ()))
      (fun k => (p, (p.length : Int), (i : Int), k, (p.length : Int), (i : Int), ((p.getD i (0, 0)).1, (p.getD i (0, 0)).2, ()), ((p.getD ((i + 1) % p.length) (0, 0)).1, (p.getD ((i + 1) % p.length) (0, 0)).2, ()), ())) (fun k => by
        simp only [F146_l0, e177, Option.bind_some]) rfl
    simp only [F146_l1, Int.ofNat_lt, hi, decide_true, if_true, getI_getD (z := (0, 0)) hi, Option.bind_some, h0, if_false]
    rw [show w64 ((i : Int) + 1) = ((i + 1 : Nat) : Int) from wrap_succ (by omega), show w64 ((i : Int) + 2) = ((i + 2 : Nat) : Int) from by unfold w64; rw [wrap64_id (by omega) (by omega)]; simp]
    simp only [tmod_nat, getI_getD (z := (0, 0)) (Nat.mod_lt (i + 1) (show p.length > 0 by omega)), getI_getD (z := (0, 0)) (Nat.mod_lt (i + 2) (show p.length > 0 by omega)), Option.bind_some, pair_eq, e176, hin]
    unfold outerC
    by_cases a1 : (p.getD i (0, 0) == p.getD ((i + 1) % p.length) (0, 0)) = true
    · simp only [a1, if_true, Bool.not_true, Bool.false_and, Bool.false_eq_true, if_false]
    by_cases a2 : onV (p.getD i (0, 0)) (p.getD ((i + 1) % p.length) (0, 0)) (p.getD ((i + 2) % p.length) (0, 0)) = true
    · simp only [a1, a2, if_true, Bool.not_true, Bool.false_and, Bool.and_false, Bool.false_eq_true, if_false]
    by_cases a3 : onV (p.getD ((i + 1) % p.length) (0, 0)) (p.getD ((i + 2) % p.length) (0, 0)) (p.getD i (0, 0)) = true
    · simp only [a1, a2, a3, if_true, Bool.not_true, Bool.false_and, Bool.and_false, Bool.false_eq_true, if_false]
    rw [Bool.not_eq_true] at a1 a2 a3
    simp only [a1, a2, a3, Bool.not_false, Bool.true_and, Bool.false_eq_true, if_false, decide_eq_true_eq]
    split
    · simp only [Option.bind_some, Sum.elim_inl]
      rw [show w64 ((i : Int) + 1) = ((i + 1 : Nat) : Int) from wrap_succ (by omega)]
    · simp) (by simp [F146_l1]) rfl (by omega)
  rw [this]
  simp only [h3, Bool.not_true, Bool.false_eq_true, if_false, Option.bind_some, Bool.true_and]
  by_cases h4 : ∀ i, i < p.length → outerC p i = true
  · rw [if_pos h4, decide_eq_true h4]
    simp only [Sum.elim_inl, e178 hL p hp, Option.bind_some, Bool.true_and]
  · rw [if_neg h4, decide_eq_false h4]
    rfl

theorem e158 {L : Nat} (hL : 4294967296 < L) (p : List (Int × Int)) (hp : p.length ≤ 1048576) : F158 L p = some (polyB p) := by
  unfold F158 polyB
  by_cases h1 : 3 ≤ p.length
  case neg =>
    have : (p.length : Int) < 3 := by omega
    simp [h1, this]
  have h1' : ¬ (p.length : Int) < 3 := by omega
  by_cases h2 : p.length ≤ 24
  case neg =>
    have : (p.length : Int) > 24 := by omega
    simp [h1', h2, this]
  have h2' : ¬ (p.length : Int) > 24 := by omega
  have h0 : ¬ (p.length : Int) = 0 := by omega
  simp only [h1', h2', h1, h2, decide_false, decide_true, Bool.false_eq_true, if_false, Bool.true_and]
  have hpts := iter_all (f := F158_l0 L) (fun i => (p, (p.length : Int), (i : Int), ())) p.length (fun i => ptB (p.getD i (0, 0))) (.inl (p, (p.length : Int), ())) (.inr (false, ())) (s := (p, (p.length : Int), 0, ())) (L := L) (fun i hi => by
    simp only [F158_l0, Int.ofNat_lt, hi, decide_true, if_true, getI_getD (z := (0, 0)) hi, Option.bind_some, e185, w64]
    rw [wrap_succ (by omega)]
    by_cases hp : ptB (p.getD i (0, 0)) = true <;> simp only [hp, Bool.not_true, Bool.not_false, Bool.false_eq_true, if_true, if_false]) (by simp [F158_l0]) rfl (by omega)
  rw [hpts]
  unfold pts0
  by_cases h3 : ∀ i, i < p.length → ptB (p.getD i (0, 0)) = true
  case neg =>
    rw [if_neg h3, decide_eq_false h3]
    rfl
  rw [if_pos h3, decide_eq_true h3]
  have := iter_all (f := F158_l2 L) (fun i => (p, (p.length : Int), (i : Int), ())) p.length (outerC p) (.inl (p, ())) (.inr (false, ())) (s := (p, (p.length : Int), 0, ())) (L := L) (fun i hi => by
    have hin := inner_rounds hL h2 hi (f := F158_l1 L) (s := (p, (p.length : Int), (i : Int), ((i + 2 : Nat) : Int), ((p.getD i (0, 0)).1, (p.getD i (0, 0)).2, ()), ((p.getD ((i + 1) % p.length) (0, 0)).1, (p.getD ((i + 1) % p.length) (0, 0)).2, ()), ()))
      (ex := .inl (p, (p.length : Int), (i : Int), ())) (bad := .inr (false, ()))
      (fun k => (p, (p.length : Int), (i : Int), k, ((p.getD i (0, 0)).1, (p.getD i (0, 0)).2, ()), ((p.getD ((i + 1) % p.length) (0, 0)).1, (p.getD ((i + 1) % p.length) (0, 0)).2, ()), ())) (fun k => by
        simp only [F158_l1, e187, Option.bind_some]) rfl
    simp only [F158_l2, Int.ofNat_lt, hi, decide_true, if_true, getI_getD (z := (0, 0)) hi, Option.bind_some, h0, if_false]
    rw [show w64 ((i : Int) + 1) = ((i + 1 : Nat) : Int) from wrap_succ (by omega), show w64 ((i : Int) + 2) = ((i + 2 : Nat) : Int) from by unfold w64; rw [wrap64_id (by omega) (by omega)]; simp]
    simp only [tmod_nat, getI_getD (z := (0, 0)) (Nat.mod_lt (i + 1) (show p.length > 0 by omega)), getI_getD (z := (0, 0)) (Nat.mod_lt (i + 2) (show p.length > 0 by omega)), Option.bind_some, pair_eq, e186, hin]
    unfold outerC
    by_cases a1 : (p.getD i (0, 0) == p.getD ((i + 1) % p.length) (0, 0)) = true
    · simp only [a1, if_true, Bool.not_true, Bool.false_and, Bool.false_eq_true, if_false]
    by_cases a2 : onV (p.getD i (0, 0)) (p.getD ((i + 1) % p.length) (0, 0)) (p.getD ((i + 2) % p.length) (0, 0)) = true
    · simp only [a1, a2, if_true, Bool.not_true, Bool.false_and, Bool.and_false, Bool.false_eq_true, if_false]
    by_cases a3 : onV (p.getD ((i + 1) % p.length) (0, 0)) (p.getD ((i + 2) % p.length) (0, 0)) (p.getD i (0, 0)) = true
    · simp only [a1, a2, a3, if_true, Bool.not_true, Bool.false_and, Bool.and_false, Bool.false_eq_true, if_false]
    rw [Bool.not_eq_true] at a1 a2 a3
    simp only [a1, a2, a3, Bool.not_false, Bool.true_and, Bool.false_eq_true, if_false, decide_eq_true_eq]
    split
    · simp only [Option.bind_some, Sum.elim_inl]
      rw [show w64 ((i : Int) + 1) = ((i + 1 : Nat) : Int) from wrap_succ (by omega)]
    · simp) (by simp [F158_l2]) rfl (by omega)
  simp only [Option.bind_some, Sum.elim_inl, this, Bool.true_and]
  by_cases h4 : ∀ i, i < p.length → outerC p i = true
  · rw [if_pos h4, decide_eq_true h4]
    simp only [Sum.elim_inl, e188 hL p hp, Option.bind_some, Bool.true_and]
  · rw [if_neg h4, decide_eq_false h4]
    rfl

/-- A ring's polygon. -/
def ringOk (pts : List (Int × Int)) (ring : List Int) : Bool := decide (∀ i, i < ring.length → inR (ring.getD i 0) 0 ((pts.length : Int) - 1) = true)
def ringP (pts : List (Int × Int)) (ring : List Int) : List (Int × Int) := ring.map fun k => pts.getD k.toNat (0, 0)

theorem getI_inR {pts : List (Int × Int)} {k : Int} (h : inR k 0 ((pts.length : Int) - 1) = true) : getI pts k = some (pts.getD k.toNat (0, 0)) := by
  rw [inR_iff] at h
  have := getI_getD (xs := pts) (z := (0, 0)) (i := k.toNat) (by omega)
  rwa [show ((k.toNat : Nat) : Int) = k by omega] at this

theorem take_succ_map {ring : List Int} {i : Nat} (h : i < ring.length) (g : Int → Int × Int) : (ring.take (i + 1)).map g = (ring.take i).map g ++ [g (ring.getD i 0)] := by
  rw [List.take_add_one, List.map_append]
  simp [h]

theorem ring_rounds {L : Nat} (hL : 4294967296 < L) {pts : List (Int × Int)} {ring : List Int} (hr : ring.length ≤ 1048576) {α : Type} {f : α → Option (α ⊕ ((List (Int × Int) × Unit) ⊕ (List (Int × Int) × Bool × Unit)))} {s : α} (st : List (Int × Int) → Int → α)
    (hf : ∀ z k, f (st z k) = if decide (k < (ring.length : Int)) = true then ((getI ring k).bind fun y1 => if (!inR y1 0 (IntKind.wrap .i64 ((pts.length : Int) - 1))) = true then some (.inr (.inr ([], false, ()))) else (getI pts y1).bind fun y3 => (appL z [y3]).bind fun z4 => some (.inl (st z4 (IntKind.wrap .i64 (k + 1))))) else some (.inr (.inl (z, ()))))
    (hpl : pts.length ≤ 1048576) (hs : s = st [] 0) : iterS f L s = some (if ringOk pts ring = true then .inl (ringP pts ring, ()) else .inr ([], false, ())) := by
  have hw : IntKind.wrap .i64 ((pts.length : Int) - 1) = (pts.length : Int) - 1 := wrap_pred (by omega)
  have := iter_all (f := f) (fun i => st ((ring.take i).map fun k => pts.getD k.toNat (0, 0)) (i : Int)) ring.length (fun i => inR (ring.getD i 0) 0 ((pts.length : Int) - 1)) (.inl (ringP pts ring, ())) (.inr ([], false, ())) (s := s) (L := L) (fun i hi => by
    rw [hf]
    simp only [Int.ofNat_lt, hi, decide_true, if_true, getI_getD (z := (0 : Int)) hi, Option.bind_some, hw]
    by_cases h : inR (ring.getD i 0) 0 ((pts.length : Int) - 1) = true
    · simp only [h, Bool.not_true, Bool.false_eq_true, if_false, if_true, getI_inR h, Option.bind_some]
      rw [appL_ok (by simp only [List.length_map, List.length_take, List.length_cons, List.length_nil]; omega)]
      simp only [Option.bind_some]
      rw [wrap_succ (by omega), take_succ_map hi]
    · rw [Bool.not_eq_true] at h
      simp only [h, Bool.not_false, if_true, Bool.false_eq_true, if_false]) (by rw [hf]; simp [ringP]) (by rw [hs]; rfl) (by omega)
  rw [this]
  unfold ringOk
  by_cases h : ∀ i, i < ring.length → inR (ring.getD i 0) 0 ((pts.length : Int) - 1) = true
  · rw [if_pos h, if_pos (decide_eq_true h)]
  · rw [if_neg h, decide_eq_false h]
    rfl

theorem e145 {L : Nat} (hL : 4294967296 < L) (pts : List (Int × Int)) (ring : List Int) (hp : pts.length ≤ 1048576) (hr : ring.length ≤ 1048576) :
    F145 L pts ring = some (if ringOk pts ring = true then (ringP pts ring, true) else ([], false)) := by
  unfold F145
  rw [ring_rounds hL hr (f := F145_l0 L) (fun z k => (pts, z, ring, (ring.length : Int), k, ())) (fun z k => by simp only [F145_l0, e49, Option.bind_some]) hp rfl]
  by_cases h : ringOk pts ring = true <;> simp [h]

theorem e157 {L : Nat} (hL : 4294967296 < L) (d : Int × Int × (List (Int × Int)) × List (ByteArray × List Int)) (ring : List Int) (hp : d.2.2.1.length ≤ 1048576) (hr : ring.length ≤ 1048576) :
    F157 L d ring = some (if ringOk d.2.2.1 ring = true then (ringP d.2.2.1 ring, true) else ([], false)) := by
  unfold F157
  rw [ring_rounds hL hr (f := F157_l0 L) (fun z k => (d, ring, z, k, ())) (fun z k => by simp only [F157_l0, e108, Option.bind_some]; cases getI ring k <;> rfl) hp rfl]
  by_cases h : ringOk d.2.2.1 ring = true <;> simp [h]

/-- Points of a drawing. -/
def seen (ps : List (Int × Int)) (i : Nat) : Bool := decide (∃ k, k < i ∧ ps.getD k (0, 0) = ps.getD i (0, 0))
def dpC (w h : Int) (ps : List (Int × Int)) (i : Nat) : Bool := inR (ps.getD i (0, 0)).1 0 w && (inR (ps.getD i (0, 0)).2 0 h && !seen ps i)
def dpB (w h : Int) (ps : List (Int × Int)) : Bool := decide (∀ i, i < ps.length → dpC w h ps i = true)

theorem e143 {L : Nat} (hL : 4294967296 < L) (xs : List (Int × Int)) (q : Int × Int) (hx : xs.length ≤ 1048576) :
    F143 L xs q = some (decide (∃ k, k < xs.length ∧ xs.getD k (0, 0) = q)) := by
  unfold F143 F174
  rcases iter_any (f := F174_l0 L) (fun i => (xs, q, (xs.length : Int), (i : Int), ())) xs.length (fun i => q == xs.getD i (0, 0)) (.inl ()) (fun i => .inr ((i : Int), ())) (s := (xs, q, (xs.length : Int), 0, ())) (L := L) (fun i hi => by
    simp only [F174_l0, Int.ofNat_lt, hi, decide_true, if_true, getI_getD (z := (0, 0)) hi, Option.bind_some, pair_eq, w64]
    rw [wrap_succ (by omega)]) (by simp [F174_l0]) rfl (by omega) with ⟨h1, h2⟩ | ⟨i, h1, h2, _, h3⟩
  · rw [h1]
    have : ¬ ∃ k, k < xs.length ∧ xs.getD k (0, 0) = q := by
      rintro ⟨k, hk, e⟩
      have := h2 k hk
      rw [e] at this
      simp at this
    rw [decide_eq_false this]
    rfl
  · rw [h3]
    have : ∃ k, k < xs.length ∧ xs.getD k (0, 0) = q := ⟨i, h1, (beq_iff_eq.1 h2).symm⟩
    rw [decide_eq_true this]
    simp

theorem seen_take {ps : List (Int × Int)} {i : Nat} (hi : i < ps.length) : decide (∃ k, k < (ps.take i).length ∧ (ps.take i).getD k (0, 0) = ps.getD i (0, 0)) = seen ps i := by
  unfold seen
  have hl : (ps.take i).length = i := by rw [List.length_take]; omega
  rw [decide_eq_decide, hl]
  constructor
  · rintro ⟨k, hk, e⟩
    refine ⟨k, hk, ?_⟩
    rw [← e]
    simp [List.getD_eq_getElem?_getD, List.getElem?_take, hk]
  · rintro ⟨k, hk, e⟩
    refine ⟨k, hk, ?_⟩
    rw [← e]
    simp [List.getD_eq_getElem?_getD, List.getElem?_take, hk]

abbrev Drw := Int × Int × (List (Int × Int)) × List (ByteArray × List Int)

theorem e155 {L : Nat} (hL : 4294967296 < L) (d : Drw) (hp : d.2.2.1.length ≤ 1048576) : F155 L d = some (decide (d.2.2.1.length ≤ 48) && dpB d.1 d.2.1 d.2.2.1) := by
  obtain ⟨w, h, ps, fs⟩ := d
  simp only at hp ⊢
  unfold F155 dpB
  by_cases h1 : ps.length ≤ 48
  case neg =>
    have : (ps.length : Int) > 48 := by omega
    simp [h1, this]
  have h1' : ¬ (ps.length : Int) > 48 := by omega
  simp only [h1, h1', decide_true, decide_false, Bool.false_eq_true, if_false, Bool.true_and]
  have := iter_all (f := F155_l1 L) (fun i => ((w, h, ps, fs), (i : Int), ())) ps.length (dpC w h ps) (.inl ()) (.inr (false, ())) (s := ((w, h, ps, fs), 0, ())) (L := L) (fun i hi => by
    have hin := iter_any (f := F155_l0 L) (fun k => ((w, h, ps, fs), (i : Int), (k : Int), ())) i (fun k => ps.getD i (0, 0) == ps.getD k (0, 0)) (.inl ((w, h, ps, fs), (i : Int), ())) (fun k => .inr (false, ())) (s := ((w, h, ps, fs), (i : Int), 0, ())) (L := L) (fun k hk => by
      simp only [F155_l0, Int.ofNat_lt, hk, decide_true, if_true, getI_getD (z := (0, 0)) hi, getI_getD (z := (0, 0)) (Nat.lt_trans hk hi), Option.bind_some, pair_eq, w64]
      rw [wrap_succ (by omega)]) (by simp [F155_l0]) rfl (by omega)
    simp only [F155_l1, Int.ofNat_lt, hi, decide_true, if_true, getI_getD (z := (0, 0)) hi, Option.bind_some, e108]
    unfold dpC
    by_cases a1 : inR (ps.getD i (0, 0)).1 0 w = true
    case neg => rw [Bool.not_eq_true] at a1; simp only [a1, Bool.not_false, if_true, Bool.false_and, Bool.false_eq_true, if_false]
    by_cases a2 : inR (ps.getD i (0, 0)).2 0 h = true
    case neg => rw [Bool.not_eq_true] at a2; simp only [a1, a2, Bool.not_false, Bool.not_true, if_true, Bool.false_and, Bool.and_false, Bool.false_eq_true, if_false]
    simp only [a1, a2, Bool.not_true, Bool.false_eq_true, if_false, Bool.true_and]
    rcases hin with ⟨h1, h2⟩ | ⟨k, h1, h2, _, h3⟩
    · have hs : seen ps i = false := by
        unfold seen
        rw [decide_eq_false_iff_not]
        rintro ⟨k, hk, e⟩
        have := h2 k hk
        rw [e] at this
        simp at this
      rw [h1, hs]
      simp only [Option.bind_some, Sum.elim_inl, Bool.not_false, if_true]
      rw [show w64 ((i : Int) + 1) = ((i + 1 : Nat) : Int) from wrap_succ (by omega)]
    · have hs : seen ps i = true := by
        unfold seen
        rw [decide_eq_true_iff]
        exact ⟨k, h1, (beq_iff_eq.1 h2).symm⟩
      rw [h3, hs]
      simp) (by simp [F155_l1]) rfl (by omega)
  rw [this]
  exact elim_all

end Go.Proofs.YtnglcmfgkcdgcaaGreat
