/- Names, points, geometry: both texts say the same. -/
import Derived.Test.YtnglcmfgkcdgcaaGreatVdV
namespace Go.Proofs.YtnglcmfgkcdgcaaGreat
open Go Go.AM
set_option linter.unusedVariables false
set_option linter.unusedSimpArgs false

theorem e49 (n lo hi : Int) : F49 n lo hi = some (inR n lo hi) := by
  unfold F49 inR
  by_cases h : n ≥ lo
  · have h' : lo ≤ n := h
    simp [h']
  · have h' : ¬ lo ≤ n := h
    simp [h']
theorem e108 (n lo hi : Int) : F108 n lo hi = some (inR n lo hi) := e49 n lo hi
theorem e183 (c : Int) : F183 c = some (inR c 97 122) := e49 c 97 122
theorem e184 (c : Int) : F184 c = some (inR c 48 57) := e49 c 48 57

theorem elim_all {P : Prop} [Decidable P] {α : Type} {x : α} : Sum.elim (fun _ : α => some true) (fun v : Bool × Unit => some v.1) (if P then .inl x else .inr (false, ())) = some (decide P) := by
  by_cases h : P
  · rw [if_pos h, decide_eq_true h]; rfl
  · rw [if_neg h, decide_eq_false h]; rfl

/-- Letters and digits. -/
def nameC (c : Int) : Bool := inR c 97 122 || inR c 48 57
def nameB (s : ByteArray) : Bool := decide (1 ≤ s.size) && (decide (s.size ≤ 10) && (inR (bt s 0) 97 122 && decide (∀ i, i < s.size → nameC (bt s i) = true)))

theorem e156 {L : Nat} (hL : 4294967296 < L) (s : ByteArray) : F156 L s = some (nameB s) := by
  unfold F156 nameB
  rw [strEq_empty]
  by_cases h0 : s.size = 0
  · simp [h0]
  · have h1 : 1 ≤ s.size := by omega
    by_cases h2 : s.size > 10
    · have : ¬ s.size ≤ 10 := by omega
      have h2' : (s.size : Int) > 10 := by omega
      simp [h0, h2', this]
    · have h2' : ¬ (s.size : Int) > 10 := by omega
      have h2'' : s.size ≤ 10 := by omega
      have hb : byteAt s 0 = some (bt s 0) := byteAt_bt (i := 0) (by omega)
      simp only [h0, decide_false, Bool.false_eq_true, if_false, h2', hb, Option.bind_some, e183, h1, h2'', decide_true, Bool.true_and]
      by_cases h3 : inR (bt s 0) 97 122 = true
      · have := iter_all (f := F156_l0 L) (fun i => (s, (i : Int), ())) s.size (fun i => nameC (bt s i)) (.inl ()) (.inr (false, ())) (s := (s, 0, ())) (L := L) (fun i hi => by
          simp only [F156_l0, Int.ofNat_lt, hi, decide_true, if_true, byteAt_bt hi, Option.bind_some, e183, e184, w64]
          rw [wrap_succ (by omega)]
          unfold nameC
          by_cases ha : inR (bt s i) 97 122 = true <;> by_cases hd : inR (bt s i) 48 57 = true <;> simp [ha, hd]) (by simp [F156_l0]) rfl (by omega)
        simp only [h3, Bool.not_true, Bool.false_eq_true, if_false, this, Option.bind_some, Bool.true_and]
        exact elim_all
      · simp [h3]

theorem e144 {L : Nat} (hL : 4294967296 < L) (s : ByteArray) : F144 L s = some (nameB s) := by
  unfold F144 nameB
  by_cases h0 : s.size = 0
  · simp [h0]
  · have h1 : 1 ≤ s.size := by omega
    have h1' : ¬ (s.size : Int) < 1 := by omega
    by_cases h2 : s.size > 10
    · have : ¬ s.size ≤ 10 := by omega
      have h2' : (s.size : Int) > 10 := by omega
      simp [h1', h2', this]
    · have h2' : ¬ (s.size : Int) > 10 := by omega
      have h2'' : s.size ≤ 10 := by omega
      have hb : byteAt s 0 = some (bt s 0) := byteAt_bt (i := 0) (by omega)
      simp only [h1', decide_false, Bool.false_eq_true, if_false, h2', hb, Option.bind_some, h1, h2'', decide_true, Bool.true_and]
      have := iter_all (f := F144_l0 L) (fun i => (s, (i : Int), ())) s.size (fun i => nameC (bt s i)) (.inl ()) (.inr (false, ())) (s := (s, 0, ())) (L := L) (fun i hi => by
          simp only [F144_l0, Int.ofNat_lt, hi, decide_true, if_true, byteAt_bt hi, Option.bind_some, w64]
          rw [wrap_succ (by omega)]
          unfold nameC inR
          by_cases ha : bt s i < 97 <;> by_cases hb : bt s i > 122 <;> by_cases hc : bt s i < 48 <;> by_cases hd : bt s i > 57 <;> simp [ha, hb, hc, hd] <;> omega) (by simp [F144_l0]) rfl (by omega)
      by_cases ha : bt s 0 < 97
      · have : inR (bt s 0) 97 122 = false := by rw [Bool.eq_false_iff]; intro h; rw [inR_iff] at h; omega
        simp [ha, this]
      · by_cases hb : bt s 0 > 122
        · have : inR (bt s 0) 97 122 = false := by rw [Bool.eq_false_iff]; intro h; rw [inR_iff] at h; omega
          simp [ha, hb, this]
        · have h3 : inR (bt s 0) 97 122 = true := by rw [inR_iff]; omega
          simp only [ha, hb, decide_false, Bool.false_eq_true, if_false, this, Option.bind_some, h3, Bool.true_and]
          exact elim_all

/-- Geometry. -/
def crossV (a b c : Int × Int) : Int := w64 ((w64 ((w64 (b.1 - a.1)) * (w64 (c.2 - a.2)))) - (w64 ((w64 (b.2 - a.2)) * (w64 (c.1 - a.1)))))
def sideV (a b c : Int × Int) : Int := if crossV a b c > 0 then 1 else if crossV a b c < 0 then -1 else 0
theorem e206 (a b c : Int × Int) : F206 a b c = some (sideV a b c) := by
  unfold F206 sideV crossV
  simp only [decide_eq_true_eq]
  split
  · rfl
  · split <;> rfl
theorem e209 (a b c : Int × Int) : F209 a b c = some (sideV a b c) := by
  unfold F209 F218 sideV crossV
  simp only [decide_eq_true_eq, Option.bind_some]
  split
  · rfl
  · split <;> rfl
def onV (a b p : Int × Int) : Bool := sideV a b p == 0 && (inR p.1 (min a.1 b.1) (max a.1 b.1) && inR p.2 (min a.2 b.2) (max a.2 b.2))
theorem e176 (a b p : Int × Int) : F176 a b p = some (onV a b p) := by
  unfold F176 onV
  simp only [e206, e49, Option.bind_some, mx_eq, mn_eq]
  by_cases h : (sideV a b p == 0) = true <;> simp only [h, if_true, if_false, Bool.true_and, Bool.false_and, Bool.false_eq_true]
  by_cases h : inR p.1 (min a.1 b.1) (max a.1 b.1) = true <;> simp [h]
theorem e193 (a b : Int) : F193 a b = some (min a b) := by
  unfold F193
  by_cases h : a < b <;> simp [h] <;> omega
theorem e161 (a b : Int) : F161 a b = some (max a b) := by
  unfold F161
  by_cases h : a > b <;> simp [h] <;> omega
theorem e186 (a b p : Int × Int) : F186 a b p = some (onV a b p) := by
  unfold F186 onV
  simp only [e209, e108, e193, e161, Option.bind_some]
  by_cases h : (sideV a b p == 0) = true <;> simp only [h, if_true, if_false, Bool.true_and, Bool.false_and, Bool.false_eq_true]
  by_cases h : inR p.1 (min a.1 b.1) (max a.1 b.1) = true <;> simp [h]
def crossesV (a b c d : Int × Int) : Bool := decide (w64 (sideV a b c * sideV a b d) < 0) && decide (w64 (sideV c d a * sideV c d b) < 0)
theorem e207 (a b c d : Int × Int) : F207 a b c d = some (crossesV a b c d) := by
  unfold F207 crossesV
  simp only [e206, Option.bind_some]
  by_cases h : w64 (sideV a b c * sideV a b d) < 0 <;> simp only [h, decide_true, decide_false, if_true, if_false, Bool.true_and, Bool.false_and, Bool.false_eq_true]
theorem e210 (a b c d : Int × Int) : F210 a b c d = some (crossesV a b c d) := by
  unfold F210 crossesV
  simp only [e209, Option.bind_some]
  by_cases h : w64 (sideV a b c * sideV a b d) < 0 <;> simp only [h, decide_true, decide_false, if_true, if_false, Bool.true_and, Bool.false_and, Bool.false_eq_true]
def touchV (a b c d : Int × Int) : Bool := crossesV a b c d || (onV a b c || (onV a b d || (onV c d a || onV c d b)))
theorem touch_of (x1 x2 x3 x4 x5 : Bool) : (if x1 = true then some true else if x2 = true then some true else if x3 = true then some true else if x4 = true then some true else some x5) = some (x1 || (x2 || (x3 || (x4 || x5)))) := by
  cases x1 <;> cases x2 <;> cases x3 <;> cases x4 <;> rfl
theorem e177 (a b c d : Int × Int) : F177 a b c d = some (touchV a b c d) := by
  unfold F177 touchV
  simp only [e207, e176, Option.bind_some, touch_of]
theorem e187 (a b c d : Int × Int) : F187 a b c d = some (touchV a b c d) := by
  unfold F187 touchV
  simp only [e210, e186, Option.bind_some, touch_of]

theorem tmod_nat {a n : Nat} : Int.tmod (a : Int) (n : Int) = ((a % n : Nat) : Int) := rfl

/-- Twice an area, up to a corner. -/
def areaTo (p : List (Int × Int)) : Nat → Int
  | 0 => 0
  | i + 1 => w64 (areaTo p i + w64 (w64 ((p.getD i (0, 0)).1 * (p.getD ((i + 1) % p.length) (0, 0)).2) - w64 ((p.getD i (0, 0)).2 * (p.getD ((i + 1) % p.length) (0, 0)).1)))

theorem getI_getD {α : Type} {xs : List α} {i : Nat} {z : α} (h : i < xs.length) : getI xs (i : Int) = some (xs.getD i z) := by
  rw [getI_lt h]
  simp [h]

theorem e178 {L : Nat} (hL : 4294967296 < L) (p : List (Int × Int)) (h : p.length ≤ 1048576) : F178 L p = some (areaTo p p.length) := by
  unfold F178
  rw [show iterS (F178_l0 L) L (p, 0, p, (p.length : Int), 0, ()) = some (areaTo p p.length, ()) from iter_run (fun i => (p, areaTo p i, p, (p.length : Int), (i : Int), ())) p.length _ (fun i hi => by
    have h0 : ¬ (p.length : Int) = 0 := by omega
    simp only [F178_l0, Int.ofNat_lt, hi, decide_true, if_true, getI_getD (z := (0, 0)) hi, Option.bind_some, h0, if_false, w64]
    rw [wrap_succ (by omega), tmod_nat, getI_getD (z := (0, 0)) (Nat.mod_lt _ (by omega))]
    simp only [Option.bind_some, areaTo, w64]) (by simp [F178_l0]) rfl (by omega)]
  rfl
theorem e188 {L : Nat} (hL : 4294967296 < L) (p : List (Int × Int)) (h : p.length ≤ 1048576) : F188 L p = some (areaTo p p.length) := by
  unfold F188
  rw [show iterS (F188_l0 L) L (p, 0, 0, ()) = some (areaTo p p.length, ()) from iter_run (fun i => (p, areaTo p i, (i : Int), ())) p.length _ (fun i hi => by
    have h0 : ¬ (p.length : Int) = 0 := by omega
    simp only [F188_l0, Int.ofNat_lt, hi, decide_true, if_true, getI_getD (z := (0, 0)) hi, Option.bind_some, h0, if_false, w64]
    rw [wrap_succ (by omega), tmod_nat, getI_getD (z := (0, 0)) (Nat.mod_lt _ (by omega))]
    simp only [Option.bind_some, areaTo, w64]) (by simp [F188_l0]) rfl (by omega)]
  rfl

def ptB (q : Int × Int) : Bool := inR q.1 0 20000 && inR q.2 0 20000
theorem e205 (q : Int × Int) : F205 q = some (ptB q) := by
  unfold F205 ptB
  simp only [e49, Option.bind_some]
  by_cases h : inR q.1 0 20000 = true <;> simp [h]
theorem e185 (q : Int × Int) : F185 q = some (ptB q) := e205 q

def pts0 (p : List (Int × Int)) : Bool := decide (∀ i, i < p.length → ptB (p.getD i (0, 0)) = true)
theorem e175 {L : Nat} (hL : 4294967296 < L) (p : List (Int × Int)) (h : p.length ≤ 1048576) : F175 L p = some (pts0 p) := by
  unfold F175 pts0
  have := iter_all (f := F175_l0 L) (fun i => (p, (p.length : Int), (i : Int), ())) p.length (fun i => ptB (p.getD i (0, 0))) (.inl ()) (.inr (false, ())) (s := (p, (p.length : Int), 0, ())) (L := L) (fun i hi => by
    simp only [F175_l0, Int.ofNat_lt, hi, decide_true, if_true, getI_getD (z := (0, 0)) hi, Option.bind_some, e205, w64]
    rw [wrap_succ (by omega)]
    by_cases hp : ptB (p.getD i (0, 0)) = true <;> simp only [hp, Bool.not_true, Bool.not_false, Bool.false_eq_true, if_true, if_false]) (by simp [F175_l0]) rfl (by omega)
  rw [this]
  exact elim_all

def innerC (p : List (Int × Int)) (i t : Nat) : Bool :=
  !(((i + 2 + t + 1) % p.length) != i && touchV (p.getD i (0, 0)) (p.getD ((i + 1) % p.length) (0, 0)) (p.getD (i + 2 + t) (0, 0)) (p.getD ((i + 2 + t + 1) % p.length) (0, 0)))
def outerC (p : List (Int × Int)) (i : Nat) : Bool :=
  !(p.getD i (0, 0) == p.getD ((i + 1) % p.length) (0, 0)) && (!(onV (p.getD i (0, 0)) (p.getD ((i + 1) % p.length) (0, 0)) (p.getD ((i + 2) % p.length) (0, 0))) &&
    (!(onV (p.getD ((i + 1) % p.length) (0, 0)) (p.getD ((i + 2) % p.length) (0, 0)) (p.getD i (0, 0))) && decide (∀ t, t < p.length - (i + 2) → innerC p i t = true)))
def polyB (p : List (Int × Int)) : Bool :=
  decide (3 ≤ p.length) && (decide (p.length ≤ 24) && (pts0 p && (decide (∀ i, i < p.length → outerC p i = true) && decide (areaTo p p.length > 0))))

theorem cast_ne {a b : Nat} : (((a : Int)) != ((b : Int))) = (a != b) := by
  rw [Bool.eq_iff_iff]; simp only [bne_iff_ne, ne_eq, Int.natCast_inj]

theorem inner_rounds {L : Nat} (hL : 4294967296 < L) {p : List (Int × Int)} (hn : p.length ≤ 24) {i : Nat} (hi : i < p.length) {α β : Type} {f : α → Option (α ⊕ β)} {s : α} {ex bad : β} (st : Int → α)
    (hf : ∀ k, f (st k) = if decide (k < (p.length : Int)) = true then (if (p.length : Int) = 0 then none else (if ((Int.tmod (IntKind.wrap .i64 (k + 1)) (p.length : Int)) != (i : Int)) = true then ((getI p k).bind fun y11 => (if (p.length : Int) = 0 then none else ((getI p (Int.tmod (IntKind.wrap .i64 (k + 1)) (p.length : Int))).bind fun y12 =>
      (if touchV (p.getD i (0, 0)) (p.getD ((i + 1) % p.length) (0, 0)) y11 y12 = true then some (.inr bad) else some (.inl (st (IntKind.wrap .i64 (k + 1)))))))) else some (.inl (st (IntKind.wrap .i64 (k + 1)))))) else some (.inr ex))
    (hs : s = st ((i + 2 : Nat) : Int)) : iterS f L s = some (if ∀ t, t < p.length - (i + 2) → innerC p i t = true then ex else bad) := by
  have h0 : ¬ (p.length : Int) = 0 := by omega
  refine iter_all (fun t => st ((i + 2 + t : Nat) : Int)) (p.length - (i + 2)) (innerC p i) ex bad (fun t ht => ?_) ?_ hs (by omega)
  · have hk : i + 2 + t < p.length := by omega
    rw [hf]
    simp only [Int.ofNat_lt, hk, decide_true, if_true, h0, if_false, wrap_succ (i := i + 2 + t) (by omega), tmod_nat, getI_getD (z := (0, 0)) hk, getI_getD (z := (0, 0)) (Nat.mod_lt (i + 2 + t + 1) (show p.length > 0 by omega)), Option.bind_some, cast_ne]
    unfold innerC
    by_cases h1 : ((i + 2 + t + 1) % p.length != i) = true
    · by_cases h2 : touchV (p.getD i (0, 0)) (p.getD ((i + 1) % p.length) (0, 0)) (p.getD (i + 2 + t) (0, 0)) (p.getD ((i + 2 + t + 1) % p.length) (0, 0)) = true
      · simp only [h1, h2, if_true, Bool.and_self, Bool.not_true, Bool.false_eq_true, if_false]
      · rw [Bool.not_eq_true] at h2
        simp only [h1, h2, if_true, Bool.and_false, Bool.not_false, Bool.false_eq_true, if_false]
        rfl
    · rw [Bool.not_eq_true] at h1
      simp only [h1, Bool.false_and, Bool.not_false, Bool.false_eq_true, if_false, if_true]
      rfl
  · rw [hf]
    have : ¬ ((i + 2 + (p.length - (i + 2)) : Nat) : Int) < (p.length : Int) := by omega
    simp only [this, decide_false, Bool.false_eq_true, if_false]

end Go.Proofs.YtnglcmfgkcdgcaaGreat
