/- Veneers, leaves, placements, orders of faces, jobs. -/
import Derived.Test.YtnglcmfgkcdgcaaGreatVdW3
namespace Go.Proofs.YtnglcmfgkcdgcaaGreat
open Go Go.AM
set_option linter.unusedVariables false
set_option linter.unusedSimpArgs false

def nms : List ByteArray := [(⟨#[97, 115, 104]⟩ : ByteArray), (⟨#[98, 101, 101, 99, 104]⟩ : ByteArray), (⟨#[98, 105, 114, 99, 104]⟩ : ByteArray), (⟨#[99, 104, 101, 114, 114, 121]⟩ : ByteArray), (⟨#[101, 98, 111, 110, 121]⟩ : ByteArray), (⟨#[104, 111, 108, 108, 121]⟩ : ByteArray), (⟨#[109, 97, 112, 108, 101]⟩ : ByteArray), (⟨#[111, 97, 107]⟩ : ByteArray), (⟨#[114, 111, 115, 101, 119, 111, 111, 100]⟩ : ByteArray), (⟨#[119, 97, 108, 110, 117, 116]⟩ : ByteArray)]
def shs : List Int := [20, 35, 15, 50, 95, 5, 10, 40, 80, 70]
/-- A species' place. -/
def spI (s : ByteArray) : Option Nat := (List.range 10).find? fun i => strEq s (nms.getD i ⟨#[]⟩)

theorem spI_eq (s : ByteArray) : spI s = if strEq s (nms.getD 0 ⟨#[]⟩) = true then some 0 else if strEq s (nms.getD 1 ⟨#[]⟩) = true then some 1 else if strEq s (nms.getD 2 ⟨#[]⟩) = true then some 2 else if strEq s (nms.getD 3 ⟨#[]⟩) = true then some 3 else if strEq s (nms.getD 4 ⟨#[]⟩) = true then some 4 else
    if strEq s (nms.getD 5 ⟨#[]⟩) = true then some 5 else if strEq s (nms.getD 6 ⟨#[]⟩) = true then some 6 else if strEq s (nms.getD 7 ⟨#[]⟩) = true then some 7 else if strEq s (nms.getD 8 ⟨#[]⟩) = true then some 8 else if strEq s (nms.getD 9 ⟨#[]⟩) = true then some 9 else none := by
  have hr : List.range 10 = [0, 1, 2, 3, 4, 5, 6, 7, 8, 9] := rfl
  unfold spI
  rw [hr]
  simp only [List.find?_cons, List.find?_nil]
  repeat' (split <;> simp_all)

theorem e180 (s : ByteArray) : F180 s = some (match spI s with | some i => (shs.getD i 0, true) | none => (0, false)) := by
  rw [spI_eq]
  unfold F180 F208
  show ((if strEq s (nms.getD 0 ⟨#[]⟩) = true then (some (20, 40, 310, 0) : Option (Int × Int × Int × Int)) else if strEq s (nms.getD 1 ⟨#[]⟩) = true then some (35, 45, 410, 0) else if strEq s (nms.getD 2 ⟨#[]⟩) = true then some (15, 33, 280, 0) else if strEq s (nms.getD 3 ⟨#[]⟩) = true then some (50, 36, 240, 0) else if strEq s (nms.getD 4 ⟨#[]⟩) = true then some (95, 85, 270, 0) else
    if strEq s (nms.getD 5 ⟨#[]⟩) = true then some (5, 35, 370, 0) else if strEq s (nms.getD 6 ⟨#[]⟩) = true then some (10, 42, 290, 0) else if strEq s (nms.getD 7 ⟨#[]⟩) = true then some (40, 40, 330, 0) else if strEq s (nms.getD 8 ⟨#[]⟩) = true then some (80, 60, 220, 0) else if strEq s (nms.getD 9 ⟨#[]⟩) = true then some (70, 38, 260, 0) else some (0, 0, 0, 3)).bind fun r1 => some (r1.1, r1.2.2.2 == 0)) = _
  cases strEq s (nms.getD 0 ⟨#[]⟩)
  case true => rfl
  cases strEq s (nms.getD 1 ⟨#[]⟩)
  case true => rfl
  cases strEq s (nms.getD 2 ⟨#[]⟩)
  case true => rfl
  cases strEq s (nms.getD 3 ⟨#[]⟩)
  case true => rfl
  cases strEq s (nms.getD 4 ⟨#[]⟩)
  case true => rfl
  cases strEq s (nms.getD 5 ⟨#[]⟩)
  case true => rfl
  cases strEq s (nms.getD 6 ⟨#[]⟩)
  case true => rfl
  cases strEq s (nms.getD 7 ⟨#[]⟩)
  case true => rfl
  cases strEq s (nms.getD 8 ⟨#[]⟩)
  case true => rfl
  cases strEq s (nms.getD 9 ⟨#[]⟩)
  case true => rfl
  rfl

theorem e189 {L : Nat} (hL : 4294967296 < L) (s : ByteArray) : F189 L s = some (match spI s with | some i => (i : Int) | none => -1) := by
  unfold F189
  have hn : F211 = some nms := rfl
  have hl : nms.length = 10 := rfl
  rw [hn]
  simp only [Option.bind_some]
  rcases iter_any (f := F189_l0 L) (fun i => (s, nms, (i : Int), ())) 10 (fun i => strEq s (nms.getD i ⟨#[]⟩)) (.inl ()) (fun i => .inr ((i : Int), ())) (s := (s, nms, 0, ())) (L := L) (fun i hi => by
    have hi' : (i : Int) < 10 := by omega
    have hd : decide ((i : Int) < (nms.length : Int)) = true := by rw [hl]; exact decide_eq_true hi'
    simp only [F189_l0, hd, if_true, getI_getD (xs := nms) (z := (⟨#[]⟩ : ByteArray)) (by rw [hl]; exact hi), Option.bind_some, w64]
    rw [wrap_succ (by omega), strEq_comm]) (by simp [F189_l0, hl]) rfl (by omega) with ⟨h1, h2⟩ | ⟨i, h1, h2, h3, h4⟩
  · have : spI s = none := by
      unfold spI
      rw [List.find?_eq_none]
      intro i hi
      rw [h2 i (by simpa using hi)]
      simp
    rw [h1, this]
    rfl
  · have : spI s = some i := by
      unfold spI
      have hr : List.range 10 = List.range i ++ i :: (List.range 10).drop (i + 1) := by
        have : (List.range 10).drop i = i :: (List.range 10).drop (i + 1) := by
          rw [List.drop_eq_getElem_cons (by simpa using h1)]
          simp
        rw [← this]
        conv => lhs; rw [← List.take_append_drop i (List.range 10)]
        rw [List.take_range, Nat.min_eq_left (by omega)]
      rw [hr, List.find?_append]
      have : (List.range i).find? (fun i => strEq s (nms.getD i ⟨#[]⟩)) = none := by
        rw [List.find?_eq_none]
        intro j hj
        rw [h3 j (by simpa using hj)]
        simp
      rw [this, List.find?_cons, h2]
      rfl
    rw [h4, this]
    rfl

theorem spI_lt {s : ByteArray} {i : Nat} (h : spI s = some i) : i < 10 := by
  unfold spI at h
  have := List.mem_of_find?_eq_some h
  simpa using this

abbrev Ven := ByteArray × Int × Int
def venB (v : Ven) : Bool := match spI v.1 with
  | none => false
  | some i => inR v.2.1 0 100 && (inR (v.2.1 - shs.getD i 0) (-15) 15 && inR v.2.2 0 179)

theorem shs_row : ∀ i : Nat, i < 10 → ∃ row, getI ([[20, 40, 310], [35, 45, 410], [15, 33, 280], [50, 36, 240], [95, 85, 270], [5, 35, 370], [10, 42, 290], [40, 40, 330], [80, 60, 220], [70, 38, 260]] : List (List Int)) (i : Int) = some row ∧ getI row 0 = some (shs.getD i 0) ∧ 0 ≤ shs.getD i 0 ∧ shs.getD i 0 ≤ 100 := by
  intro i hi
  have : i = 0 ∨ i = 1 ∨ i = 2 ∨ i = 3 ∨ i = 4 ∨ i = 5 ∨ i = 6 ∨ i = 7 ∨ i = 8 ∨ i = 9 := by omega
  rcases this with rfl | rfl | rfl | rfl | rfl | rfl | rfl | rfl | rfl | rfl <;> exact ⟨_, rfl, rfl, by decide, by decide⟩

theorem e149 (v : Ven) : F149 v = some (venB v) := by
  unfold F149 venB
  rw [e180]
  cases h : spI v.1 with
  | none => rfl
  | some i =>
    obtain ⟨_, _, _, h1, h2⟩ := shs_row i (spI_lt h)
    simp only [Option.bind_some, if_true, e49]
    by_cases a1 : inR v.2.1 0 100 = true
    · have := inR_iff.1 a1
      rw [show w64 (v.2.1 - shs.getD i 0) = v.2.1 - shs.getD i 0 from wrap64_id (by omega) (by omega)]
      simp only [a1, if_true, Bool.true_and]
      cases inR (v.2.1 - shs.getD i 0) (-15) 15 <;> rfl
    · rw [Bool.not_eq_true] at a1
      simp only [a1, Bool.false_eq_true, if_false, Bool.false_and]

theorem e159 {L : Nat} (hL : 4294967296 < L) (v : Ven) : F159 L v = some (venB v) := by
  unfold F159 venB
  rw [e189 hL]
  cases h : spI v.1 with
  | none => rfl
  | some i =>
    obtain ⟨row, k1, k2, h1, h2⟩ := shs_row i (spI_lt h)
    have hn : ¬ (i : Int) < 0 := by omega
    have ht : F190 = some [[20, 40, 310], [35, 45, 410], [15, 33, 280], [50, 36, 240], [95, 85, 270], [5, 35, 370], [10, 42, 290], [40, 40, 330], [80, 60, 220], [70, 38, 260]] := rfl
    simp only [Option.bind_some, hn, decide_false, Bool.false_eq_true, if_false, e108, ht, k1, k2, F191]
    by_cases a1 : inR v.2.1 0 100 = true
    · have := inR_iff.1 a1
      rw [show w64 (shs.getD i 0 - 15) = shs.getD i 0 - 15 from wrap64_id (by omega) (by omega), show w64 (shs.getD i 0 + 15) = shs.getD i 0 + 15 from wrap64_id (by omega) (by omega)]
      have he : inR v.2.1 (shs.getD i 0 - 15) (shs.getD i 0 + 15) = inR (v.2.1 - shs.getD i 0) (-15) 15 := by
        rw [Bool.eq_iff_iff, inR_iff, inR_iff]; omega
      simp only [a1, Bool.not_true, Bool.false_eq_true, if_false, Bool.true_and, he]
      cases inR (v.2.1 - shs.getD i 0) (-15) 15 <;> rfl
    · rw [Bool.not_eq_true] at a1
      simp only [a1, Bool.not_false, if_true, Bool.false_and]

abbrev zV : Ven := (⟨#[]⟩, 0, 0)
def vensB (l : List Ven) : Bool := decide (∀ i, i < l.length → venB (l.getD i zV) = true)

theorem e107 {L : Nat} (hL : 4294967296 < L) (l : List Ven) (hl : l.length ≤ 1048576) : F107 L l = some (vensB l) := by
  unfold F107
  have := iter_all (f := F107_l0 L) (fun i => (l, (i : Int), ())) l.length (fun i => venB (l.getD i zV)) (.inl ()) (.inr (false, ())) (s := (l, 0, ())) (L := L) (fun i hi => by
    simp only [F107_l0, Int.ofNat_lt, hi, decide_true, if_true, getI_getD (z := zV) hi, Option.bind_some, e159 hL]
    rw [show w64 ((i : Int) + 1) = ((i + 1 : Nat) : Int) from wrap_succ (by omega)]
    cases venB (l.getD i zV) <;> rfl) (by simp [F107_l0]) rfl (by omega)
  rw [this]
  exact elim_all

theorem not_all_iff {n : Nat} {p : Nat → Bool} : (decide (∃ i, i < n ∧ p i = false)) = !decide (∀ i, i < n → p i = true) := by
  rw [Bool.eq_iff_iff]
  simp

/-- Is there one among the first n that is not so? -/
theorem idx_any {n : Nat} {p : Nat → Bool} {r : Option (Unit ⊕ (Int × Unit))} (h : (r = some (.inl ()) ∧ ∀ i, i < n → p i = true) ∨ ∃ i, i < n ∧ p i = false ∧ r = some (.inr ((i : Int), ()))) :
    ((r.bind fun v3 => Sum.elim (fun v4 => some (-1)) (fun v5 => some v5.1) v3).bind fun r1 : Int => some (decide (r1 ≥ 0))) = some (!decide (∀ i, i < n → p i = true)) := by
  rcases h with ⟨rfl, h⟩ | ⟨i, h1, h2, rfl⟩
  · rw [decide_eq_true h]; rfl
  · have : ¬ ∀ i, i < n → p i = true := fun h => by rw [h i h1] at h2; simp at h2
    rw [decide_eq_false this]
    simp

theorem e99 {L : Nat} (hL : 4294967296 < L) (l : List Ven) (hl : l.length ≤ 1048576) : F99 L l = some (vensB l) := by
  unfold F99 F147 F179
  have := iter_any (f := F179_l0 L) (fun i => (l, (l.length : Int), (i : Int), ())) l.length (fun i => !venB (l.getD i zV)) (.inl ()) (fun i => .inr ((i : Int), ())) (s := (l, (l.length : Int), 0, ())) (L := L) (fun i hi => by
    simp only [F179_l0, Int.ofNat_lt, hi, decide_true, if_true, getI_getD (z := zV) hi, Option.bind_some, F148, e149]
    rw [show w64 ((i : Int) + 1) = ((i + 1 : Nat) : Int) from wrap_succ (by omega)]) (by simp [F179_l0]) rfl (by omega)
  rw [idx_any (n := l.length) (p := fun i => venB (l.getD i zV)) (by
    rcases this with ⟨h1, h2⟩ | ⟨i, h1, h2, _, h3⟩
    · exact .inl ⟨h1, fun i hi => by simpa using h2 i hi⟩
    · exact .inr ⟨i, h1, by simpa using h2, h3⟩)]
  simp [vensB]

abbrev Pic := Drw × List Ven
def picB (p : Pic) : Bool := drawB p.1 && (decide (p.2.length = p.1.2.2.2.length) && vensB p.2)

theorem len_beq {a b : Nat} : (((a : Int)) == ((b : Int))) = decide (a = b) := by
  rw [Bool.eq_iff_iff]; simp [Int.natCast_inj]

theorem e87 {L : Nat} (hL : 4294967296 < L) (p : Pic) (hp : p.1.2.2.1.length ≤ 1048576) (hf : p.1.2.2.2.length ≤ 1048576) (hr : ∀ f ∈ p.1.2.2.2, f.2.length ≤ 1048576) (hv : p.2.length ≤ 1048576) : F87 L p = some (picB p) := by
  unfold F87 picB
  simp only [e106 hL p.1 hp hf hr, e107 hL p.2 hv, Option.bind_some, len_beq]
  by_cases hq : p.2.length = p.1.2.2.2.length <;> cases drawB p.1 <;> cases vensB p.2 <;> simp [hq]

theorem e45 {L : Nat} (hL : 4294967296 < L) (p : Pic) (hp : p.1.2.2.1.length ≤ 1048576) (hf : p.1.2.2.2.length ≤ 1048576) (hr : ∀ f ∈ p.1.2.2.2, f.2.length ≤ 1048576) (hv : p.2.length ≤ 1048576) : F45 L p = some (picB p) := by
  unfold F45 picB
  simp only [e98 hL p.1 hp hf hr, e99 hL p.2 hv, Option.bind_some, len_beq]
  by_cases hq : p.2.length = p.1.2.2.2.length <;> cases drawB p.1 <;> cases vensB p.2 <;> simp [hq]

abbrev Bx := Int × Int × Int × Int
def boxB (b : Bx) (w h : Int) : Bool := inR b.1 0 w && (inR b.2.1 0 h && (inR b.2.2.1 1 (w64 (w - b.1)) && inR b.2.2.2 1 (w64 (h - b.2.1))))
theorem and4 (a b c d : Bool) : (if a = true then if b = true then if c = true then some d else some false else some false else some false) = some (a && (b && (c && d))) := by
  cases a <;> cases b <;> cases c <;> rfl
theorem e152 (b : Bx) (w h : Int) : F152 b w h = some (boxB b w h) := by
  unfold F152 boxB
  simp only [e49, Option.bind_some, and4]
theorem e171 (b : Bx) (w h : Int) : F171 b w h = some (boxB b w h) := by
  unfold F171 boxB
  simp only [e108, Option.bind_some, and4]

abbrev zB : Bx := (0, 0, 0, 0)
abbrev Lf := ByteArray × ByteArray × Int × Ven × Int × Int × List Bx
def boxesB (l : Lf) : Bool := decide (∀ i, i < l.2.2.2.2.2.2.length → boxB (l.2.2.2.2.2.2.getD i zB) l.2.2.2.2.1 l.2.2.2.2.2.1 = true)
def leafB (l : Lf) : Bool := nameB l.1 && (nameB l.2.1 && (inR l.2.2.1 0 999 && (venB l.2.2.2.1 && (inR l.2.2.2.2.1 10 20000 && (inR l.2.2.2.2.2.1 10 20000 && (decide (l.2.2.2.2.2.2.length ≤ 6) && boxesB l))))))

theorem gates {a b c d e f : Bool} {g : Prop} [Decidable g] {x : Option Bool} {y : Bool} (hx : x = some y) : (if (!a) = true then some false else if (!b) = true then some false else if (!c) = true then some false else if (!d) = true then some false else if (!e) = true then some false else if (!f) = true then some false else if decide g = true then some false else x) =
    some (a && (b && (c && (d && (e && (f && (!decide g && y))))))) := by
  subst hx
  cases a <;> cases b <;> cases c <;> cases d <;> cases e <;> cases f <;> by_cases hg : g <;> simp [hg]

theorem e139 {L : Nat} (hL : 4294967296 < L) (l : Lf) (hb : l.2.2.2.2.2.2.length ≤ 1048576) : F139 L l = some (leafB l) := by
  unfold F139 leafB
  have := iter_all (f := F139_l0 L) (fun i => (l, (i : Int), ())) l.2.2.2.2.2.2.length (fun i => boxB (l.2.2.2.2.2.2.getD i zB) l.2.2.2.2.1 l.2.2.2.2.2.1) (.inl ()) (.inr (false, ())) (s := (l, 0, ())) (L := L) (fun i hi => by
    simp only [F139_l0, Int.ofNat_lt, hi, decide_true, if_true, getI_getD (z := zB) hi, Option.bind_some, e171]
    rw [show w64 ((i : Int) + 1) = ((i + 1 : Nat) : Int) from wrap_succ (by omega)]
    cases boxB (l.2.2.2.2.2.2.getD i zB) l.2.2.2.2.1 l.2.2.2.2.2.1 <;> rfl) (by simp [F139_l0]) rfl (by omega)
  simp only [e156 hL, e108, e159 hL, Option.bind_some, this]
  rw [gates (show _ = some (boxesB l) from elim_all)]
  congr 7
  rw [Bool.eq_iff_iff]; simp; omega

theorem e100 {L : Nat} (hL : 4294967296 < L) (l : Lf) (hb : l.2.2.2.2.2.2.length ≤ 1048576) : F100 L l = some (leafB l) := by
  unfold F100 leafB
  have hbx : (F150 L l.2.2.2.2.2.2 (l.1, l.2.1, l.2.2.1, l.2.2.2.1.1, l.2.2.2.1.2.1, l.2.2.2.1.2.2, l.2.2.2.2)) = some (!boxesB l) := by
    unfold F150 F181
    have := iter_any (f := F181_l0 L) (fun i => (l.2.2.2.2.2.2, (l.1, l.2.1, l.2.2.1, l.2.2.2.1.1, l.2.2.2.1.2.1, l.2.2.2.1.2.2, l.2.2.2.2), (l.2.2.2.2.2.2.length : Int), (i : Int), ())) l.2.2.2.2.2.2.length (fun i => !boxB (l.2.2.2.2.2.2.getD i zB) l.2.2.2.2.1 l.2.2.2.2.2.1) (.inl ()) (fun i => .inr ((i : Int), ()))
        (s := (l.2.2.2.2.2.2, (l.1, l.2.1, l.2.2.1, l.2.2.2.1.1, l.2.2.2.1.2.1, l.2.2.2.1.2.2, l.2.2.2.2), (l.2.2.2.2.2.2.length : Int), 0, ())) (L := L) (fun i hi => by
      simp only [F181_l0, Int.ofNat_lt, hi, decide_true, if_true, getI_getD (z := zB) hi, Option.bind_some, F151, e152]
      rw [show w64 ((i : Int) + 1) = ((i + 1 : Nat) : Int) from wrap_succ (by omega)]) (by simp [F181_l0]) rfl (by omega)
    exact idx_any (n := l.2.2.2.2.2.2.length) (p := fun i => boxB (l.2.2.2.2.2.2.getD i zB) l.2.2.2.2.1 l.2.2.2.2.2.1) (by
      rcases this with ⟨h1, h2⟩ | ⟨i, h1, h2, _, h3⟩
      · exact .inl ⟨h1, fun i hi => by simpa using h2 i hi⟩
      · exact .inr ⟨i, h1, by simpa using h2, h3⟩)
  simp only [e144 hL, e49, e149, Option.bind_some, hbx, Bool.not_not]
  rw [gates rfl]
  congr 7
  rw [Bool.eq_iff_iff]; simp; omega

end Go.Proofs.YtnglcmfgkcdgcaaGreat
