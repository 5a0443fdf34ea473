/- Desks: bonds, coats, rates; FnExactValidDesk, of the typed functions. -/
import Derived.Test.YtnglcmfgkcdgcaaGreatVdW5
namespace Go.Proofs.YtnglcmfgkcdgcaaGreat
open Go Go.AM
set_option linter.unusedVariables false
set_option linter.unusedSimpArgs false

abbrev Q := ByteArray × Int × Int × Int
abbrev zQ : Q := (⟨#[]⟩, 0, 0, 0)
def bondB (b : Q) : Bool := nameB b.1 && (inR b.2.1 1 120 && (inR b.2.2.1 b.2.1 240 && inR b.2.2.2 1 1440))
theorem e132 {L : Nat} (hL : 4294967296 < L) (b : Q) : F132 L b = some (bondB b) := by
  unfold F132 bondB
  simp only [e144 hL, e49, Option.bind_some, and4]
theorem e168 {L : Nat} (hL : 4294967296 < L) (b : Q) : F168 L b = some (bondB b) := by
  unfold F168 bondB
  simp only [e156 hL, e108, Option.bind_some, and4]
def bondC (l : List Q) (i : Nat) : Bool := bondB (l.getD i zQ) && (decide (i = 0) || strLt (l.getD (i - 1) zQ).1 (l.getD i zQ).1)
def bondsB (l : List Q) : Bool := decide (∀ i, i < l.length → bondC l i = true) && decide (l.length ≤ 12)

theorem e127 {L : Nat} (hL : 4294967296 < L) (l : List Q) (hl : l.length ≤ 1048576) : F127 L l = some (bondsB l) := by
  unfold F127
  have := iter_all (f := F127_l0 L) (fun i => (l, (i : Int), ())) l.length (bondC l) (.inl (l, ())) (.inr (false, ())) (s := (l, 0, ())) (L := L) (fun i hi => by
    simp only [F127_l0, Int.ofNat_lt, hi, decide_true, if_true, getI_getD (z := zQ) hi, Option.bind_some, e168 hL]
    rw [show w64 ((i : Int) + 1) = ((i + 1 : Nat) : Int) from wrap_succ (by omega)]
    unfold bondC
    by_cases b2 : i = 0
    · subst b2
      cases bondB (l.getD 0 zQ) <;> simp
    · have h1 : (i : Int) > 0 := by omega
      rw [show w64 ((i : Int) - 1) = ((i - 1 : Nat) : Int) from wrap_pred1 (by omega) (by omega), getI_getD (z := zQ) (by omega)]
      by_cases h3 : strLt (l.getD (i - 1) zQ).1 (l.getD i zQ).1 = true <;> (try rw [Bool.not_eq_true] at h3) <;> cases bondB (l.getD i zQ) <;> simp only [h3, h1, b2, decide_true, decide_false, Bool.not_true, Bool.not_false, Bool.false_eq_true, if_true, if_false, Option.bind_some, Bool.false_or, Bool.and_self, Bool.false_and, Bool.and_false, Bool.true_and]) (by simp [F127_l0]) rfl (by omega)
  rw [this]
  exact elim_len rfl

theorem e80 {L : Nat} (hL : 4294967296 < L) (l : List Q) (hl : l.length ≤ 1048576) : F80 L l = some (bondsB l) := by
  unfold F80
  have := iter_all (f := F80_l0 L) (fun i => (l, l, (l.length : Int), (i : Int), ())) l.length (bondC l) (.inl (l, ())) (.inr (false, ())) (s := (l, l, (l.length : Int), 0, ())) (L := L) (fun i hi => by
    simp only [F80_l0, Int.ofNat_lt, hi, decide_true, if_true, getI_getD (z := zQ) hi, Option.bind_some, e132 hL]
    rw [show w64 ((i : Int) + 1) = ((i + 1 : Nat) : Int) from wrap_succ (by omega)]
    unfold bondC
    by_cases b2 : i = 0
    · subst b2
      cases bondB (l.getD 0 zQ) <;> simp
    · have h1 : (i : Int) > 0 := by omega
      rw [show w64 ((i : Int) - 1) = ((i - 1 : Nat) : Int) from wrap_pred1 (by omega) (by omega), getI_getD (z := zQ) (by omega)]
      by_cases h3 : strLt (l.getD (i - 1) zQ).1 (l.getD i zQ).1 = true <;> (try rw [Bool.not_eq_true] at h3) <;> cases bondB (l.getD i zQ) <;> simp only [h3, h1, b2, decide_true, decide_false, Bool.not_true, Bool.not_false, Bool.false_eq_true, if_true, if_false, Option.bind_some, Bool.false_or, Bool.and_self, Bool.false_and, Bool.and_false, Bool.true_and]) (by simp [F80_l0]) rfl (by omega)
  rw [this]
  exact elim_len rfl

def coatB (b : Q) : Bool := nameB b.1 && (inR b.2.1 1 32 && (inR b.2.2.1 0 400 && inR b.2.2.2 b.2.2.1 800))
theorem e135 {L : Nat} (hL : 4294967296 < L) (b : Q) : F135 L b = some (coatB b) := by
  unfold F135 coatB
  simp only [e144 hL, e49, Option.bind_some, and4]
theorem e169 {L : Nat} (hL : 4294967296 < L) (b : Q) : F169 L b = some (coatB b) := by
  unfold F169 coatB
  simp only [e156 hL, e108, Option.bind_some, and4]
def coatsB (l : List Q) : Bool := decide (∀ i, i < l.length → coatB (l.getD i zQ) = true) && decide (l.length ≤ 8)
theorem e128 {L : Nat} (hL : 4294967296 < L) (l : List Q) (hl : l.length ≤ 1048576) : F128 L l = some (coatsB l) := by
  unfold F128
  have := iter_all (f := F128_l0 L) (fun i => (l, (i : Int), ())) l.length (fun i => coatB (l.getD i zQ)) (.inl (l, ())) (.inr (false, ())) (s := (l, 0, ())) (L := L) (fun i hi => by
    simp only [F128_l0, Int.ofNat_lt, hi, decide_true, if_true, getI_getD (z := zQ) hi, Option.bind_some, e169 hL]
    rw [show w64 ((i : Int) + 1) = ((i + 1 : Nat) : Int) from wrap_succ (by omega)]
    cases coatB (l.getD i zQ) <;> rfl) (by simp [F128_l0]) rfl (by omega)
  rw [this]
  exact elim_len rfl
theorem e81 {L : Nat} (hL : 4294967296 < L) (l : List Q) (hl : l.length ≤ 1048576) : F81 L l = some (coatsB l) := by
  unfold F81
  have hbx : F133 L l = some (!decide (∀ i, i < l.length → coatB (l.getD i zQ) = true)) := by
    unfold F133 F170
    have := iter_any (f := F170_l0 L) (fun i => (l, (l.length : Int), (i : Int), ())) l.length (fun i => !coatB (l.getD i zQ)) (.inl ()) (fun i => .inr ((i : Int), ())) (s := (l, (l.length : Int), 0, ())) (L := L) (fun i hi => by
      simp only [F170_l0, Int.ofNat_lt, hi, decide_true, if_true, getI_getD (z := zQ) hi, Option.bind_some, F134, e135 hL]
      rw [show w64 ((i : Int) + 1) = ((i + 1 : Nat) : Int) from wrap_succ (by omega)]) (by simp [F170_l0]) rfl (by omega)
    exact idx_any (n := l.length) (p := fun i => coatB (l.getD i zQ)) (by
      rcases this with ⟨h1, h2⟩ | ⟨i, h1, h2, _, h3⟩
      · exact .inl ⟨h1, fun i hi => by simpa using h2 i hi⟩
      · exact .inr ⟨i, h1, by simpa using h2, h3⟩)
  unfold coatsB
  by_cases h8 : l.length ≤ 8
  · have : (l.length : Int) ≤ 8 := by omega
    simp only [this, h8, decide_true, if_true, hbx, Option.bind_some, Bool.not_not, Bool.and_true]
  · have : ¬ (l.length : Int) ≤ 8 := by omega
    simp only [this, h8, decide_false, Bool.false_eq_true, if_false, Bool.and_false]

abbrev Rt := Int × Int × Int × Int × Int
def ratesB (r : Rt) : Bool := inR r.1 0 100000 && (inR r.2.1 0 1000 && (inR r.2.2.1 0 1000 && (inR r.2.2.2.1 0 300 && inR r.2.2.2.2 0 200)))
theorem e82 (r : Rt) : F82 r = some (ratesB r) := by
  unfold F82 ratesB
  simp only [e49, Option.bind_some, and5]
theorem e129 (r : Rt) : F129 r = some (ratesB r) := by
  unfold F129 ratesB
  simp only [e108, Option.bind_some, and5]

abbrev Dk := Jb × List Q × List Q × Rt
def deskB (d : Dk) : Bool := jobB d.1 && (bondsB d.2.1 && (coatsB d.2.2.1 && ratesB d.2.2.2))
theorem e31 {L : Nat} (hL : 4294967296 < L) (d : Dk) (h : Short d.1) (h1 : d.2.1.length ≤ 1048576) (h2 : d.2.2.1.length ≤ 1048576) : F31 L d = some (deskB d) := by
  unfold F31 F76 deskB
  simp only [e39 hL d.1 h, e127 hL d.2.1 h1, e128 hL d.2.2.1 h2, e129, Option.bind_some, and4]
theorem e33 {L : Nat} (hL : 4294967296 < L) (d : Dk) (h : Short d.1) (h1 : d.2.1.length ≤ 1048576) (h2 : d.2.2.1.length ≤ 1048576) : F33 L d = some (deskB d) := by
  unfold F33 deskB
  simp only [e11 hL d.1 h, e80 hL d.2.1 h1, e81 hL d.2.2.1 h2, e82, Option.bind_some, and4]

/-- The law, of the typed function. -/
theorem pure_law (a : Ty.den (.pair (.pair (.pair (.pair (.int .i64) (.pair (.int .i64) (.pair (.lst (.pair (.int .i64) (.int .i64))) (.lst (.pair .str (.lst (.int .i64))))))) (.lst (.pair .str (.pair (.int .i64) (.int .i64))))) (.pair (.lst (.pair .str (.pair .str (.pair (.int .i64) (.pair (.pair .str (.pair (.int .i64) (.int .i64))) (.pair (.int .i64) (.pair (.int .i64) (.lst (.pair (.int .i64) (.pair (.int .i64) (.pair (.int .i64) (.int .i64)))))))))))) (.pair (.lst (.pair (.int .i64) (.pair (.int .i64) (.pair (.int .i64) (.pair (.int .i64) (.int .i64)))))) (.pair (.pair (.int .i64) (.pair (.int .i64) (.pair (.int .i64) (.int .i64)))) (.pair (.int .i64) (.pair (.int .i64) (.pair (.int .i64) (.pair (.int .i64) (.pair (.lst (.int .i64)) (.lst (.int .i64))))))))))) (.pair (.lst (.pair .str (.pair (.int .i64) (.pair (.int .i64) (.int .i64))))) (.pair (.lst (.pair .str (.pair (.int .i64) (.pair (.int .i64) (.int .i64))))) (.pair (.int .i64) (.pair (.int .i64) (.pair (.int .i64) (.pair (.int .i64) (.int .i64))))))))) (h : okv (.pair (.pair (.pair (.pair (.int .i64) (.pair (.int .i64) (.pair (.lst (.pair (.int .i64) (.int .i64))) (.lst (.pair .str (.lst (.int .i64))))))) (.lst (.pair .str (.pair (.int .i64) (.int .i64))))) (.pair (.lst (.pair .str (.pair .str (.pair (.int .i64) (.pair (.pair .str (.pair (.int .i64) (.int .i64))) (.pair (.int .i64) (.pair (.int .i64) (.lst (.pair (.int .i64) (.pair (.int .i64) (.pair (.int .i64) (.int .i64)))))))))))) (.pair (.lst (.pair (.int .i64) (.pair (.int .i64) (.pair (.int .i64) (.pair (.int .i64) (.int .i64)))))) (.pair (.pair (.int .i64) (.pair (.int .i64) (.pair (.int .i64) (.int .i64)))) (.pair (.int .i64) (.pair (.int .i64) (.pair (.int .i64) (.pair (.int .i64) (.pair (.lst (.int .i64)) (.lst (.int .i64))))))))))) (.pair (.lst (.pair .str (.pair (.int .i64) (.pair (.int .i64) (.int .i64))))) (.pair (.lst (.pair .str (.pair (.int .i64) (.pair (.int .i64) (.int .i64))))) (.pair (.int .i64) (.pair (.int .i64) (.pair (.int .i64) (.pair (.int .i64) (.int .i64)))))))) a) : ∃ L, F7 L a = some true := by
  refine ⟨4294967297, ?_⟩
  have hL : 4294967296 < 4294967297 := by decide
  generalize 4294967297 = L at hL
  obtain ⟨r, h1, h2, h3⟩ := sz30 hL a h 1048576 (by omega) (by omega)
  unfold F7
  rw [h1]
  simp only [Option.bind_some]
  by_cases hr : r < 0
  · simp [hr]
  · have hs := h3 (by omega)
    have hS := short_of hs.1
    simp only [hr, decide_false, Bool.false_eq_true, if_false, to32 hL a hs, Option.bind_some, e31 hL a hS hs.2.1.1 hs.2.2.1.1, e33 hL a hS hs.2.1.1 hs.2.2.1.1, eq34 hL a hs]
    simp

end Go.Proofs.YtnglcmfgkcdgcaaGreat
