/- A law's call, out of its typed function. -/
import Derived.Test.YtnglcmfgkcdgcaaGreatAmR1
import Derived.Test.YtnglcmfgkcdgcaaGreatAmA18
import Derived.SizedLaws
import Derived.OpenShut
import Derived.ShutString
import Derived.ChangeOld
import Derived.Below
namespace Go.AM
open Go Go.ChangeShapes Go.WideShapes Go.ChangeAt Go.RowKit
set_option linter.unusedVariables false
set_option linter.unusedSimpArgs false

variable {H : Type} {enc : TypeId × Value → H} {P : Program} {W : World} {sp : Nat → Bool} {held : Bool}

/-- At a law's begin. -/
def gh0 (W : World) : Gh := ⟨cellsIn W, fun _ => 0, fun _ => 0, fun _ => 0, fun _ => 0, fun _ => none, 0⟩

theorem cellsIn_new {b : Nat} (h : W.heap.size ≤ b) : cellsIn W b = 0 := by
  unfold cellsIn
  rw [Array.getElem?_eq_none h]

def plainD : DV → Bool
  | .val _ => true
  | .lst false _ => true
  | .pim _ => true
  | .clo _ _ => true
  | _ => false

theorem row_plain : ∀ {ty : Ty} {x : ty.den} {d : DV}, d ∈ ty.row x → plainD d = true
  | .unit, _, d, h => by simp [Ty.row] at h
  | .int _, _, d, h => by simp only [Ty.row, List.mem_singleton] at h; subst h; rfl
  | .bool, _, d, h => by simp only [Ty.row, List.mem_singleton] at h; subst h; rfl
  | .str, _, d, h => by simp only [Ty.row, List.mem_singleton] at h; subst h; rfl
  | .lst _, _, d, h => by simp only [Ty.row, List.mem_singleton] at h; subst h; rfl
  | .pim _, _, d, h => by simp only [Ty.row, List.mem_singleton] at h; subst h; rfl
  | .clo _ _, _, d, h => by simp only [Ty.row, List.mem_singleton] at h; subst h; rfl
  | .pair a b, x, d, h => by
    simp only [Ty.row, List.mem_append] at h
    rcases h with h | h
    · exact row_plain h
    · exact row_plain h

theorem plain_c {w : World} {gh : Gh} {ℓ : Option Own} {d : DV} {v : Value} (hp : plainD d = true) (h : Rep w gh.S d v) : noL d = true ∧ CRep w gh ℓ d v := by
  cases d with
  | lst o rows => cases o with
    | true => simp [plainD] at hp
    | false => exact ⟨rfl, h⟩
  | val x => exact ⟨rfl, h⟩
  | pim x => exact ⟨rfl, h⟩
  | clo f x => exact ⟨rfl, h⟩
  | _ => simp [plainD] at hp

/-- An argument that is a struct. -/
theorem arg_agg {t : TypeId} {v : Value} {d : DataW H} {p : List MemPlace} {fs : Array Field} {r : Reach} {b n : Nat} {ty : Ty} (hu : P.underlying t = some (.struct fs)) (hM : tyM P n ty t = true)
    (hval : Value.okWide P W r b t v) (h : DataW.Trod enc P W 0 sp held t v d p) : ∃ x : ty.den, okv ty x ∧ SRep W (gh0 W) none (.agg (ty.row x)) v := by
  obtain ⟨cs, rfl, _⟩ := okWide_struct hu hval
  obtain ⟨fuel, h⟩ := h
  obtain ⟨x, h1, h2, h3⟩ := read_ok n ty t fuel _ _ hM h
  refine ⟨x, h3, cs, rfl, ?_, fun j c u hc hu => ?_⟩
  · rw [row_len, ← h1]; simp [Value.cells]
  · refine plain_c (row_plain (List.mem_of_getElem? hc)) (h2 j c u hc ?_).1
    simpa [Value.cells] using hu

def Ty.basic : Ty → Bool
  | .int _ | .bool | .str | .lst _ => true
  | _ => false

/-- An argument of one cell. -/
theorem arg_one {t : TypeId} {v : Value} {d : DataW H} {p : List MemPlace} {n : Nat} {ty : Ty} (hM : tyM P n ty t = true) (hb : ty.basic = true)
    (hv : v.cells = #[v]) (h : DataW.Trod enc P W 0 sp held t v d p) : ∃ x : ty.den, okv ty x ∧ SRep W (gh0 W) none (cell1 (ty.cells x)).er v := by
  obtain ⟨fuel, h⟩ := h
  obtain ⟨x, h1, h2, h3⟩ := read_ok n ty t fuel _ _ hM h
  refine ⟨x, h3, ?_⟩
  have h4 : ∀ dv, ty.row x = [dv] → Rep W (cellsIn W) dv v := fun dv hdv => (h2 0 dv v (by rw [hdv]; rfl) (by rw [hv]; rfl)).1
  cases ty <;> simp only [Ty.basic, Bool.false_eq_true] at hb
  · exact h4 _ rfl
  · exact h4 _ rfl
  · exact h4 _ rfl
  · exact h4 _ rfl

/-- A law's call. -/
theorem law_run {tbl : List TE} {L k : Nat} {S : Sm} (hT : FMs P tbl) (hS : SmOK (den P (tblOf tbl) L k) S) {v : S.kin.den} {x : S.R} (hfn : S.fn v = some x)
    (hres : (resT (S.kout.enc (S.un x)).fr S.nres).er = .val (.bool true)) (hgl : (S.kin.enc v).gl.er = Gl.empty) {vs : Array Value} (hsz : vs.size = S.np)
    (hargs : ∀ (j : Nat) u, vs[j]? = some u → SRep W (gh0 W) none ((S.kin.enc v).fr.get j).er u) :
    Calls P S.f vs W fun e w' => e = .returned (.bool true) ∧ Below W.heap.size W w' := by
  have h := hS.ok v x hfn
  rw [hres, hgl] at h
  obtain ⟨_, hg⟩ := den_ok (tblOf_ok hT) L k _ _ _ _ _ h
  have hA : ArgsR W (gh0 W) ((List.range S.np).map fun i => ((S.kin.enc v).fr.get i).er) vs := by
    refine ⟨by simp [hsz], fun j d u hd hu => ?_⟩
    simp only [List.getElem?_map, Option.map_eq_some_iff] at hd
    obtain ⟨i, hi, rfl⟩ := hd
    have hj : j < S.np := by rw [← hsz]; exact (Array.getElem?_eq_some_iff.1 hu).1
    rw [List.getElem?_range hj] at hi
    simp only [Option.some.injEq] at hi
    subst hi
    exact hargs _ u hu
  refine (hg W _ _ vs (by simp [hsz]) (entry_inv W (gh0 W) hA (fun b hb => cellsIn_new hb) rfl)).mono fun e w' he => ?_
  obtain ⟨u, gh', rfl, hI⟩ := he
  have h0 := hI.slots 0
  simp only [exitS, upd, if_true] at h0
  have hu : u = .bool true := by cases h0; rfl
  subst hu
  refine ⟨rfl, hI.os, hI.tape, hI.output, hI.size, fun b hb => hI.frame b hb (by omega)⟩

end Go.AM
