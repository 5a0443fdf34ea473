/- Tables of typed functions. -/
import Derived.Test.YtnglcmfgkcdgcaaGreatAmT7
namespace Go.AM
open Go
set_option linter.unusedVariables false

def AllOK (call : Call) : List Sm → Prop
  | [] => True
  | S :: r => SmOK call S ∧ AllOK call r

theorem AllOK.mem {call : Call} : ∀ {l : List Sm}, AllOK call l → ∀ S ∈ l, SmOK call S
  | [], _, S, h => by simp at h
  | A :: r, hA, S, h => by
    simp only [List.mem_cons] at h
    rcases h with rfl | h
    · exact hA.1
    · exact hA.2.mem S h

/-- One function of a table, on those that it calls. -/
theorem fn_ok {P : Program} {tbl : FuncId → List DV → Option AF} {L d : Nat} {S : Sm} {sig : List Sm} {af : AF} {pr : S.kout.den → S.R}
    (hK : ∀ v, funK P sig L af S.kin S.nres S.kout pr v = S.fn v) (hd : ∀ k, d ≤ k → AllOK (den P tbl L k) sig)
    (haf : ∀ v : S.kin.den, tbl S.f ((List.range S.np).map fun i => ((S.kin.enc v).fr.get i).er) = some af) (hnp : af.nparams = S.np) (hun : ∀ y, S.un (pr y) = y) (hgood : S.kin.args S.np = true) :
    ∀ k, d + 1 ≤ k → SmOK (den P tbl L k) S := by
  intro k hk
  obtain ⟨k, rfl⟩ : ∃ m, k = m + 1 := ⟨k - 1, by omega⟩
  exact fun_ok haf hnp (hd k (by omega)).mem hun hgood (fun v x h => by rw [hK v]; exact h)

end Go.AM
