/- For every job that can be read, the call of laws.FnExactValidJob returns true and leaves all memory as it was. -/
import Derived.Test.YtnglcmfgkcdgcaaGreatVjO
import Derived.Test.YtnglcmfgkcdgcaaGreatVjW5
import Derived.Test.YtnglcmfgkcdgcaaGreatAmR2
import Derived.Test.YtnglcmfgkcdgcaaGreatRows
import Derived.WalkKit
import Derived.ProofKit
namespace Go.Proofs.YtnglcmfgkcdgcaaGreat
open Go Go.AM
open Go.ChangeShapes Go.WideShapes Go.ChangeAt Go.RowKit
set_option linter.unusedVariables false
set_option maxRecDepth 100000

abbrev TJob : Ty := .pair (.pair (.pair (.int .i64) (.pair (.int .i64) (.pair (.lst (.pair (.int .i64) (.int .i64))) (.lst (.pair .str (.lst (.int .i64))))))) (.lst (.pair .str (.pair (.int .i64) (.int .i64))))) (.pair (.lst (.pair .str (.pair .str (.pair (.int .i64) (.pair (.pair .str (.pair (.int .i64) (.int .i64))) (.pair (.int .i64) (.pair (.int .i64) (.lst (.pair (.int .i64) (.pair (.int .i64) (.pair (.int .i64) (.int .i64)))))))))))) (.pair (.lst (.pair (.int .i64) (.pair (.int .i64) (.pair (.int .i64) (.pair (.int .i64) (.int .i64)))))) (.pair (.pair (.int .i64) (.pair (.int .i64) (.pair (.int .i64) (.int .i64)))) (.pair (.int .i64) (.pair (.int .i64) (.pair (.int .i64) (.pair (.int .i64) (.pair (.lst (.int .i64)) (.lst (.int .i64))))))))))
namespace fnExactValidJob
theorem own : ownKnob Tryz.prog.godebug = none := by kernel_rfl
theorem laidOut : laidOutB Tryz.prog = true := by kernel_rfl
theorem lifted (os : Os) (started : os.Started) (H : Type) (enc : TypeId × Value → H) :
    ReturnsInHanded {} Tryz.checked os 3 .any (Rows.fnExactValidJobSpec.pre6 enc Tryz.prog Tryz.f3 Rows.fnExactValidJobRow.domain false) (Rows.fnExactValidJobSpec.post enc Tryz.prog Tryz.f3 false true false false) := by
  refine returnsInHanded_of_change_sized (C := Tryz.checked) own started (by kernel_rfl) Tryz.func3
    (ChangeSpec.witness6 (enc := enc) (C := Tryz.checked) false ⟨#[], #[((Tryz.prog.info? 35).bind (·.zero)).getD .nilFunc], []⟩ 20 (by kernel_rfl) (by kernel_rfl) (by kernel_rfl) (by kernel_rfl)) ?_
  intro W base args ds gs before hval0 hW hcnd hsz0 _
  have hval : ∀ (j : Nat) t v, Tryz.f3.params[j]? = some t → args[j]? = some v → Value.okWide Tryz.prog W .any base t v := hval0
  have hW' := hW
  obtain ⟨p, q, hA0, hV, rfl, hfz, hnd⟩ := hW
  have hA : DataW.TrodAll enc Tryz.prog W 0 (fun _ => true) true Tryz.f3.params.toList args.toList ds p := hA0
  rw [Tryz.params3] at hA hval
  obtain ⟨v0, vs0, d0, ds0, p0, q0, hargs, rfl, rfl, h0, r0⟩ := trodAll_cons hA
  obtain ⟨rfl, rfl, rfl⟩ := trodAll_nil r0
  obtain rfl : args = #[v0] := by cases args; simp_all
  obtain ⟨rfl, rfl⟩ := trodVars_none hV
  have k0 := h0
  have lt0 : ∀ x ∈ p0, x.block < W.heap.size := by obtain ⟨m, hm⟩ := k0; exact DataW.trod_lt m _ _ _ hm
  obtain ⟨a0, ok0, s0⟩ := arg_agg (n := 30) (ty := TJob) (by exact Tryz.underlying35) (by kernel_rfl) (hval 0 35 v0 rfl rfl) h0
  obtain ⟨L, hL⟩ := pure_law a0 ok0
  refine (law_run (S := S3 L) (k := 20) tblM (O3 L 20 (by decide)) (v := (a0, ())) (x := true) hL rfl rfl (vs := #[v0]) rfl (fun j u hu => ?_)).mono fun e W' ⟨he, bel⟩ => ?_
  · match j, hu with
    | 0, hu => simp only [List.getElem?_toArray, List.getElem?_cons_zero, Option.some.injEq] at hu; subst hu; exact s0
    | j + 1, hu => simp at hu
  subst he
  exact ⟨_, rfl, _, _, _, [], _, [], hW', trodAll_mk1 (shut_bool Tryz.underlying4 _), (trodAll_cons_mk (Below.trod laidOut (by kernel_rfl) (of_decide_eq_true (by kernel_rfl)) k0 bel lt0) trodAll_mk0), rfl, bel.frame _, fun h => by cases h⟩
end fnExactValidJob
end Go.Proofs.YtnglcmfgkcdgcaaGreat
