/- For every argument that can be read, the call of laws.FnExactValidDesk returns true and leaves all memory as it was. -/
import Derived.Test.YtnglcmfgkcdgcaaGreatVdO
import Derived.Test.YtnglcmfgkcdgcaaGreatVdPValidDesk
import Derived.Test.YtnglcmfgkcdgcaaGreatAmR2
import Derived.Test.YtnglcmfgkcdgcaaGreatRows
import Derived.WalkKit
import Derived.ProofKit
namespace Go.Proofs.YtnglcmfgkcdgcaaGreat
open Go Go.AM
open Go.ChangeShapes Go.WideShapes Go.ChangeAt Go.RowKit
set_option linter.unusedVariables false
set_option linter.unusedSimpArgs false
set_option maxRecDepth 100000
namespace fnExactValidDesk
theorem own : ownKnob Tryz.prog.godebug = none := by kernel_rfl
theorem laidOut : laidOutB Tryz.prog = true := by kernel_rfl
theorem lifted (os : Os) (started : os.Started) (H : Type) (enc : TypeId × Value → H) :
    ReturnsInHanded {} Tryz.checked os 7 .any (Rows.fnExactValidDeskSpec.pre6 enc Tryz.prog Tryz.f7 Rows.fnExactValidDeskRow.domain false) (Rows.fnExactValidDeskSpec.post enc Tryz.prog Tryz.f7 false true false false) := by
  refine returnsInHanded_of_change_sized (C := Tryz.checked) own started (by kernel_rfl) Tryz.func7
    (ChangeSpec.witness6 (enc := enc) (C := Tryz.checked) false ⟨#[], #[((Tryz.prog.info? 75).bind (·.zero)).getD .nilFunc], []⟩ 20 (by kernel_rfl) (by kernel_rfl) (by kernel_rfl) (by kernel_rfl)) ?_
  intro W base args ds gs before hval0 hW hcnd hsz0 _
  have hval : ∀ (j : Nat) t v, Tryz.f7.params[j]? = some t → args[j]? = some v → Value.okWide Tryz.prog W .any base t v := hval0
  have hW' := hW
  obtain ⟨p, q, hA0, hV, rfl, hfz, hnd⟩ := hW
  have hA : DataW.TrodAll enc Tryz.prog W 0 (fun _ => true) true Tryz.f7.params.toList args.toList ds p := hA0
  rw [Tryz.params7] at hA hval
  obtain ⟨v0, vs0, d0, ds0, p0, q0, hargs, rfl, rfl, h0, r0⟩ := trodAll_cons hA
  obtain ⟨rfl, rfl, rfl⟩ := trodAll_nil r0
  obtain rfl : args = #[v0] := by cases args; simp_all
  obtain ⟨rfl, rfl⟩ := trodVars_none hV
  have k0 := h0
  have lt0 : ∀ x ∈ p0, x.block < W.heap.size := by obtain ⟨m, hm⟩ := k0; exact DataW.trod_lt m _ _ _ hm
  obtain ⟨a0, ok0, s0⟩ := arg_agg (n := 40) (ty := (.pair (.pair (.pair (.pair (.int .i64) (.pair (.int .i64) (.pair (.lst (.pair (.int .i64) (.int .i64))) (.lst (.pair .str (.lst (.int .i64))))))) (.lst (.pair .str (.pair (.int .i64) (.int .i64))))) (.pair (.lst (.pair .str (.pair .str (.pair (.int .i64) (.pair (.pair .str (.pair (.int .i64) (.int .i64))) (.pair (.int .i64) (.pair (.int .i64) (.lst (.pair (.int .i64) (.pair (.int .i64) (.pair (.int .i64) (.int .i64)))))))))))) (.pair (.lst (.pair (.int .i64) (.pair (.int .i64) (.pair (.int .i64) (.pair (.int .i64) (.int .i64)))))) (.pair (.pair (.int .i64) (.pair (.int .i64) (.pair (.int .i64) (.int .i64)))) (.pair (.int .i64) (.pair (.int .i64) (.pair (.int .i64) (.pair (.int .i64) (.pair (.lst (.int .i64)) (.lst (.int .i64))))))))))) (.pair (.lst (.pair .str (.pair (.int .i64) (.pair (.int .i64) (.int .i64))))) (.pair (.lst (.pair .str (.pair (.int .i64) (.pair (.int .i64) (.int .i64))))) (.pair (.int .i64) (.pair (.int .i64) (.pair (.int .i64) (.pair (.int .i64) (.int .i64))))))))) Tryz.underlying75 (by kernel_rfl) (hval 0 75 v0 rfl rfl) h0
  obtain ⟨L, hL⟩ := pure_law a0 ok0
  refine (law_run (S := S7 L) (k := 11) tblM (O7 L 11 (by decide)) (v := (a0, ())) (x := true) hL rfl rfl (vs := #[v0]) rfl (fun j u hu => ?_)).mono fun e W' ⟨he, bel⟩ => ?_
  · match j, hu with
    | 0, hu => simp only [List.getElem?_toArray, List.getElem?_cons_zero, Option.some.injEq] at hu; subst hu; exact s0
    | j + 1, hu => simp at hu
  subst he
  exact ⟨_, rfl, _, _, _, [], _, [], hW', trodAll_mk1 (shut_bool Tryz.underlying4 _), (trodAll_cons_mk (Below.trod laidOut (by kernel_rfl) (of_decide_eq_true (by kernel_rfl)) k0 bel lt0) trodAll_mk0), rfl, bel.frame _, fun h => by cases h⟩
end fnExactValidDesk
end Go.Proofs.YtnglcmfgkcdgcaaGreat
