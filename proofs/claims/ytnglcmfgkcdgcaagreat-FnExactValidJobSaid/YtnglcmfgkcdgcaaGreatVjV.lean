import Derived.Test.YtnglcmfgkcdgcaaGreatVjF
import Derived.Test.YtnglcmfgkcdgcaaGreatAmM0
namespace Go.Proofs.YtnglcmfgkcdgcaaGreat
open Go Go.AM
set_option linter.unusedVariables false
set_option linter.unusedSimpArgs false
theorem sz55 {L : Nat} (hL : 4294967296 < L) (x : Ty.den (.lst (.pair (.int .i64) (.int .i64)))) (h : okv (.lst (.pair (.int .i64) (.int .i64))) x) (l : Int) (h0 : 0 ≤ l) (h1 : l ≤ 1048576) : Sz (F55 x l) l (sm (.lst (.pair (.int .i64) (.int .i64))) x) := by
  unfold F55
  (try simp only [w64])
  simp only [wrap_sub h0 h1 h.1]
  exact (sz_sub h0 h1 fun h2 => sz_ret h2 trivial).mono (Int.le_refl _) (fun h => by simpa [sm] using h)
theorem sz38 {L : Nat} (hL : 4294967296 < L) (x : Ty.den (.lst (.int .i64))) (h : okv (.lst (.int .i64)) x) (l : Int) (h0 : 0 ≤ l) (h1 : l ≤ 1048576) : Sz (F38 x l) l (sm (.lst (.int .i64)) x) := by
  unfold F38
  (try simp only [w64])
  simp only [wrap_sub h0 h1 h.1]
  exact (sz_sub h0 h1 fun h2 => sz_ret h2 trivial).mono (Int.le_refl _) (fun h => by simpa [sm] using h)
theorem sz105 {L : Nat} (hL : 4294967296 < L) (x : Ty.den (.pair .str (.lst (.int .i64)))) (h : okv (.pair .str (.lst (.int .i64))) x) (l : Int) (h0 : 0 ≤ l) (h1 : l ≤ 1048576) : Sz (F105 x l) l (sm (.pair .str (.lst (.int .i64))) x) := by
  unfold F105
  (try simp only [w64])
  refine Sz.mono (s := (x.1.size ≤ 1048576 ∧ (sm (.lst (.int .i64)) x.2 ∧ True))) ?_ (Int.le_refl _) (fun h => by simpa [sm, and_assoc] using h)
  simp only [wrap_sub (left := l) (by omega) (by omega) h.1]
  refine sz_sub (by omega) (by omega) fun k0 => ?_
  refine sz_bind (by omega) (sz38 hL x.2 h.2 _ (by omega) (by omega)) fun r1 p1 q1 s1 => ?_
  exact sz_ret (by omega) trivial
theorem sz56 {L : Nat} (hL : 4294967296 < L) (x : Ty.den (.lst (.pair .str (.lst (.int .i64))))) (h : okv (.lst (.pair .str (.lst (.int .i64)))) x) (l : Int) (h0 : 0 ≤ l) (h1 : l ≤ 1048576) : Sz (F56 L x l) l (sm (.lst (.pair .str (.lst (.int .i64)))) x) := by
  unfold F56
  (try simp only [w64])
  simp only [wrap_sub h0 h1 h.1]
  refine (sz_sub h0 h1 fun h2 => sz_list (f := F56_l0 L) (g := F105) (P := sm (.pair .str (.lst (.int .i64)))) (fun v => rfl) (fun y hy l h3 h4 => sz105 hL y (h.2 y hy) l h3 h4) h2 (by omega) (by omega) hL).mono (Int.le_refl _) (fun h => h)
theorem sz13 {L : Nat} (hL : 4294967296 < L) (x : Ty.den (.pair (.int .i64) (.pair (.int .i64) (.pair (.lst (.pair (.int .i64) (.int .i64))) (.lst (.pair .str (.lst (.int .i64)))))))) (h : okv (.pair (.int .i64) (.pair (.int .i64) (.pair (.lst (.pair (.int .i64) (.int .i64))) (.lst (.pair .str (.lst (.int .i64))))))) x) (l : Int) (h0 : 0 ≤ l) (h1 : l ≤ 1048576) : Sz (F13 L x l) l (sm (.pair (.int .i64) (.pair (.int .i64) (.pair (.lst (.pair (.int .i64) (.int .i64))) (.lst (.pair .str (.lst (.int .i64))))))) x) := by
  unfold F13
  (try simp only [w64])
  refine Sz.mono (s := (sm (.lst (.pair (.int .i64) (.int .i64))) x.2.2.1 ∧ (sm (.lst (.pair .str (.lst (.int .i64)))) x.2.2.2 ∧ True))) ?_ (Int.le_refl _) (fun h => by simpa [sm, and_assoc] using h)
  refine sz_bind (by omega) (sz55 hL x.2.2.1 h.2.2.1 _ (by omega) (by omega)) fun r0 p0 q0 s0 => ?_
  refine sz_bind (by omega) (sz56 hL x.2.2.2 h.2.2.2 _ (by omega) (by omega)) fun r1 p1 q1 s1 => ?_
  exact sz_ret (by omega) trivial
theorem sz57 {L : Nat} (hL : 4294967296 < L) (x : Ty.den (.pair .str (.pair (.int .i64) (.int .i64)))) (h : okv (.pair .str (.pair (.int .i64) (.int .i64))) x) (l : Int) (h0 : 0 ≤ l) (h1 : l ≤ 1048576) : Sz (F57 x l) l (sm (.pair .str (.pair (.int .i64) (.int .i64))) x) := by
  unfold F57
  (try simp only [w64])
  refine Sz.mono (s := (x.1.size ≤ 1048576 ∧ True)) ?_ (Int.le_refl _) (fun h => by simpa [sm, and_assoc] using h)
  simp only [wrap_sub (left := l) (by omega) (by omega) h.1]
  refine sz_sub (by omega) (by omega) fun k0 => ?_
  exact sz_ret (by omega) trivial
theorem sz14 {L : Nat} (hL : 4294967296 < L) (x : Ty.den (.lst (.pair .str (.pair (.int .i64) (.int .i64))))) (h : okv (.lst (.pair .str (.pair (.int .i64) (.int .i64)))) x) (l : Int) (h0 : 0 ≤ l) (h1 : l ≤ 1048576) : Sz (F14 L x l) l (sm (.lst (.pair .str (.pair (.int .i64) (.int .i64)))) x) := by
  unfold F14
  (try simp only [w64])
  simp only [wrap_sub h0 h1 h.1]
  refine (sz_sub h0 h1 fun h2 => sz_list (f := F14_l0 L) (g := F57) (P := sm (.pair .str (.pair (.int .i64) (.int .i64)))) (fun v => rfl) (fun y hy l h3 h4 => sz57 hL y (h.2 y hy) l h3 h4) h2 (by omega) (by omega) hL).mono (Int.le_refl _) (fun h => h)
theorem sz35 {L : Nat} (hL : 4294967296 < L) (x : Ty.den (.pair (.pair (.int .i64) (.pair (.int .i64) (.pair (.lst (.pair (.int .i64) (.int .i64))) (.lst (.pair .str (.lst (.int .i64))))))) (.lst (.pair .str (.pair (.int .i64) (.int .i64)))))) (h : okv (.pair (.pair (.int .i64) (.pair (.int .i64) (.pair (.lst (.pair (.int .i64) (.int .i64))) (.lst (.pair .str (.lst (.int .i64))))))) (.lst (.pair .str (.pair (.int .i64) (.int .i64))))) x) (l : Int) (h0 : 0 ≤ l) (h1 : l ≤ 1048576) : Sz (F35 L x l) l (sm (.pair (.pair (.int .i64) (.pair (.int .i64) (.pair (.lst (.pair (.int .i64) (.int .i64))) (.lst (.pair .str (.lst (.int .i64))))))) (.lst (.pair .str (.pair (.int .i64) (.int .i64))))) x) := by
  unfold F35
  (try simp only [w64])
  refine Sz.mono (s := (sm (.pair (.int .i64) (.pair (.int .i64) (.pair (.lst (.pair (.int .i64) (.int .i64))) (.lst (.pair .str (.lst (.int .i64))))))) x.1 ∧ (sm (.lst (.pair .str (.pair (.int .i64) (.int .i64)))) x.2 ∧ True))) ?_ (Int.le_refl _) (fun h => by simpa [sm, and_assoc] using h)
  refine sz_bind (by omega) (sz13 hL x.1 h.1 _ (by omega) (by omega)) fun r0 p0 q0 s0 => ?_
  refine sz_bind (by omega) (sz14 hL x.2 h.2 _ (by omega) (by omega)) fun r1 p1 q1 s1 => ?_
  exact sz_ret (by omega) trivial
theorem sz138 {L : Nat} (hL : 4294967296 < L) (x : Ty.den (.lst (.pair (.int .i64) (.pair (.int .i64) (.pair (.int .i64) (.int .i64)))))) (h : okv (.lst (.pair (.int .i64) (.pair (.int .i64) (.pair (.int .i64) (.int .i64))))) x) (l : Int) (h0 : 0 ≤ l) (h1 : l ≤ 1048576) : Sz (F138 x l) l (sm (.lst (.pair (.int .i64) (.pair (.int .i64) (.pair (.int .i64) (.int .i64))))) x) := by
  unfold F138
  (try simp only [w64])
  simp only [wrap_sub h0 h1 h.1]
  exact (sz_sub h0 h1 fun h2 => sz_ret h2 trivial).mono (Int.le_refl _) (fun h => by simpa [sm] using h)
theorem sz86 {L : Nat} (hL : 4294967296 < L) (x : Ty.den (.pair .str (.pair .str (.pair (.int .i64) (.pair (.pair .str (.pair (.int .i64) (.int .i64))) (.pair (.int .i64) (.pair (.int .i64) (.lst (.pair (.int .i64) (.pair (.int .i64) (.pair (.int .i64) (.int .i64)))))))))))) (h : okv (.pair .str (.pair .str (.pair (.int .i64) (.pair (.pair .str (.pair (.int .i64) (.int .i64))) (.pair (.int .i64) (.pair (.int .i64) (.lst (.pair (.int .i64) (.pair (.int .i64) (.pair (.int .i64) (.int .i64))))))))))) x) (l : Int) (h0 : 0 ≤ l) (h1 : l ≤ 1048576) : Sz (F86 x l) l (sm (.pair .str (.pair .str (.pair (.int .i64) (.pair (.pair .str (.pair (.int .i64) (.int .i64))) (.pair (.int .i64) (.pair (.int .i64) (.lst (.pair (.int .i64) (.pair (.int .i64) (.pair (.int .i64) (.int .i64))))))))))) x) := by
  unfold F86
  (try simp only [w64])
  refine Sz.mono (s := (x.1.size ≤ 1048576 ∧ (x.2.1.size ≤ 1048576 ∧ (sm (.pair .str (.pair (.int .i64) (.int .i64))) x.2.2.2.1 ∧ (sm (.lst (.pair (.int .i64) (.pair (.int .i64) (.pair (.int .i64) (.int .i64))))) x.2.2.2.2.2.2 ∧ True))))) ?_ (Int.le_refl _) (fun h => by simpa [sm, and_assoc] using h)
  simp only [wrap_sub (left := l) (by omega) (by omega) h.1]
  refine sz_sub (by omega) (by omega) fun k0 => ?_
  simp only [wrap_sub (left := (l - (x.1.size : Int))) (by omega) (by omega) h.2.1]
  refine sz_sub (by omega) (by omega) fun k1 => ?_
  refine sz_bind (by omega) (sz57 hL x.2.2.2.1 h.2.2.2.1 _ (by omega) (by omega)) fun r2 p2 q2 s2 => ?_
  refine sz_bind (by omega) (sz138 hL x.2.2.2.2.2.2 h.2.2.2.2.2.2 _ (by omega) (by omega)) fun r3 p3 q3 s3 => ?_
  exact sz_ret (by omega) trivial
theorem sz36 {L : Nat} (hL : 4294967296 < L) (x : Ty.den (.lst (.pair .str (.pair .str (.pair (.int .i64) (.pair (.pair .str (.pair (.int .i64) (.int .i64))) (.pair (.int .i64) (.pair (.int .i64) (.lst (.pair (.int .i64) (.pair (.int .i64) (.pair (.int .i64) (.int .i64))))))))))))) (h : okv (.lst (.pair .str (.pair .str (.pair (.int .i64) (.pair (.pair .str (.pair (.int .i64) (.int .i64))) (.pair (.int .i64) (.pair (.int .i64) (.lst (.pair (.int .i64) (.pair (.int .i64) (.pair (.int .i64) (.int .i64)))))))))))) x) (l : Int) (h0 : 0 ≤ l) (h1 : l ≤ 1048576) : Sz (F36 L x l) l (sm (.lst (.pair .str (.pair .str (.pair (.int .i64) (.pair (.pair .str (.pair (.int .i64) (.int .i64))) (.pair (.int .i64) (.pair (.int .i64) (.lst (.pair (.int .i64) (.pair (.int .i64) (.pair (.int .i64) (.int .i64)))))))))))) x) := by
  unfold F36
  (try simp only [w64])
  simp only [wrap_sub h0 h1 h.1]
  refine (sz_sub h0 h1 fun h2 => sz_list (f := F36_l0 L) (g := F86) (P := sm (.pair .str (.pair .str (.pair (.int .i64) (.pair (.pair .str (.pair (.int .i64) (.int .i64))) (.pair (.int .i64) (.pair (.int .i64) (.lst (.pair (.int .i64) (.pair (.int .i64) (.pair (.int .i64) (.int .i64)))))))))))) (fun v => rfl) (fun y hy l h3 h4 => sz86 hL y (h.2 y hy) l h3 h4) h2 (by omega) (by omega) hL).mono (Int.le_refl _) (fun h => h)
theorem sz37 {L : Nat} (hL : 4294967296 < L) (x : Ty.den (.lst (.pair (.int .i64) (.pair (.int .i64) (.pair (.int .i64) (.pair (.int .i64) (.int .i64))))))) (h : okv (.lst (.pair (.int .i64) (.pair (.int .i64) (.pair (.int .i64) (.pair (.int .i64) (.int .i64)))))) x) (l : Int) (h0 : 0 ≤ l) (h1 : l ≤ 1048576) : Sz (F37 x l) l (sm (.lst (.pair (.int .i64) (.pair (.int .i64) (.pair (.int .i64) (.pair (.int .i64) (.int .i64)))))) x) := by
  unfold F37
  (try simp only [w64])
  simp only [wrap_sub h0 h1 h.1]
  exact (sz_sub h0 h1 fun h2 => sz_ret h2 trivial).mono (Int.le_refl _) (fun h => by simpa [sm] using h)
theorem sz8 {L : Nat} (hL : 4294967296 < L) (x : Ty.den (.pair (.pair (.pair (.int .i64) (.pair (.int .i64) (.pair (.lst (.pair (.int .i64) (.int .i64))) (.lst (.pair .str (.lst (.int .i64))))))) (.lst (.pair .str (.pair (.int .i64) (.int .i64))))) (.pair (.lst (.pair .str (.pair .str (.pair (.int .i64) (.pair (.pair .str (.pair (.int .i64) (.int .i64))) (.pair (.int .i64) (.pair (.int .i64) (.lst (.pair (.int .i64) (.pair (.int .i64) (.pair (.int .i64) (.int .i64)))))))))))) (.pair (.lst (.pair (.int .i64) (.pair (.int .i64) (.pair (.int .i64) (.pair (.int .i64) (.int .i64)))))) (.pair (.pair (.int .i64) (.pair (.int .i64) (.pair (.int .i64) (.int .i64)))) (.pair (.int .i64) (.pair (.int .i64) (.pair (.int .i64) (.pair (.int .i64) (.pair (.lst (.int .i64)) (.lst (.int .i64)))))))))))) (h : okv (.pair (.pair (.pair (.int .i64) (.pair (.int .i64) (.pair (.lst (.pair (.int .i64) (.int .i64))) (.lst (.pair .str (.lst (.int .i64))))))) (.lst (.pair .str (.pair (.int .i64) (.int .i64))))) (.pair (.lst (.pair .str (.pair .str (.pair (.int .i64) (.pair (.pair .str (.pair (.int .i64) (.int .i64))) (.pair (.int .i64) (.pair (.int .i64) (.lst (.pair (.int .i64) (.pair (.int .i64) (.pair (.int .i64) (.int .i64)))))))))))) (.pair (.lst (.pair (.int .i64) (.pair (.int .i64) (.pair (.int .i64) (.pair (.int .i64) (.int .i64)))))) (.pair (.pair (.int .i64) (.pair (.int .i64) (.pair (.int .i64) (.int .i64)))) (.pair (.int .i64) (.pair (.int .i64) (.pair (.int .i64) (.pair (.int .i64) (.pair (.lst (.int .i64)) (.lst (.int .i64))))))))))) x) (l : Int) (h0 : 0 ≤ l) (h1 : l ≤ 1048576) : Sz (F8 L x l) l (sm (.pair (.pair (.pair (.int .i64) (.pair (.int .i64) (.pair (.lst (.pair (.int .i64) (.int .i64))) (.lst (.pair .str (.lst (.int .i64))))))) (.lst (.pair .str (.pair (.int .i64) (.int .i64))))) (.pair (.lst (.pair .str (.pair .str (.pair (.int .i64) (.pair (.pair .str (.pair (.int .i64) (.int .i64))) (.pair (.int .i64) (.pair (.int .i64) (.lst (.pair (.int .i64) (.pair (.int .i64) (.pair (.int .i64) (.int .i64)))))))))))) (.pair (.lst (.pair (.int .i64) (.pair (.int .i64) (.pair (.int .i64) (.pair (.int .i64) (.int .i64)))))) (.pair (.pair (.int .i64) (.pair (.int .i64) (.pair (.int .i64) (.int .i64)))) (.pair (.int .i64) (.pair (.int .i64) (.pair (.int .i64) (.pair (.int .i64) (.pair (.lst (.int .i64)) (.lst (.int .i64))))))))))) x) := by
  unfold F8
  (try simp only [w64])
  refine Sz.mono (s := (sm (.pair (.pair (.int .i64) (.pair (.int .i64) (.pair (.lst (.pair (.int .i64) (.int .i64))) (.lst (.pair .str (.lst (.int .i64))))))) (.lst (.pair .str (.pair (.int .i64) (.int .i64))))) x.1 ∧ (sm (.lst (.pair .str (.pair .str (.pair (.int .i64) (.pair (.pair .str (.pair (.int .i64) (.int .i64))) (.pair (.int .i64) (.pair (.int .i64) (.lst (.pair (.int .i64) (.pair (.int .i64) (.pair (.int .i64) (.int .i64)))))))))))) x.2.1 ∧ (sm (.lst (.pair (.int .i64) (.pair (.int .i64) (.pair (.int .i64) (.pair (.int .i64) (.int .i64)))))) x.2.2.1 ∧ (sm (.lst (.int .i64)) x.2.2.2.2.2.2.2.2.1 ∧ (sm (.lst (.int .i64)) x.2.2.2.2.2.2.2.2.2 ∧ True)))))) ?_ (Int.le_refl _) (fun h => by simpa [sm, and_assoc] using h)
  refine sz_bind (by omega) (sz35 hL x.1 h.1 _ (by omega) (by omega)) fun r0 p0 q0 s0 => ?_
  refine sz_bind (by omega) (sz36 hL x.2.1 h.2.1 _ (by omega) (by omega)) fun r1 p1 q1 s1 => ?_
  refine sz_bind (by omega) (sz37 hL x.2.2.1 h.2.2.1 _ (by omega) (by omega)) fun r2 p2 q2 s2 => ?_
  refine sz_bind (by omega) (sz38 hL x.2.2.2.2.2.2.2.2.1 h.2.2.2.2.2.2.2.2.1 _ (by omega) (by omega)) fun r3 p3 q3 s3 => ?_
  refine sz_bind (by omega) (sz38 hL x.2.2.2.2.2.2.2.2.2 h.2.2.2.2.2.2.2.2.2 _ (by omega) (by omega)) fun r4 p4 q4 s4 => ?_
  exact sz_ret (by omega) trivial
theorem to113 {L : Nat} (hL : 4294967296 < L) (x : Ty.den (.pair (.int .i64) (.int .i64))) (h : sm (.pair (.int .i64) (.int .i64)) x) : F113 x = some x := by
  simp only [F113, Option.bind_some]
theorem to62 {L : Nat} (hL : 4294967296 < L) (x : Ty.den (.lst (.pair (.int .i64) (.int .i64)))) (h : sm (.lst (.pair (.int .i64) (.int .i64))) x) : F62 L x = some x := to_all (f := F62_l0 L) (g := F113) rfl (fun v => rfl) (fun x hx => to113 hL x (h.2 x hx)) h.1 hL
theorem to44 {L : Nat} (hL : 4294967296 < L) (x : Ty.den (.lst (.int .i64))) (h : sm (.lst (.int .i64)) x) : F44 L x = some x := to_all (f := F44_l0 L) (g := some) rfl (fun v => rfl) (fun _ _ => rfl) h.1 hL
theorem to114 {L : Nat} (hL : 4294967296 < L) (x : Ty.den (.pair .str (.lst (.int .i64)))) (h : sm (.pair .str (.lst (.int .i64))) x) : F114 L x = some x := by
  simp only [F114, to44 hL x.2 h.2, Option.bind_some]
theorem to63 {L : Nat} (hL : 4294967296 < L) (x : Ty.den (.lst (.pair .str (.lst (.int .i64))))) (h : sm (.lst (.pair .str (.lst (.int .i64)))) x) : F63 L x = some x := to_all (f := F63_l0 L) (g := F114 L) rfl (fun v => rfl) (fun x hx => to114 hL x (h.2 x hx)) h.1 hL
theorem to16 {L : Nat} (hL : 4294967296 < L) (x : Ty.den (.pair (.int .i64) (.pair (.int .i64) (.pair (.lst (.pair (.int .i64) (.int .i64))) (.lst (.pair .str (.lst (.int .i64)))))))) (h : sm (.pair (.int .i64) (.pair (.int .i64) (.pair (.lst (.pair (.int .i64) (.int .i64))) (.lst (.pair .str (.lst (.int .i64))))))) x) : F16 L x = some x := by
  simp only [F16, to62 hL x.2.2.1 h.2.2.1, to63 hL x.2.2.2 h.2.2.2, Option.bind_some]
theorem to64 {L : Nat} (hL : 4294967296 < L) (x : Ty.den (.pair .str (.pair (.int .i64) (.int .i64)))) (h : sm (.pair .str (.pair (.int .i64) (.int .i64))) x) : F64 x = some x := by
  simp only [F64, Option.bind_some]
theorem to17 {L : Nat} (hL : 4294967296 < L) (x : Ty.den (.lst (.pair .str (.pair (.int .i64) (.int .i64))))) (h : sm (.lst (.pair .str (.pair (.int .i64) (.int .i64)))) x) : F17 L x = some x := to_all (f := F17_l0 L) (g := F64) rfl (fun v => rfl) (fun x hx => to64 hL x (h.2 x hx)) h.1 hL
theorem to40 {L : Nat} (hL : 4294967296 < L) (x : Ty.den (.pair (.pair (.int .i64) (.pair (.int .i64) (.pair (.lst (.pair (.int .i64) (.int .i64))) (.lst (.pair .str (.lst (.int .i64))))))) (.lst (.pair .str (.pair (.int .i64) (.int .i64)))))) (h : sm (.pair (.pair (.int .i64) (.pair (.int .i64) (.pair (.lst (.pair (.int .i64) (.int .i64))) (.lst (.pair .str (.lst (.int .i64))))))) (.lst (.pair .str (.pair (.int .i64) (.int .i64))))) x) : F40 L x = some x := by
  simp only [F40, to16 hL x.1 h.1, to17 hL x.2 h.2, Option.bind_some]
theorem to173 {L : Nat} (hL : 4294967296 < L) (x : Ty.den (.pair (.int .i64) (.pair (.int .i64) (.pair (.int .i64) (.int .i64))))) (h : sm (.pair (.int .i64) (.pair (.int .i64) (.pair (.int .i64) (.int .i64)))) x) : F173 x = some x := by
  simp only [F173, Option.bind_some]
theorem to142 {L : Nat} (hL : 4294967296 < L) (x : Ty.den (.lst (.pair (.int .i64) (.pair (.int .i64) (.pair (.int .i64) (.int .i64)))))) (h : sm (.lst (.pair (.int .i64) (.pair (.int .i64) (.pair (.int .i64) (.int .i64))))) x) : F142 L x = some x := to_all (f := F142_l0 L) (g := F173) rfl (fun v => rfl) (fun x hx => to173 hL x (h.2 x hx)) h.1 hL
theorem to96 {L : Nat} (hL : 4294967296 < L) (x : Ty.den (.pair .str (.pair .str (.pair (.int .i64) (.pair (.pair .str (.pair (.int .i64) (.int .i64))) (.pair (.int .i64) (.pair (.int .i64) (.lst (.pair (.int .i64) (.pair (.int .i64) (.pair (.int .i64) (.int .i64)))))))))))) (h : sm (.pair .str (.pair .str (.pair (.int .i64) (.pair (.pair .str (.pair (.int .i64) (.int .i64))) (.pair (.int .i64) (.pair (.int .i64) (.lst (.pair (.int .i64) (.pair (.int .i64) (.pair (.int .i64) (.int .i64))))))))))) x) : F96 L x = some x := by
  simp only [F96, to64 hL x.2.2.2.1 h.2.2.2.1, to142 hL x.2.2.2.2.2.2 h.2.2.2.2.2.2, Option.bind_some]
theorem to41 {L : Nat} (hL : 4294967296 < L) (x : Ty.den (.lst (.pair .str (.pair .str (.pair (.int .i64) (.pair (.pair .str (.pair (.int .i64) (.int .i64))) (.pair (.int .i64) (.pair (.int .i64) (.lst (.pair (.int .i64) (.pair (.int .i64) (.pair (.int .i64) (.int .i64))))))))))))) (h : sm (.lst (.pair .str (.pair .str (.pair (.int .i64) (.pair (.pair .str (.pair (.int .i64) (.int .i64))) (.pair (.int .i64) (.pair (.int .i64) (.lst (.pair (.int .i64) (.pair (.int .i64) (.pair (.int .i64) (.int .i64)))))))))))) x) : F41 L x = some x := to_all (f := F41_l0 L) (g := F96 L) rfl (fun v => rfl) (fun x hx => to96 hL x (h.2 x hx)) h.1 hL
theorem to97 {L : Nat} (hL : 4294967296 < L) (x : Ty.den (.pair (.int .i64) (.pair (.int .i64) (.pair (.int .i64) (.pair (.int .i64) (.int .i64)))))) (h : sm (.pair (.int .i64) (.pair (.int .i64) (.pair (.int .i64) (.pair (.int .i64) (.int .i64))))) x) : F97 x = some x := by
  simp only [F97, Option.bind_some]
theorem to42 {L : Nat} (hL : 4294967296 < L) (x : Ty.den (.lst (.pair (.int .i64) (.pair (.int .i64) (.pair (.int .i64) (.pair (.int .i64) (.int .i64))))))) (h : sm (.lst (.pair (.int .i64) (.pair (.int .i64) (.pair (.int .i64) (.pair (.int .i64) (.int .i64)))))) x) : F42 L x = some x := to_all (f := F42_l0 L) (g := F97) rfl (fun v => rfl) (fun x hx => to97 hL x (h.2 x hx)) h.1 hL
theorem to43 {L : Nat} (hL : 4294967296 < L) (x : Ty.den (.pair (.int .i64) (.pair (.int .i64) (.pair (.int .i64) (.int .i64))))) (h : sm (.pair (.int .i64) (.pair (.int .i64) (.pair (.int .i64) (.int .i64)))) x) : F43 x = some x := by
  simp only [F43, Option.bind_some]
theorem to10 {L : Nat} (hL : 4294967296 < L) (x : Ty.den (.pair (.pair (.pair (.int .i64) (.pair (.int .i64) (.pair (.lst (.pair (.int .i64) (.int .i64))) (.lst (.pair .str (.lst (.int .i64))))))) (.lst (.pair .str (.pair (.int .i64) (.int .i64))))) (.pair (.lst (.pair .str (.pair .str (.pair (.int .i64) (.pair (.pair .str (.pair (.int .i64) (.int .i64))) (.pair (.int .i64) (.pair (.int .i64) (.lst (.pair (.int .i64) (.pair (.int .i64) (.pair (.int .i64) (.int .i64)))))))))))) (.pair (.lst (.pair (.int .i64) (.pair (.int .i64) (.pair (.int .i64) (.pair (.int .i64) (.int .i64)))))) (.pair (.pair (.int .i64) (.pair (.int .i64) (.pair (.int .i64) (.int .i64)))) (.pair (.int .i64) (.pair (.int .i64) (.pair (.int .i64) (.pair (.int .i64) (.pair (.lst (.int .i64)) (.lst (.int .i64)))))))))))) (h : sm (.pair (.pair (.pair (.int .i64) (.pair (.int .i64) (.pair (.lst (.pair (.int .i64) (.int .i64))) (.lst (.pair .str (.lst (.int .i64))))))) (.lst (.pair .str (.pair (.int .i64) (.int .i64))))) (.pair (.lst (.pair .str (.pair .str (.pair (.int .i64) (.pair (.pair .str (.pair (.int .i64) (.int .i64))) (.pair (.int .i64) (.pair (.int .i64) (.lst (.pair (.int .i64) (.pair (.int .i64) (.pair (.int .i64) (.int .i64)))))))))))) (.pair (.lst (.pair (.int .i64) (.pair (.int .i64) (.pair (.int .i64) (.pair (.int .i64) (.int .i64)))))) (.pair (.pair (.int .i64) (.pair (.int .i64) (.pair (.int .i64) (.int .i64)))) (.pair (.int .i64) (.pair (.int .i64) (.pair (.int .i64) (.pair (.int .i64) (.pair (.lst (.int .i64)) (.lst (.int .i64))))))))))) x) : F10 L x = some x := by
  simp only [F10, to40 hL x.1 h.1, to41 hL x.2.1 h.2.1, to42 hL x.2.2.1 h.2.2.1, to43 hL x.2.2.2.1 h.2.2.2.1, to44 hL x.2.2.2.2.2.2.2.2.1 h.2.2.2.2.2.2.2.2.1, to44 hL x.2.2.2.2.2.2.2.2.2 h.2.2.2.2.2.2.2.2.2, Option.bind_some]
theorem eq123 {L : Nat} (hL : 4294967296 < L) (x : Ty.den (.pair (.int .i64) (.int .i64))) (h : sm (.pair (.int .i64) (.int .i64)) x) : F123 x x = some true := by
  simp [F123, strEq]
theorem eq68 {L : Nat} (hL : 4294967296 < L) (x : Ty.den (.lst (.pair (.int .i64) (.int .i64)))) (h : sm (.lst (.pair (.int .i64) (.int .i64))) x) : F68 L x x = some true := eq_list (f := F68_l0 L) (g := F123) (fun v => rfl) (fun x hx => eq123 hL x (h.2 x hx)) h.1 hL
theorem eq19 {L : Nat} (hL : 4294967296 < L) (x : Ty.den (.lst (.int .i64))) (h : sm (.lst (.int .i64)) x) : F19 L x x = some true := eq_list (f := F19_l0 L) (g := fun a b => some (!(a != b))) (fun v => by unfold F19_l0; simp) (fun x hx => by simp) h.1 hL
theorem eq124 {L : Nat} (hL : 4294967296 < L) (x : Ty.den (.pair .str (.lst (.int .i64)))) (h : sm (.pair .str (.lst (.int .i64))) x) : F124 L x x = some true := by
  simp [F124, strEq, eq19 hL x.2 h.2]
theorem eq69 {L : Nat} (hL : 4294967296 < L) (x : Ty.den (.lst (.pair .str (.lst (.int .i64))))) (h : sm (.lst (.pair .str (.lst (.int .i64)))) x) : F69 L x x = some true := eq_list (f := F69_l0 L) (g := F124 L) (fun v => rfl) (fun x hx => eq124 hL x (h.2 x hx)) h.1 hL
theorem eq20 {L : Nat} (hL : 4294967296 < L) (x : Ty.den (.pair (.int .i64) (.pair (.int .i64) (.pair (.lst (.pair (.int .i64) (.int .i64))) (.lst (.pair .str (.lst (.int .i64)))))))) (h : sm (.pair (.int .i64) (.pair (.int .i64) (.pair (.lst (.pair (.int .i64) (.int .i64))) (.lst (.pair .str (.lst (.int .i64))))))) x) : F20 L x x = some true := by
  simp [F20, strEq, eq68 hL x.2.2.1 h.2.2.1, eq69 hL x.2.2.2 h.2.2.2]
theorem eq70 {L : Nat} (hL : 4294967296 < L) (x : Ty.den (.pair .str (.pair (.int .i64) (.int .i64)))) (h : sm (.pair .str (.pair (.int .i64) (.int .i64))) x) : F70 x x = some true := by
  simp [F70, strEq]
theorem eq21 {L : Nat} (hL : 4294967296 < L) (x : Ty.den (.lst (.pair .str (.pair (.int .i64) (.int .i64))))) (h : sm (.lst (.pair .str (.pair (.int .i64) (.int .i64)))) x) : F21 L x x = some true := eq_list (f := F21_l0 L) (g := F70) (fun v => rfl) (fun x hx => eq70 hL x (h.2 x hx)) h.1 hL
theorem eq51 {L : Nat} (hL : 4294967296 < L) (x : Ty.den (.pair (.pair (.int .i64) (.pair (.int .i64) (.pair (.lst (.pair (.int .i64) (.int .i64))) (.lst (.pair .str (.lst (.int .i64))))))) (.lst (.pair .str (.pair (.int .i64) (.int .i64)))))) (h : sm (.pair (.pair (.int .i64) (.pair (.int .i64) (.pair (.lst (.pair (.int .i64) (.int .i64))) (.lst (.pair .str (.lst (.int .i64))))))) (.lst (.pair .str (.pair (.int .i64) (.int .i64))))) x) : F51 L x x = some true := by
  simp [F51, strEq, eq20 hL x.1 h.1, eq21 hL x.2 h.2]
theorem eq182 {L : Nat} (hL : 4294967296 < L) (x : Ty.den (.pair (.int .i64) (.pair (.int .i64) (.pair (.int .i64) (.int .i64))))) (h : sm (.pair (.int .i64) (.pair (.int .i64) (.pair (.int .i64) (.int .i64)))) x) : F182 x x = some true := by
  simp [F182, strEq]
theorem eq154 {L : Nat} (hL : 4294967296 < L) (x : Ty.den (.lst (.pair (.int .i64) (.pair (.int .i64) (.pair (.int .i64) (.int .i64)))))) (h : sm (.lst (.pair (.int .i64) (.pair (.int .i64) (.pair (.int .i64) (.int .i64))))) x) : F154 L x x = some true := eq_list (f := F154_l0 L) (g := F182) (fun v => rfl) (fun x hx => eq182 hL x (h.2 x hx)) h.1 hL
theorem eq103 {L : Nat} (hL : 4294967296 < L) (x : Ty.den (.pair .str (.pair .str (.pair (.int .i64) (.pair (.pair .str (.pair (.int .i64) (.int .i64))) (.pair (.int .i64) (.pair (.int .i64) (.lst (.pair (.int .i64) (.pair (.int .i64) (.pair (.int .i64) (.int .i64)))))))))))) (h : sm (.pair .str (.pair .str (.pair (.int .i64) (.pair (.pair .str (.pair (.int .i64) (.int .i64))) (.pair (.int .i64) (.pair (.int .i64) (.lst (.pair (.int .i64) (.pair (.int .i64) (.pair (.int .i64) (.int .i64))))))))))) x) : F103 L x x = some true := by
  simp [F103, strEq, eq70 hL x.2.2.2.1 h.2.2.2.1, eq154 hL x.2.2.2.2.2.2 h.2.2.2.2.2.2]
theorem eq52 {L : Nat} (hL : 4294967296 < L) (x : Ty.den (.lst (.pair .str (.pair .str (.pair (.int .i64) (.pair (.pair .str (.pair (.int .i64) (.int .i64))) (.pair (.int .i64) (.pair (.int .i64) (.lst (.pair (.int .i64) (.pair (.int .i64) (.pair (.int .i64) (.int .i64))))))))))))) (h : sm (.lst (.pair .str (.pair .str (.pair (.int .i64) (.pair (.pair .str (.pair (.int .i64) (.int .i64))) (.pair (.int .i64) (.pair (.int .i64) (.lst (.pair (.int .i64) (.pair (.int .i64) (.pair (.int .i64) (.int .i64)))))))))))) x) : F52 L x x = some true := eq_list (f := F52_l0 L) (g := F103 L) (fun v => rfl) (fun x hx => eq103 hL x (h.2 x hx)) h.1 hL
theorem eq104 {L : Nat} (hL : 4294967296 < L) (x : Ty.den (.pair (.int .i64) (.pair (.int .i64) (.pair (.int .i64) (.pair (.int .i64) (.int .i64)))))) (h : sm (.pair (.int .i64) (.pair (.int .i64) (.pair (.int .i64) (.pair (.int .i64) (.int .i64))))) x) : F104 x x = some true := by
  simp [F104, strEq]
theorem eq53 {L : Nat} (hL : 4294967296 < L) (x : Ty.den (.lst (.pair (.int .i64) (.pair (.int .i64) (.pair (.int .i64) (.pair (.int .i64) (.int .i64))))))) (h : sm (.lst (.pair (.int .i64) (.pair (.int .i64) (.pair (.int .i64) (.pair (.int .i64) (.int .i64)))))) x) : F53 L x x = some true := eq_list (f := F53_l0 L) (g := F104) (fun v => rfl) (fun x hx => eq104 hL x (h.2 x hx)) h.1 hL
theorem eq54 {L : Nat} (hL : 4294967296 < L) (x : Ty.den (.pair (.int .i64) (.pair (.int .i64) (.pair (.int .i64) (.int .i64))))) (h : sm (.pair (.int .i64) (.pair (.int .i64) (.pair (.int .i64) (.int .i64)))) x) : F54 x x = some true := by
  simp [F54, strEq]
theorem eq12 {L : Nat} (hL : 4294967296 < L) (x : Ty.den (.pair (.pair (.pair (.int .i64) (.pair (.int .i64) (.pair (.lst (.pair (.int .i64) (.int .i64))) (.lst (.pair .str (.lst (.int .i64))))))) (.lst (.pair .str (.pair (.int .i64) (.int .i64))))) (.pair (.lst (.pair .str (.pair .str (.pair (.int .i64) (.pair (.pair .str (.pair (.int .i64) (.int .i64))) (.pair (.int .i64) (.pair (.int .i64) (.lst (.pair (.int .i64) (.pair (.int .i64) (.pair (.int .i64) (.int .i64)))))))))))) (.pair (.lst (.pair (.int .i64) (.pair (.int .i64) (.pair (.int .i64) (.pair (.int .i64) (.int .i64)))))) (.pair (.pair (.int .i64) (.pair (.int .i64) (.pair (.int .i64) (.int .i64)))) (.pair (.int .i64) (.pair (.int .i64) (.pair (.int .i64) (.pair (.int .i64) (.pair (.lst (.int .i64)) (.lst (.int .i64)))))))))))) (h : sm (.pair (.pair (.pair (.int .i64) (.pair (.int .i64) (.pair (.lst (.pair (.int .i64) (.int .i64))) (.lst (.pair .str (.lst (.int .i64))))))) (.lst (.pair .str (.pair (.int .i64) (.int .i64))))) (.pair (.lst (.pair .str (.pair .str (.pair (.int .i64) (.pair (.pair .str (.pair (.int .i64) (.int .i64))) (.pair (.int .i64) (.pair (.int .i64) (.lst (.pair (.int .i64) (.pair (.int .i64) (.pair (.int .i64) (.int .i64)))))))))))) (.pair (.lst (.pair (.int .i64) (.pair (.int .i64) (.pair (.int .i64) (.pair (.int .i64) (.int .i64)))))) (.pair (.pair (.int .i64) (.pair (.int .i64) (.pair (.int .i64) (.int .i64)))) (.pair (.int .i64) (.pair (.int .i64) (.pair (.int .i64) (.pair (.int .i64) (.pair (.lst (.int .i64)) (.lst (.int .i64))))))))))) x) : F12 L x x = some true := by
  simp [F12, strEq, eq51 hL x.1 h.1, eq52 hL x.2.1 h.2.1, eq53 hL x.2.2.1 h.2.2.1, eq54 hL x.2.2.2.1 h.2.2.2.1, eq19 hL x.2.2.2.2.2.2.2.2.1 h.2.2.2.2.2.2.2.2.1, eq19 hL x.2.2.2.2.2.2.2.2.2 h.2.2.2.2.2.2.2.2.2]
end Go.Proofs.YtnglcmfgkcdgcaaGreat
