/- The abstract machine: operations that are apart change places; every order that the edges allow ends as the text's. -/
import Derived.Test.YtnglcmfgkcdgcaaGreatAmB2
namespace Go.AM
open Go
set_option linter.unusedVariables false
set_option linter.unusedSimpArgs false

variable {P : Program} {call : Call} {s s' s1 s2 : St}

/-- The slots that lose a right to append. -/
def srcs : AOp → List Nat
  | .mv _ x tr => if tr then rdO x else []
  | .st _ _ _ x tr => if tr then rdO x else []
  | .app _ _ _ x _ => rdO x
  | _ => []

def dsts (o : AOp) : List Nat := (dstOf o).toList

/-- May an operation write objects? -/
def wmem : AOp → Bool
  | .alloc .. | .st .. => true
  | .box _ _ _ m => m != 0
  | .ld _ _ _ _ _ tr => tr
  | .call _ _ _ op | .callv _ _ _ op => op
  | .mks _ _ _ _ _ _ lo => lo
  | _ => false

/-- What points to a new object of the activation's own. -/
def newV (d : Nat) : DV → Bool
  | .lref s 0 0 => s == d
  | .larr s 0 _ => s == d
  | _ => false

def deSrc : De → Option Nat
  | .put _ src => src
  | .wr _ _ src _ => src
  | _ => none

def isPutB : De → Bool
  | .put .. => true
  | _ => false

def isLoc : De → Bool
  | .loc .. => true
  | _ => false

theorem doCall_shape {f : FuncId} {as : List DV} {op : Bool} {δ : De} (h : doCall call s f as op = some δ) : deSrc δ = none ∧ isLoc δ = false ∧ (op = false → isPutB δ = true) := by
  unfold doCall at h
  split at h
  · simp only [Option.ite_none_right_eq_some, Option.bind_eq_some_iff, Option.some.injEq] at h
    obtain ⟨_, r, _, h1, rfl⟩ := h
    exact ⟨rfl, rfl, by simp_all⟩
  · simp only [Option.ite_none_right_eq_some, Option.bind_eq_some_iff, Option.some.injEq, Bool.and_eq_true] at h
    obtain ⟨_, _, r, _, h1, rfl⟩ := h
    exact ⟨rfl, rfl, fun _ => rfl⟩

/-- What an operation does, by its kind. -/
theorem stepD_shape {o : AOp} {δ : De} (h : stepD P call s o = some δ) :
    (∀ n, deSrc δ = some n → n ∈ srcs o) ∧ (isLoc δ = true → ∃ d rows v, locOf o = some d ∧ dstOf o = some d ∧ δ = .loc rows v ∧ newV d v = true) ∧ (wmem o = false → isPutB δ = true) := by
  have put : ∀ {v : DV}, δ = .put v none → (∀ n, deSrc δ = some n → n ∈ srcs o) ∧ (isLoc δ = true → ∃ d rows v, locOf o = some d ∧ dstOf o = some d ∧ δ = .loc rows v ∧ newV d v = true) ∧ (wmem o = false → isPutB δ = true) := by
    intro v e; subst e
    exact ⟨fun n hn => by simp [deSrc] at hn, fun hl => by simp [isLoc] at hl, fun _ => rfl⟩
  have putS : ∀ {v : DV} {m : Nat}, δ = .put v (some m) → m ∈ srcs o → (∀ n, deSrc δ = some n → n ∈ srcs o) ∧ (isLoc δ = true → ∃ d rows v, locOf o = some d ∧ dstOf o = some d ∧ δ = .loc rows v ∧ newV d v = true) ∧ (wmem o = false → isPutB δ = true) := by
    intro v m e hm; subst e
    exact ⟨fun n hn => by simp only [deSrc, Option.some.injEq] at hn; subst hn; exact hm, fun hl => by simp [isLoc] at hl, fun _ => rfl⟩
  have cal : ∀ {f : FuncId} {as : List DV} {op : Bool}, doCall call s f as op = some δ → wmem o = op → (∀ n, deSrc δ = some n → n ∈ srcs o) ∧ (isLoc δ = true → ∃ d rows v, locOf o = some d ∧ dstOf o = some d ∧ δ = .loc rows v ∧ newV d v = true) ∧ (wmem o = false → isPutB δ = true) := by
    intro f as op h hw
    obtain ⟨h1, h2, h3⟩ := doCall_shape h
    exact ⟨fun n hn => by rw [h1] at hn; simp at hn, fun hl => by rw [h2] at hl; simp at hl, fun hw' => h3 (by rw [← hw, hw'])⟩
  cases o with
  | mv e x tr =>
    simp only [stepD] at h
    split at h
    · rename_i htr
      split at h
      · split at h
        · simp at h
        · simp only [Option.some.injEq] at h; exact putS h.symm (by simp [srcs, htr, rdO])
      · simp only [Option.some.injEq] at h; exact put h.symm
    · simp only [Option.some.injEq] at h; exact put h.symm
  | nilc e x =>
    simp only [stepD] at h
    split at h <;> first | (simp at h; done) | (simp only [Option.some.injEq] at h; exact put h.symm)
  | pick e c a b =>
    simp only [stepD] at h
    split at h
    · simp only [Option.some.injEq] at h; exact put h.symm
    · simp at h
  | alloc e T z g =>
    simp only [stepD] at h
    split at h <;> simp only [Option.some.injEq] at h <;> subst h
    · exact ⟨fun n hn => by simp [deSrc] at hn, fun hl => by simp [isLoc] at hl, fun hw => by simp [wmem] at hw⟩
    · rename_i hg
      exact ⟨fun n hn => by simp [deSrc] at hn, fun _ => ⟨e, _, _, by simp [locOf, hg], rfl, rfl, by simp [newV]⟩, fun hw => by simp [wmem] at hw⟩
  | box e T x m =>
    simp only [stepD] at h
    split at h
    · split at h
      · simp only [Option.some.injEq] at h; exact put h.symm
      · simp at h
    · rename_i hm0
      split at h
      · split at h <;> simp only [Option.some.injEq] at h <;> subst h
        · rename_i hm1
          exact ⟨fun n hn => by simp [deSrc] at hn, fun _ => ⟨e, _, _, by simp [locOf, hm1], rfl, rfl, by simp [newV]⟩, fun hw => by simp [wmem, hm0] at hw⟩
        · exact ⟨fun n hn => by simp [deSrc] at hn, fun hl => by simp [isLoc] at hl, fun hw => by simp [wmem, hm0] at hw⟩
      · simp at h
  | build e T z ps =>
    simp only [stepD, Option.map_eq_some_iff] at h
    obtain ⟨cs, _, h⟩ := h
    exact put h.symm
  | bsl e T sz z n ps =>
    simp only [stepD, Option.ite_none_right_eq_some, Option.map_eq_some_iff] at h
    obtain ⟨_, cs, _, h⟩ := h
    exact put h.symm
  | ld e T n ag x tr =>
    simp only [stepD] at h
    split at h
    · rename_i htr
      simp only [Option.bind_eq_some_iff] at h
      obtain ⟨y, _, row, _, h⟩ := h
      split at h
      · split at h
        · simp at h
        · simp only [Option.some.injEq] at h
          subst h
          exact ⟨fun n hn => by simp [deSrc] at hn, fun hl => by simp [isLoc] at hl, fun hw => by simp [wmem, htr] at hw⟩
      · simp at h
    · simp only [Option.map_eq_some_iff] at h
      obtain ⟨r, h1, h⟩ := h
      exact put h.symm
  | st T n x y tr =>
    simp only [stepD, Option.bind_eq_some_iff, Option.ite_none_right_eq_some, Option.some.injEq] at h
    obtain ⟨_, _, _, _, _, rfl⟩ := h
    refine ⟨fun n hn => ?_, fun hl => by simp [isLoc] at hl, fun hw => by simp [wmem] at hw⟩
    simp only [deSrc] at hn
    cases tr with
    | false => simp [srcOf] at hn
    | true =>
      cases y with
      | t m => simp only [srcOf, Option.some.injEq] at hn; subst hn; simp [srcs, rdO]
      | _ => simp [srcOf] at hn
  | bin e op T x y =>
    simp only [stepD, Option.bind_eq_some_iff, Option.map_eq_some_iff] at h
    obtain ⟨_, _, _, _, r, h1, h⟩ := h
    exact put h.symm
  | un e op x =>
    simp only [stepD, Option.bind_eq_some_iff, Option.map_eq_some_iff] at h
    obtain ⟨_, _, _, _, r, h1, h⟩ := h
    exact put h.symm
  | conv e T U x =>
    simp only [stepD, Option.bind_eq_some_iff, Option.map_eq_some_iff] at h
    obtain ⟨_, _, _, _, r, h1, h⟩ := h
    exact put h.symm
  | slc e T str sz x lo hi mx =>
    simp only [stepD] at h
    split at h
    · split at h
      · simp only [Option.bind_eq_some_iff, Option.ite_none_right_eq_some, Option.some.injEq] at h
        obtain ⟨_, _, _, _, _, h⟩ := h
        exact put h.symm
      · simp at h
    · simp only [Option.bind_eq_some_iff, Option.ite_none_left_eq_some] at h
      obtain ⟨_, _, _, _, _, _, _, h⟩ := h
      split at h
      · simp only [Option.map_eq_some_iff] at h
        obtain ⟨r, h1, h⟩ := h
        exact put h.symm
      · simp only [Option.bind_eq_some_iff, Option.map_eq_some_iff] at h
        obtain ⟨_, _, r, h1, h⟩ := h
        exact put h.symm
  | fad e T fi off n x =>
    simp only [stepD] at h
    split at h <;> first | (simp at h; done) | (simp only [Option.some.injEq] at h; exact put h.symm)
  | iad e T sz x i =>
    simp only [stepD, Option.bind_eq_some_iff] at h
    obtain ⟨n, _, h⟩ := h
    split at h <;> first | (simp at h; done) | skip
    all_goals simp only [Option.ite_none_right_eq_some, Option.bind_eq_some_iff, Option.some.injEq] at h
    · obtain ⟨_, _, _, _, h⟩ := h
      exact put h.symm
    · obtain ⟨_, _, _, _, _, _, h⟩ := h
      exact put h.symm
    · obtain ⟨_, _, _, _, _, _, h⟩ := h
      exact put h.symm
  | idx e T x i =>
    simp only [stepD, Option.bind_eq_some_iff, Option.map_eq_some_iff] at h
    obtain ⟨_, _, _, _, _, _, r, h1, h⟩ := h
    exact put h.symm
  | ext e x i =>
    simp only [stepD] at h
    split at h
    · simp only [Option.bind_eq_some_iff, Option.ite_none_right_eq_some, Option.some.injEq] at h
      obtain ⟨c, _, h1, h⟩ := h
      exact put h.symm
    · simp at h
  | call e f args op => exact cal h rfl
  | callv e x args op =>
    simp only [stepD] at h
    split at h
    · exact cal h rfl
    · simp at h
  | len e str x =>
    simp only [stepD] at h
    split at h
    · split at h
      · simp only [Option.some.injEq] at h; exact put h.symm
      · simp at h
    · simp only [Option.map_eq_some_iff] at h
      obtain ⟨r, _, h⟩ := h
      exact put h.symm
  | app e T sz x y =>
    simp only [stepD, Option.bind_eq_some_iff] at h
    obtain ⟨_, _, h⟩ := h
    split at h
    · split at h
      · split at h
        · split at h
          · simp at h
          · simp only [Option.some.injEq] at h; exact putS h.symm (by simp [srcs, rdO])
        · simp only [Option.some.injEq] at h; exact put h.symm
      · simp at h
    · simp at h
  | mnx e mx args =>
    simp only [stepD, Option.bind_eq_some_iff, Option.map_eq_some_iff] at h
    obtain ⟨_, _, _, _, r, h1, h⟩ := h
    exact put h.symm
  | mkf e f caps =>
    simp only [stepD, Option.ite_none_right_eq_some, Option.some.injEq] at h
    obtain ⟨_, h⟩ := h
    exact put h.symm
  | mks e T sz z l c lo =>
    simp only [stepD, Option.bind_eq_some_iff, Option.ite_none_right_eq_some] at h
    obtain ⟨_, _, _, _, _, h⟩ := h
    split at h
    · rename_i hlo
      simp only [Option.some.injEq] at h; subst h
      exact ⟨fun n hn => by simp [deSrc] at hn, fun _ => ⟨e, _, _, by simp [locOf, hlo], rfl, rfl, by simp [newV]⟩, fun hw => by simp [wmem, hlo] at hw⟩
    · simp only [Option.some.injEq] at h; exact put h.symm

def rdG (o : GOp) : List Nat := rdA o.op ++ (match o.gd with | some (g, _) => [g] | none => [])
def wrG (o : GOp) : List Nat := dsts o.op ++ srcs o.op

/-- What a delta is, by its operation. -/
def GS (s : St) (o : GOp) (δ : De) : Prop :=
  (∀ n, deSrc δ = some n → n ∈ srcs o.op) ∧ (isLoc δ = true → ∃ d rows v, locOf o.op = some d ∧ dstOf o.op = some d ∧ δ = .loc rows v ∧ newV d v = true) ∧ (wmem o.op = false ∨ o.pu = true → isPutB δ = true) ∧
    ∀ d v, NM d s → deV δ = some v → kill d v = v

theorem gD_shape {o : GOp} {δ : De} (h : gD P call s o = some δ) : GS s o δ := by
  have one : oneD P call s o = some δ → GS s o δ := fun h1 => by
    obtain ⟨a1, a2, a3⟩ := stepD_shape (oneD_put h1)
    refine ⟨a1, a2, fun hp => ?_, fun d v hn hv => stepD_kill hn (oneD_put h1) hv⟩
    rcases hp with hp | hp
    · exact a3 hp
    · unfold oneD at h1
      rw [if_pos hp] at h1
      simp only [Option.bind_eq_some_iff] at h1
      obtain ⟨δ', _, h2⟩ := h1
      cases δ' <;> simp only [isPut, Option.some.injEq, reduceCtorEq] at h2
      subst h2; rfl
  have skp : some (De.put skipV none) = some δ → GS s o δ := by
    intro e
    simp only [Option.some.injEq] at e
    subst e
    exact ⟨fun n hn => by simp [deSrc] at hn, fun hl => by simp [isLoc] at hl, fun _ => rfl, fun d v _ hv => by simp only [deV, Option.some.injEq] at hv; subst hv; rfl⟩
  unfold gD at h
  split at h
  · exact one h
  · split at h
    · split at h
      · exact one h
      · exact skp h
    · exact skp h
    · simp at h

theorem oneD_congr {o : GOp} (h : ∀ n ∈ rdA o.op, s.fr n = s'.fr n) (hm : o.pu = true ∨ s.lo = s'.lo ∧ s.gl = s'.gl) : oneD P call s o = oneD P call s' o := by
  unfold oneD
  by_cases hp : o.pu = true
  · rw [if_pos hp, if_pos hp, stepD_congr (s := s.noMem) (s' := s'.noMem) h rfl rfl]
  · rw [if_neg hp, if_neg hp]
    rcases hm with hm | hm
    · exact absurd hm hp
    · exact stepD_congr h hm.1 hm.2

theorem gD_congr {o : GOp} (h : ∀ n ∈ rdG o, s.fr n = s'.fr n) (hm : o.pu = true ∨ s.lo = s'.lo ∧ s.gl = s'.gl) : gD P call s o = gD P call s' o := by
  have h1 := oneD_congr (P := P) (call := call) (o := o) (s := s) (s' := s') (fun n hn => h n (by simp [rdG, hn])) hm
  unfold gD
  cases hg : o.gd with
  | none => exact h1
  | some p =>
    obtain ⟨g, b⟩ := p
    simp only []
    rw [h g (by simp [rdG, hg]), h1]

/-- What a delta does to a slot. -/
def slotT (gl : Gl) (d : Option Nat) (δ : De) (n : Nat) (z : DV) : DV :=
  match δ with
  | .put v src => if d = some n then v else if src = some n then wk z else z
  | .loc _ v => if d = some n then v else kill (d.getD 0) z
  | .glo _ => if d = some n then .ref gl.nx 0 0 else z
  | .wr _ _ src v => match v with | some v => if d = some n then v else if src = some n then wk z else z | none => if src = some n then wk z else z
  | .opn v _ => if d = some n then v else z

theorem putO_get (fr : Nat → DV) (d : Option Nat) (v : DV) (n : Nat) : putO fr d v n = if d = some n then v else fr n := by
  cases d with
  | none => simp [putO]
  | some d =>
    simp only [putO, upd, Option.some.injEq]
    by_cases h : n = d
    · subst h; simp
    · rw [if_neg h, if_neg (Ne.symm h)]

theorem wkO_get (fr : Nat → DV) (src : Option Nat) (n : Nat) : wkO fr src n = if src = some n then wk (fr n) else fr n := by
  cases src with
  | none => simp [wkO]
  | some d =>
    simp only [wkO, upd, Option.some.injEq]
    by_cases h : n = d
    · subst h; simp
    · rw [if_neg h, if_neg (Ne.symm h)]

theorem setOb_fr (s : St) (p : DV) (rows : Rows) : (setOb s p rows).fr = s.fr := by cases p <;> rfl

theorem ap_fr (s : St) (d : Option Nat) (δ : De) (n : Nat) : (s.ap d δ).fr n = slotT s.gl d δ n (s.fr n) := by
  cases δ with
  | put v src => simp only [St.ap, slotT, putO_get, wkO_get]
  | loc rows v => simp only [St.ap, slotT, putO_get]
  | glo rows => simp only [St.ap, slotT, putO_get]
  | wr p rows src v => cases v <;> simp only [St.ap, slotT, putO_get, wkO_get, setOb_fr]
  | opn v gl => simp only [St.ap, slotT, putO_get]

/-- What a delta does to the objects depends on the objects alone. -/
theorem ap_mem {s s' : St} (h1 : s.lo = s'.lo) (h2 : s.gl = s'.gl) (d : Option Nat) (δ : De) : (s.ap d δ).lo = (s'.ap d δ).lo ∧ (s.ap d δ).gl = (s'.ap d δ).gl := by
  cases δ with
  | wr p rows src v => cases p <;> simp [St.ap, setOb, h1, h2]
  | _ => simp [St.ap, h1, h2]

theorem ap_put_mem (s : St) (d : Option Nat) {δ : De} (h : isPutB δ = true) : (s.ap d δ).lo = s.lo ∧ (s.ap d δ).gl = s.gl := by
  cases δ <;> first | exact ⟨rfl, rfl⟩ | simp [isPutB] at h

theorem St.ext' {s s' : St} (h : ∀ n, s.fr n = s'.fr n) (h1 : s.lo = s'.lo) (h2 : s.gl = s'.gl) : s = s' := by
  obtain ⟨f, l, g⟩ := s
  obtain ⟨f', l', g'⟩ := s'
  obtain rfl : f = f' := funext h
  subst h1 h2; rfl

/-- A slot that an operation does not write is as it was, where the object that it makes is unnamed. -/
theorem slotT_keep {o : GOp} {δ : De} {gl : Gl} {n : Nat} {z : DV} (h : gD P call s o = some δ) (hn : n ∉ wrG o) (hz : ∀ d, locOf o.op = some d → kill d z = z) : slotT gl (dstOf o.op) δ n z = z := by
  obtain ⟨a1, a2, _, _⟩ := gD_shape h
  have hd : dstOf o.op ≠ some n := fun e => hn (by simp [wrG, dsts, e])
  have hs : deSrc δ ≠ some n := fun e => hn (by simp [wrG, a1 n e])
  cases δ with
  | put v src => have hs' : src ≠ some n := hs; simp only [slotT, if_neg hd, if_neg hs']
  | loc rows v =>
    obtain ⟨d, rs, _, e1, e2, _⟩ := a2 rfl
    simp only [slotT, if_neg hd]
    rw [e2]; exact hz d e1
  | glo rows => simp only [slotT, if_neg hd]
  | wr p rows src v =>
    have hs' : src ≠ some n := hs
    cases v <;> simp only [slotT, if_neg hd, if_neg hs']
  | opn v gl => simp only [slotT, if_neg hd]

/-- Two operations that are apart. -/
theorem comm_core {x y : GOp} {δx δy : De} (hx : gD P call s x = some δx) (hy : gD P call s y = some δy) (hpx : isPutB δx = true)
    (h1 : ∀ n ∈ wrG x, n ∉ rdG y ∧ n ∉ wrG y) (h2 : ∀ n ∈ wrG y, n ∉ rdG x) (hm : x.pu = true ∨ isPutB δy = true) (hk : ∀ d, locOf y.op = some d → NM d s) :
    gD P call (s.ap (dstOf x.op) δx) y = some δy ∧ gD P call (s.ap (dstOf y.op) δy) x = some δx ∧ (s.ap (dstOf x.op) δx).ap (dstOf y.op) δy = (s.ap (dstOf y.op) δy).ap (dstOf x.op) δx := by
  have kx : ∀ n z, n ∉ wrG x → slotT s.gl (dstOf x.op) δx n z = z := by
    intro n z hn
    obtain ⟨a1, _, _, _⟩ := gD_shape hx
    have hd : dstOf x.op ≠ some n := fun e => hn (by simp [wrG, dsts, e])
    have hs : deSrc δx ≠ some n := fun e => hn (by simp [wrG, a1 n e])
    cases hδ : δx with
    | put v src =>
      rw [hδ] at hs
      have hs' : src ≠ some n := hs
      simp only [slotT, if_neg hd, if_neg hs']
    | _ => rw [hδ] at hpx; simp [isPutB] at hpx
  have ky : ∀ n gl z, n ∉ wrG y → (∀ d, locOf y.op = some d → kill d z = z) → slotT gl (dstOf y.op) δy n z = z := fun n gl z hn hz => slotT_keep hy hn hz
  obtain ⟨m1, m2⟩ := ap_put_mem s (dstOf x.op) hpx
  refine ⟨?_, ?_, ?_⟩
  · rw [← hy]
    refine gD_congr (fun n hn => ?_) (.inr ⟨m1, m2⟩)
    rw [ap_fr, kx n _ fun hw => (h1 n hw).1 hn]
  · rw [← hx]
    refine gD_congr (fun n hn => ?_) ?_
    · rw [ap_fr, ky n _ _ (fun hw => h2 n hw hn) (fun d hd => hk d hd n)]
    · rcases hm with hm | hm
      · exact .inl hm
      · exact .inr (ap_put_mem s _ hm)
  · have hmm := ap_mem (s := s.ap (dstOf x.op) δx) (s' := s) m1 m2 (dstOf y.op) δy
    have hmm' := ap_put_mem (s.ap (dstOf y.op) δy) (dstOf x.op) hpx
    refine St.ext' (fun n => ?_) (hmm.1.trans hmm'.1.symm) (hmm.2.trans hmm'.2.symm)
    rw [ap_fr, ap_fr, ap_fr, ap_fr, m2]
    have hgx : ∀ gl z, slotT gl (dstOf x.op) δx n z = slotT s.gl (dstOf x.op) δx n z := by
      intro gl z; cases δx <;> simp_all [slotT, isPutB]
    rw [hgx (s.ap (dstOf y.op) δy).gl]
    by_cases hn : n ∈ wrG x
    · rw [ky n _ _ (h1 n hn).2 (fun d hd => ?_), ky n _ _ (h1 n hn).2 (fun d hd => hk d hd n)]
      -- what x puts there names no object that y makes
      obtain ⟨_, _, _, a4⟩ := gD_shape hx
      have hNM := hk d hd
      cases δx <;> simp only [isPutB, Bool.false_eq_true] at hpx
      simp only [slotT]
      split
      · exact a4 d _ hNM rfl
      · split
        · rw [kill_wk, hNM n]
        · exact hNM n
    · rw [kx n _ hn, kx n _ hn]

end Go.AM
