/- Calls. -/
import Derived.Test.YtnglcmfgkcdgcaaGreatAmA13
namespace Go.AM
open Go
set_option linter.unusedVariables false
set_option linter.unusedSimpArgs false

variable {w0 w w' : World} {Wr : Nat → Prop} {s s' : St} {gh gh' gh0 : Gh} {P : Program} {call : Call} {t t' : Nat → Value}
variable {N : Nat} {a : Act} {Q : Exit → Act → World → Prop} {o : Oper}

def entryS (args : List DV) (gl : Gl) : St := ⟨args0 args, fun _ => none, gl⟩
def exitS (r : DV) (gl : Gl) : St := ⟨upd (fun _ => .any) 0 r, fun _ => none, gl⟩

/-- What a call does, whatever the world. -/
def Good (P : Program) (f : FuncId) (args : List DV) (gl : Gl) (r : DV) (gl' : Gl) : Prop :=
  ∀ (w : World) (gh : Gh) (Wr : Nat → Prop) (vs : Array Value), vs.size = args.length → Inv w gh Wr (entryS args gl) gh (fun i => vs.getD i undef) w →
    Calls P f vs w fun e w' => ∃ v gh', e = .returned v ∧ Inv w gh Wr (exitS r gl') gh' (upd (fun _ => undef) 0 v) w'

def FuncM (P : Program) (f : FuncId) : Prop := ∃ fn, P.funcs[f]? = some fn ∧ fn.body.isNone = false ∧ (fn.name == "runtime.NumGoroutine") = false

def CallOK (P : Program) (call : Call) : Prop := ∀ f args gl r gl', call f args gl = some (r, gl') → FuncM P f ∧ Good P f args gl r gl'

theorem args0_get (args : List DV) (i : Nat) : args0 args i = (args[i]?).getD .any := rfl

theorem arr_getD (vs : Array Value) (i : Nat) : vs.getD i undef = (vs[i]?).getD undef := by
  simp [Array.getD_eq_getD_getElem?]

/-- Arguments, one by one. -/
def ArgsR (w : World) (gh : Gh) (args : List DV) (vs : Array Value) : Prop :=
  vs.size = args.length ∧ ∀ (j : Nat) d v, args[j]? = some d → vs[j]? = some v → SRep w gh none d v

theorem ArgsR.slots {args : List DV} {vs : Array Value} (h : ArgsR w gh args vs) (i : Nat) : SRep w gh none (args0 args i) (vs.getD i undef) := by
  rw [args0_get, arr_getD]
  by_cases hi : i < args.length
  · have hv' : i < vs.size := by rw [h.1]; exact hi
    have hv : vs[i]? = some vs[i] := by simp [hv']
    have hd : args[i]? = some args[i] := by simp [hi]
    rw [hd, hv]
    exact h.2 i _ _ hd hv
  · have hd : args[i]? = none := by simp; omega
    rw [hd]
    exact Rep.any _

theorem SRep.home {ℓ : Option Own} {d : DV} {v : Value} (h : SRep w gh none d v) : SRep w gh ℓ d v := by
  cases d with
  | lst o rows => cases o with
    | true => exact ⟨h.1, by
        rcases h.2 with h2 | ⟨_, _, _, _, _, hx, _⟩
        · exact .inl h2
        · simp at hx⟩
    | false => exact h
  | _ => exact h

theorem entry_inv (w : World) (gh : Gh) {args : List DV} {vs : Array Value} (h : ArgsR w gh args vs) (hm : ∀ b, w.heap.size ≤ b → gh.S b = 0) (hnx : gh.nx = 0) :
    Inv w { gh with hb := fun _ => none } (fun b => w.heap.size ≤ b) (entryS args Gl.empty) { gh with hb := fun _ => none } (fun i => vs.getD i undef) w := by
  refine { os := rfl, tape := rfl, output := rfl, size := Nat.le_refl _, frame := fun _ _ _ => rfl, wrNew := fun _ h => h, s0 := fun _ _ _ => rfl, keep0 := Keeps.refl _ _, m0 := ⟨Nat.le_refl _, fun _ _ => ⟨rfl, rfl⟩⟩, marks := hm, slots := fun i => ?_, gobs := fun g rows hg => by simp [entryS, Gl.empty] at hg, lobs := fun l rows hl => by simp [entryS] at hl, zero := fun k b hu _ => ?_, uses := fun k b hu => ?_, one := fun k k' b hu _ => ?_, nx := ⟨by simp [entryS, Gl.empty, hnx], fun g hg => by simp [entryS, Gl.empty] at hg⟩ }
  · exact ((h.slots i).rehb (fun _ => none) (fun x hx => by simp at hx)).home
  all_goals
    exfalso
    cases k with
    | own ℓ => exact absurd hu.2 (by simp)
    | go g => have := hu.1; simp [entryS, Gl.empty] at this
    | lo l => have := hu.1; simp [entryS] at this

/-- The blocks of objects; how many cells they have. -/
noncomputable def lent (s : St) (gh : Gh) (w : World) (b : Nat) : Nat :=
  open Classical in if ∃ k, Uses s gh k b ∧ ∀ ℓ, k ≠ .own ℓ then (match w.heap[b]? with | some (.cells cur _ _) => cur.size | _ => 0) else gh.S b

theorem lent_obj (h : Inv w0 gh0 Wr s gh t w) {q : Bool} {g : Nat} {rows : Rows} {cur : Array Value} {e : TypeId} (hr : orows s q g = some rows) (hc : w.heap[oblk gh q g]? = some (.cells cur e (0, 0))) :
    lent s gh w (oblk gh q g) = cur.size := by
  unfold lent
  rw [if_pos ⟨okey q g, h.ouse hr, by cases q <;> simp [okey]⟩, hc]

theorem lent_ge (h : Inv w0 gh0 Wr s gh t w) (b : Nat) : gh.S b ≤ lent s gh w b := by
  unfold lent
  split
  · rename_i hx
    obtain ⟨k, hu, hk⟩ := hx
    rw [h.zero k b hu hk]; exact Nat.zero_le _
  · exact Nat.le_refl _

theorem lent_new (h : Inv w0 gh0 Wr s gh t w) (b : Nat) (hb : w.heap.size ≤ b) : lent s gh w b = 0 := by
  unfold lent
  rw [if_neg]
  · exact h.marks b hb
  · rintro ⟨k, hu, _⟩
    have := (h.uses k b hu).2; omega

theorem lent_keeps (h : Inv w0 gh0 Wr s gh t w) : Keeps w gh.S w (lent s gh w) := fun b o ho => ⟨rfl, Nat.lt_of_lt_of_le ho (lent_ge h b)⟩

/-- An argument for a call that sees nothing of the objects. -/
theorem closeC_rep (h : Inv w0 gh0 Wr s gh t w) {ℓ : Option Own} {d d' : DV} {v : Value} (hr : CRep w gh ℓ d v) (hc : closeC s d = some d') (ghc : Gh) (hS : ghc.S = lent s gh w) : Rep w ghc.S d' v := by
  have hk : Keeps w gh.S w ghc.S := by rw [hS]; exact lent_keeps h
  have pnt : ∀ (q : Bool) (g i c : Nat) (rs : Rows) (row : List DV), orows s q g = some rs → rs[i]? = some row → v = .pointer (some ⟨oblk gh q g, i * osz gh q g + c, none⟩) → (row.drop c).all pureC = true → d' = .pim ((row.drop c).map wk1) → Rep w ghc.S d' v := by
    intro q g i c rs row hro hrow hv hall hd'
    subst hv hd'
    obtain ⟨cur, e, hcur, hco, hcells⟩ := h.obj hro
    obtain ⟨hl, hc0⟩ := hcells i row hrow
    have hi : i < rs.length := (List.getElem?_eq_some_iff.1 hrow).1
    have hu : ∀ j, ∃ u, ∀ d0, row[c + j]? = some d0 → cur[i * osz gh q g + (c + j)]? = some u ∧ u.oneCell' = true ∧ CRep w gh (some (ohome q g i (c + j))) d0 u := by
      intro j
      cases hd0 : row[c + j]? with
      | none => exact ⟨undef, fun d0 hx => by simp at hx⟩
      | some d0 =>
        obtain ⟨_, u, k1, k2, k3⟩ := hc0 _ d0 hd0
        exact ⟨u, fun d1 hx => by cases hx; exact ⟨k1, k2, k3⟩⟩
    have ⟨f, hf⟩ := Classical.axiomOfChoice hu
    refine Rep.pim (u := f) (fun j hj => ?_) (fun j dd hd => ?_)
    · simp only [List.length_map, List.length_drop] at hj
      have hlt : c + j < row.length := by omega
      obtain ⟨k1, k2, _⟩ := hf j row[c + j] (by simp)
      refine ⟨by rw [cell_of_row w _ _ cur e (0, 0) hcur, Nat.add_assoc]; exact k1, ?_, k2⟩
      rw [hS, lent_obj h hro hcur]
      have : (i + 1) * osz gh q g ≤ rs.length * osz gh q g := Nat.mul_le_mul_right _ hi
      rw [Nat.add_mul] at this
      omega
    · simp only [List.getElem?_map, Option.map_eq_some_iff, List.getElem?_drop] at hd
      obtain ⟨d0, hd0, rfl⟩ := hd
      have hp : pureC d0 = true := List.all_eq_true.1 hall d0 (List.mem_of_getElem? (i := j) (by rw [List.getElem?_drop]; exact hd0))
      exact ((hf j d0 hd0).2.2.pure hp).keep hk
  have sl : ∀ (q : Bool) (g off len : Nat) (rs : Rows) (A : Option Addr) (cap : Nat), orows s q g = some rs → off + len ≤ rs.length → ((rs.drop off).take len).all (·.all pureC) = true → v = .slice A len cap → len ≤ cap → cap ≤ maxLen →
      (len ≠ 0 → A = some ⟨oblk gh q g, off * osz gh q g, none⟩) → d' = .lst false (((rs.drop off).take len).map (·.map wk1)) → Rep w ghc.S d' v := by
    intro q g off len rs A cap hro hle hall hv hlc hcm hA hd'
    subst hv hd'
    obtain ⟨cur, e, hcur, hco, hcells⟩ := h.obj hro
    have hu : ∀ p : Nat × Nat, ∃ u, ∀ row d0, rs[off + p.1]? = some row → row[p.2]? = some d0 → cur[(off + p.1) * osz gh q g + p.2]? = some u ∧ u.oneCell' = true ∧ CRep w gh (some (ohome q g (off + p.1) p.2)) d0 u := by
      rintro ⟨i, j⟩
      by_cases hx : ∃ row d0, rs[off + i]? = some row ∧ row[j]? = some d0
      · obtain ⟨row, d0, e1, e2⟩ := hx
        obtain ⟨_, u, k1, k2, k3⟩ := (hcells _ row e1).2 j d0 e2
        refine ⟨u, fun row' d1 e1' e2' => ?_⟩
        simp only at e1' e2'
        rw [e1] at e1'; cases e1'
        rw [e2] at e2'; cases e2'
        exact ⟨k1, k2, k3⟩
      · exact ⟨undef, fun row d0 e1 e2 => absurd ⟨row, d0, e1, e2⟩ hx⟩
    have ⟨f, hf⟩ := Classical.axiomOfChoice hu
    have hget : ∀ i row, (((rs.drop off).take len).map (·.map wk1))[i]? = some row → ∃ row0, rs[off + i]? = some row0 ∧ i < len ∧ row = row0.map wk1 ∧ row0 ∈ (rs.drop off).take len := by
      intro i row hi
      simp only [List.getElem?_map, Option.map_eq_some_iff] at hi
      obtain ⟨row0, hi0, rfl⟩ := hi
      have hm := List.mem_of_getElem? hi0
      rw [List.getElem?_take] at hi0
      split at hi0
      · rename_i hlt
        rw [List.getElem?_drop] at hi0
        exact ⟨row0, hi0, hlt, rfl, hm⟩
      · simp at hi0
    refine Rep.lst (b := oblk gh q g) (o := off * osz gh q g) (sz := osz gh q g) (u := fun i j => f (i, j)) (by simp; omega) hlc hcm (fun hn => hA hn) (fun i row hr => ?_) (fun i row j dd hr hd => ?_)
    · obtain ⟨row0, e1, e2, rfl, _⟩ := hget i row hr
      obtain ⟨hl, _⟩ := hcells _ row0 e1
      refine ⟨by simpa using hl, fun j hj => ?_⟩
      obtain ⟨k1, k2, _⟩ := hf (i, j) row0 (row0[j]'(by omega)) e1 (by simp)
      have hi : off + i < rs.length := (List.getElem?_eq_some_iff.1 e1).1
      refine ⟨by rw [cell_of_row w _ _ cur e (0, 0) hcur, ← Nat.add_mul]; exact k1, ?_, k2⟩
      rw [hS, lent_obj h hro hcur, ← Nat.add_mul]
      have := mul_lt_row (i' := rs.length) hj hi
      omega
    · obtain ⟨row0, e1, e2, rfl, hm⟩ := hget i row hr
      simp only [List.getElem?_map, Option.map_eq_some_iff] at hd
      obtain ⟨d0, hd0, rfl⟩ := hd
      have hp : pureC d0 = true := List.all_eq_true.1 (List.all_eq_true.1 hall row0 hm) d0 (List.mem_of_getElem? hd0)
      exact ((hf (i, j) row0 d0 e1 hd0).2.2.pure hp).keep hk
  cases d <;> simp only [closeC, Option.some.injEq, reduceCtorEq, Option.bind_eq_some_iff, Option.ite_none_right_eq_some] at hc
  case val x => subst hc; exact Rep.keep (d := .val x) hk hr
  case lst b rows => subst hc; exact (SRep.rows (ℓ := ℓ) (b := b) (rows := rows) hr).keep hk
  case pim cs => subst hc; exact Rep.keep (d := .pim cs) hk hr
  case clo f caps => obtain ⟨_, rfl⟩ := hc; exact Rep.keep (d := .clo f caps) hk hr
  case ref g i c =>
    obtain ⟨rs, hrs, row, hrow, hall, rfl⟩ := hc
    exact pnt true g i c rs row hrs hrow hr.2 hall rfl
  case lref g i c =>
    obtain ⟨rs, hrs, row, hrow, hall, rfl⟩ := hc
    exact pnt false g i c rs row hrs hrow hr hall rfl
  case arr g off len =>
    obtain ⟨rs, hrs, hcond, rfl⟩ := hc
    simp only [Bool.and_eq_true, decide_eq_true_eq] at hcond
    obtain ⟨_, A, cap, hv, h1, h2, hA⟩ := hr
    exact sl true g off len rs A cap hrs hcond.1 hcond.2 hv h1 h2 hA rfl
  case larr g off len =>
    obtain ⟨rs, hrs, hcond, rfl⟩ := hc
    simp only [Bool.and_eq_true, decide_eq_true_eq] at hcond
    obtain ⟨A, cap, hv, h1, h2, hA⟩ := hr
    exact sl false g off len rs A cap hrs hcond.1 hcond.2 hv h1 h2 hA rfl

theorem closeA_rep (h : Inv w0 gh0 Wr s gh t w) {d d' : DV} {v : Value} (hr : SRep w gh none d v) (hc : closeA s d = some d') (ghc : Gh) (hS : ghc.S = lent s gh w) : Rep w ghc.S d' v := by
  have many : ∀ (cs ds : List DV) (vs : Array Value), vs.size = cs.length → mapO (closeC s) cs = some ds → (∀ (j : Nat) c u, cs[j]? = some c → vs[j]? = some u → CRep w gh none c u) →
      vs.size = ds.length ∧ ∀ (j : Nat) dd u, ds[j]? = some dd → vs[j]? = some u → Rep w ghc.S dd u := by
    intro cs ds vs hl hm hall
    refine ⟨by rw [mapO_len hm]; exact hl, fun j dd u hd hu => ?_⟩
    obtain ⟨c, hcj, hf⟩ := mapO_get hm j dd hd
    exact closeC_rep h (hall j c u hcj hu) hf ghc hS
  cases d with
  | agg cs =>
    simp only [closeA, Option.map_eq_some_iff] at hc
    obtain ⟨ds, hm, rfl⟩ := hc
    obtain ⟨vs, rfl, hl, h2⟩ := hr
    obtain ⟨m1, m2⟩ := many cs ds vs hl hm (fun j c u hcj hu => (h2 j c u hcj hu).2)
    exact Rep.agg m1 m2
  | clo f caps =>
    simp only [closeA, Option.map_eq_some_iff] at hc
    obtain ⟨ds, hm, rfl⟩ := hc
    obtain ⟨vs, rfl, hl, h2⟩ := hr
    obtain ⟨m1, m2⟩ := many caps ds vs hl hm h2
    exact Rep.clo m1 m2
  | tup cs => simp [closeA, closeC] at hc
  | any => simp [closeA, closeC] at hc
  | lst b rows => exact closeC_rep (ℓ := none) (d := .lst b rows) h hr hc ghc hS
  | val x => exact closeC_rep (ℓ := none) (d := .val x) h hr hc ghc hS
  | pim x => exact closeC_rep (ℓ := none) (d := .pim x) h hr hc ghc hS
  | ref x y z => exact closeC_rep (ℓ := none) (d := .ref x y z) h hr hc ghc hS
  | arr x y z => exact closeC_rep (ℓ := none) (d := .arr x y z) h hr hc ghc hS
  | lref x y z => exact closeC_rep (ℓ := none) (d := .lref x y z) h hr hc ghc hS
  | larr x y z => exact closeC_rep (ℓ := none) (d := .larr x y z) h hr hc ghc hS

end Go.AM
