/- Structs and slices built. -/
import Derived.Test.YtnglcmfgkcdgcaaGreatAmA9
namespace Go.AM
open Go
set_option linter.unusedVariables false
set_option linter.unusedSimpArgs false

variable {w0 w w' : World} {Wr : Nat → Prop} {s s' : St} {gh gh' gh0 : Gh} {P : Program} {call : Call} {t t' : Nat → Value}
variable {N : Nat} {a : Act} {Q : Exit → Act → World → Prop} {o : Oper}

theorem fold_set (off : Nat) : ∀ (l : List Value) (n : Nat) (cells : Array Value), off + n + l.length ≤ cells.size →
    ((l.zipIdx n).foldl (fun cs (p : Value × Nat) => cs.setIfInBounds (off + p.2) p.1) cells).size = cells.size ∧
    ∀ k, ((l.zipIdx n).foldl (fun cs (p : Value × Nat) => cs.setIfInBounds (off + p.2) p.1) cells)[k]? = if off + n ≤ k ∧ k < off + n + l.length then l[k - (off + n)]? else cells[k]?
  | [], n, cells, h => by
    refine ⟨rfl, fun k => ?_⟩
    simp only [List.length_nil, List.zipIdx_nil, List.foldl_nil]
    rw [if_neg (by omega)]
  | v :: l, n, cells, h => by
    simp only [List.length_cons] at h
    have hlt : off + n < cells.size := by omega
    obtain ⟨h1, h2⟩ := fold_set off l (n + 1) (cells.setIfInBounds (off + n) v) (by simp; omega)
    refine ⟨by simpa using h1, fun k => ?_⟩
    simp only [List.zipIdx_cons, List.foldl_cons, List.length_cons]
    rw [h2 k]
    by_cases hk : k = off + n
    · subst hk
      rw [if_neg (by omega), if_pos (by omega)]
      simp [hlt]
    · by_cases hk2 : off + (n + 1) ≤ k ∧ k < off + (n + 1) + l.length
      · rw [if_pos hk2, if_pos (by omega), show k - (off + n) = (k - (off + (n + 1))) + 1 by omega, List.getElem?_cons_succ]
      · rw [if_neg hk2, if_neg (by omega), Array.getElem?_setIfInBounds_ne (Ne.symm hk)]

theorem fold_setA (off : Nat) (us cells : Array Value) (h : off + us.size ≤ cells.size) :
    (us.zipIdx.foldl (fun cs (p : Value × Nat) => cs.setIfInBounds (off + p.2) p.1) cells).size = cells.size ∧
    ∀ k, (us.zipIdx.foldl (fun cs (p : Value × Nat) => cs.setIfInBounds (off + p.2) p.1) cells)[k]? = if off ≤ k ∧ k < off + us.size then us[k - off]? else cells[k]? := by
  have := fold_set off us.toList 0 cells (by simpa using h)
  rw [← Array.foldl_toList]
  simpa using this

/-- Cells, one by one. -/
def CellsR (w : World) (gh : Gh) (ds : List DV) (vs : Array Value) : Prop :=
  vs.size = ds.length ∧ ∀ (j : Nat) d, ds[j]? = some d → cellC d = true ∧ ∃ u, vs[j]? = some u ∧ u.oneCell' = true ∧ CRep w gh none d u

/-- The parts of a literal. -/
def PartsM (pl : Nat → Option (Nat × Nat)) (xs : List (Nat × Operand)) (ys : List (Nat × Nat × Opd)) : Prop :=
  xs.length = ys.length ∧ ∀ (j : Nat) x y, xs[j]? = some x → ys[j]? = some y → pl x.1 = some (y.1, y.2.1) ∧ OpdM x.2 y.2.2

theorem fill_ok (h : AI w0 gh0 Wr N s gh a w) (pl : Nat → Option (Nat × Nat)) : ∀ (xs : List (Nat × Operand)) (ys : List (Nat × Nat × Opd)) (ds cs : List DV) (vs : Array Value),
    PartsM pl xs ys → CellsR w gh ds vs → fillParts s.fr ds ys = some cs → ∃ us, Instr.fill pl vs (xs.map fun p => (p.1, a.eval p.2)) = some us ∧ CellsR w gh cs us
  | [], ys, ds, cs, vs, hm, hc, hf => by
    have : ys = [] := List.eq_nil_of_length_eq_zero hm.1.symm
    subst this
    simp only [fillParts, Option.some.injEq] at hf
    subst hf
    exact ⟨vs, rfl, hc⟩
  | x :: xs, [], ds, cs, vs, hm, hc, hf => by simp [PartsM] at hm
  | (fi, x) :: xs, (off, n, y) :: ys, ds, cs, vs, hm, hc, hf => by
    obtain ⟨hpl, hox⟩ := hm.2 0 _ _ rfl rfl
    simp only at hpl hox
    simp only [fillParts, Option.ite_none_right_eq_some] at hf
    obtain ⟨⟨hl, hfit, hall⟩, hf⟩ := hf
    have hall' : ∀ z ∈ cellsD (getW s.fr y), cellC z = true := fun z hz => List.all_eq_true.1 hall z hz
    obtain ⟨e1, e2⟩ := cellsD_rep (h.getW hox) hall'
    have hsz : (a.eval x).cells.size = n := by rw [← e1, hl]
    obtain ⟨f1, f2⟩ := fold_setA off (a.eval x).cells vs (by rw [hsz, hc.1]; exact hfit)
    have hm' : PartsM pl xs ys := ⟨by have := hm.1; simpa using this, fun j p q hp hq => hm.2 (j + 1) p q hp hq⟩
    have hfit' : off + (cellsD (getW s.fr y)).length ≤ ds.length := by rw [hl]; exact hfit
    have hc' : CellsR w gh (setCells ds off (cellsD (getW s.fr y))) ((a.eval x).cells.zipIdx.foldl (fun cs (p : Value × Nat) => cs.setIfInBounds (off + p.2) p.1) vs) := by
      refine ⟨by rw [f1, hc.1, setCells_len hfit'], fun j d hd => ?_⟩
      rw [setCells_get hfit'] at hd
      rw [f2 j]
      rw [e1] at hd
      split at hd
      · rw [if_neg (by omega)]; exact hc.2 j d hd
      · split at hd
        · rw [if_pos (by omega)]
          obtain ⟨u, k1, k2, k3⟩ := e2 _ d hd
          exact ⟨hall' d (List.mem_of_getElem? hd), u, by simpa using k1, k2, k3⟩
        · rw [if_neg (by omega)]; exact hc.2 j d hd
    obtain ⟨us, g1, g2⟩ := fill_ok h pl xs ys _ cs _ hm' hc' hf
    refine ⟨us, ?_, g2⟩
    simp only [List.map_cons, Instr.fill, hpl]
    rw [if_neg]
    · exact g1
    · simp only [hsz, ne_eq, not_true_eq_false, decide_false, Bool.false_or, decide_eq_true_eq, Bool.or_eq_true, not_or]
      rw [hc.1]; simp; omega

theorem cellsR_const {vs : Array Value} {zero : List Value} (hz : vs.toList = zero) (h1 : ∀ v ∈ zero, v.oneCell' = true) : CellsR w gh (zero.map oneV) vs := by
  refine ⟨by simp [← hz], fun j d hd => ?_⟩
  obtain ⟨k0, u, k1, k2⟩ := cells_const h1 j d hd
  exact ⟨k0, u, by rw [← hz] at k1; simpa using k1, k2⟩

theorem ok_build {d : Nat} {T : TypeId} {zero : List Value} {oparts : Array (Nat × Operand)} {parts : List (Nat × Nat × Opd)} {δ : De} {ti : TypeInfo} {z : Value} {pl : Nat → Option (Nat × Nat)}
    (h : AI w0 gh0 Wr N s gh a w) (hdst : o.dst = some d) (hd : d < N) (ho : o.op = .build T oparts) (hi : P.info? T = some ti) (hz : ti.zero = some z) (hzc : z.cells.toList = zero) (h1 : ∀ v ∈ zero, v.oneCell' = true)
    (hpl : ∀ parts' cells, Instr.fill pl z.cells parts' = some cells → P.built T parts' = some cells)
    (hm : PartsM pl oparts.toList parts) (hs : stepD P call s (.build d T zero parts) = some δ) :
    o.wp P a w (fun a' w' => Mod w0 gh0 Wr N (s.ap (some d) δ) a' w') Q := by
  simp only [stepD, Option.map_eq_some_iff] at hs
  obtain ⟨cs, hf, rfl⟩ := hs
  obtain ⟨us, hfill, hc⟩ := fill_ok h pl _ _ _ cs z.cells hm (cellsR_const hzc h1) hf
  have hb := hpl _ _ hfill
  refine put_ok (v := .agg us) h hdst hd ?_ ⟨us, rfl, hc.1, fun j c u hcj hu => ?_⟩
  · have := run_build w T (oparts.map fun p => (p.1, a.eval p.2)) us (by simpa using hb)
    simp only [execOp, ho]
    exact run_execOp_value this
  · obtain ⟨k0, u', k1, k2, k3⟩ := hc.2 j c hcj
    rw [hu] at k1
    cases k1
    exact ⟨cellC_noL k0, k3⟩

theorem sizeOf_run {T : TypeId} {ti : TypeInfo} (hi : P.info? T = some ti) : (sizeOf T).run P w = .ok ti.size w := by simp [sizeOf, typeInfo, hi]

/-- A row list and flat cells. -/
def RowsR (w : World) (gh : Gh) (sz : Nat) (rows : Rows) (vs : Array Value) : Prop :=
  vs.size = rows.length * sz ∧ ∀ (i : Nat) row, rows[i]? = some row → row.length = sz ∧ ∀ (j : Nat) d, row[j]? = some d → ∃ u, vs[i * sz + j]? = some u ∧ u.oneCell' = true ∧ Rep w gh.S d u

def PartsR (xs : List (Nat × Operand)) (ys : List (Nat × Opd)) : Prop :=
  xs.length = ys.length ∧ ∀ (j : Nat) x y, xs[j]? = some x → ys[j]? = some y → x.1 = y.1 ∧ OpdM x.2 y.2

theorem idx_row {i i' sz j k : Nat} (hk : k = i' * sz + j) (hj : j < sz) : (i * sz ≤ k ∧ k < i * sz + sz) ↔ i = i' := by
  constructor
  · rintro ⟨h1, h2⟩
    rcases Nat.lt_trichotomy i i' with h | h | h
    · have : (i + 1) * sz ≤ i' * sz := Nat.mul_le_mul_right _ h
      rw [Nat.add_mul] at this; omega
    · exact h
    · have : (i' + 1) * sz ≤ i * sz := Nat.mul_le_mul_right _ h
      rw [Nat.add_mul] at this; omega
  · rintro rfl; omega

theorem fillR_ok (h : AI w0 gh0 Wr N s gh a w) (sz : Nat) : ∀ (xs : List (Nat × Operand)) (ys : List (Nat × Opd)) (ds cs : Rows) (vs : Array Value),
    PartsR xs ys → RowsR w gh sz ds vs → fillRows s.fr ds sz ys = some cs → ∃ us, Instr.fill (fun i => some (i * sz, sz)) vs (xs.map fun p => (p.1, a.eval p.2)) = some us ∧ RowsR w gh sz cs us ∧ cs.length = ds.length
  | [], ys, ds, cs, vs, hm, hc, hf => by
    have : ys = [] := List.eq_nil_of_length_eq_zero hm.1.symm
    subst this
    simp only [fillRows, Option.some.injEq] at hf
    subst hf
    exact ⟨vs, rfl, hc, rfl⟩
  | x :: xs, [], ds, cs, vs, hm, hc, hf => by simp [PartsR] at hm
  | (fi, x) :: xs, (i, y) :: ys, ds, cs, vs, hm, hc, hf => by
    obtain ⟨hpl, hox⟩ := hm.2 0 _ _ rfl rfl
    simp only at hpl hox
    subst hpl
    simp only [fillRows, Option.ite_none_right_eq_some, List.length_map] at hf
    obtain ⟨⟨hl, hfit, hall⟩, hf⟩ := hf
    have hpure : ∀ z ∈ cellsD (getW s.fr y), pureC z = true := by
      intro z hz
      have := List.all_eq_true.1 hall (wk1 z) (List.mem_map.2 ⟨z, hz, rfl⟩)
      cases z <;> simp_all [wk1, pureC]
    obtain ⟨e1, e2⟩ := cellsD_rep (h.getW hox) (fun z hz => pureC_cellC (hpure z hz))
    have hsz : (a.eval x).cells.size = sz := by rw [← e1, hl]
    have hfit' : fi * sz + sz ≤ vs.size := by
      rw [hc.1]
      have : (fi + 1) * sz ≤ ds.length * sz := Nat.mul_le_mul_right _ hfit
      rw [Nat.add_mul] at this; omega
    obtain ⟨f1, f2⟩ := fold_setA (fi * sz) (a.eval x).cells vs (by rw [hsz]; exact hfit')
    have hm' : PartsR xs ys := ⟨by have := hm.1; simpa using this, fun j p q hp hq => hm.2 (j + 1) p q hp hq⟩
    have hc' : RowsR w gh sz (ds.set fi ((cellsD (getW s.fr y)).map wk1)) ((a.eval x).cells.zipIdx.foldl (fun cs (p : Value × Nat) => cs.setIfInBounds (fi * sz + p.2) p.1) vs) := by
      refine ⟨by rw [f1, hc.1, List.length_set], fun i row hr => ?_⟩
      by_cases hi : fi = i
      · subst hi
        rw [List.getElem?_set_self hfit] at hr
        simp only [Option.some.injEq] at hr
        subst hr
        refine ⟨by simp [hl], fun j d hd => ?_⟩
        simp only [List.getElem?_map, Option.map_eq_some_iff] at hd
        obtain ⟨z, hz, rfl⟩ := hd
        have hj : j < sz := by rw [← hl]; exact (List.getElem?_eq_some_iff.1 hz).1
        obtain ⟨u, k1, k2, k3⟩ := e2 j z hz
        refine ⟨u, ?_, k2, k3.pure (hpure z (List.mem_of_getElem? hz))⟩
        rw [f2, if_pos (by rw [hsz]; omega), show fi * sz + j - fi * sz = j by omega]
        simpa using k1
      · rw [List.getElem?_set_ne hi] at hr
        obtain ⟨g1, g2⟩ := hc.2 i row hr
        refine ⟨g1, fun j d hd => ?_⟩
        have hj : j < sz := by rw [← g1]; exact (List.getElem?_eq_some_iff.1 hd).1
        rw [f2, if_neg]
        · exact g2 j d hd
        · rw [hsz, idx_row rfl hj]; exact hi
    obtain ⟨us, g1, g2, g3⟩ := fillR_ok h sz xs ys _ cs _ hm' hc' hf
    refine ⟨us, ?_, g2, by rw [g3, List.length_set]⟩
    simp only [List.map_cons, Instr.fill]
    rw [if_neg]
    · exact g1
    · simp only [hsz, ne_eq, not_true_eq_false, decide_false, Bool.false_or, decide_eq_true_eq, Bool.or_eq_true, not_or]
      omega

/-- Zero rows. -/
theorem rowsR_zero {z : Array Value} {zero : List Value} (n : Nat) (hz : z.toList = zero) (h1 : ∀ v ∈ zero, v.oneCell' = true) (cells : Array Value)
    (hc : cells.size = n * zero.length) (hg : ∀ i j, i < n → j < zero.length → cells[i * zero.length + j]? = zero[j]?) :
    RowsR w gh zero.length (List.replicate n (zero.map fun v => wk1 (oneV v))) cells := by
  refine ⟨by simpa using hc, fun i row hr => ?_⟩
  rw [List.getElem?_replicate] at hr
  split at hr <;> simp only [Option.some.injEq, reduceCtorEq] at hr
  rename_i hi
  subst hr
  refine ⟨by simp, fun j d hd => ?_⟩
  simp only [List.getElem?_map, Option.map_eq_some_iff] at hd
  obtain ⟨v, hv, rfl⟩ := hd
  have hj : j < zero.length := (List.getElem?_eq_some_iff.1 hv).1
  refine ⟨v, by rw [hg i j hi hj]; exact hv, h1 v (List.mem_of_getElem? hv), ?_⟩
  rcases oneV_cases v with ⟨e, rfl⟩ | e
  · rw [e]; exact (Rep.nil none).wk1
  · rw [e]; exact Rep.val v

/-- A new block of rows that may be appended to. -/
theorem ok_newRows {d : Nat} {rows : Rows} {sz cap : Nat} {cur : Array Value} {e : TypeId} (h : AI w0 gh0 Wr N s gh a w) (hdst : o.dst = some d) (hd : d < N)
    (hr : (execOp a.eval o).run P w = .ok (.value (.slice (some ⟨w.heap.size, 0, none⟩) rows.length cap)) (w.alloc (.cells cur e)))
    (hc : RowsR w gh sz rows (cur.extract 0 (rows.length * sz))) (hcur : cur.size = cap * sz) (hcap : rows.length ≤ cap) (hm : cap ≤ maxLen) (hz0 : rows = [] → cap = 0) :
    o.wp P a w (fun a' w' => Mod w0 gh0 Wr N (s.ap (some d) (.put (.lst true rows) none)) a' w') Q := by
  obtain ⟨hI, hk, hnew⟩ := h.inv.fresh cur e (rows.length * sz)
  have hcs : rows.length * sz ≤ cur.size := by rw [hcur]; exact Nat.mul_le_mul_right _ hcap
  refine wp_value hr ⟨{ gh with S := upd gh.S w.heap.size (rows.length * sz), hb := updO gh.hb (.sl d) (some w.heap.size) }, ?_, by simpa using h.size, by simpa using h.defers⟩
  rw [hdst, tm_put _ _ _ (by rw [h.size]; exact hd)]
  have hex : ∀ k, k < rows.length * sz → (cur.extract 0 (rows.length * sz))[k]? = cur[k]? := by
    intro k hk
    rw [Array.getElem?_extract]
    simp [hk]; omega
  have hu : ∀ p : Nat × Nat, ∃ u, ∀ row d', rows[p.1]? = some row → row[p.2]? = some d' → cur[p.1 * sz + p.2]? = some u ∧ u.oneCell' = true ∧ Rep w gh.S d' u := by
    rintro ⟨i, j⟩
    by_cases hx : ∃ row d', rows[i]? = some row ∧ row[j]? = some d'
    · obtain ⟨row, d', h1, h2⟩ := hx
      obtain ⟨e1, e2⟩ := hc.2 i row h1
      obtain ⟨u, k1, k2, k3⟩ := e2 j d' h2
      have hj : j < sz := by rw [← e1]; exact (List.getElem?_eq_some_iff.1 h2).1
      have hi : i < rows.length := (List.getElem?_eq_some_iff.1 h1).1
      have hlt : i * sz + j < rows.length * sz := mul_lt_row hj hi
      rw [hex _ hlt] at k1
      refine ⟨u, fun row' d'' h1' h2' => ?_⟩
      simp only at h1' h2'
      rw [h1] at h1'; cases h1'
      rw [h2] at h2'; cases h2'
      exact ⟨k1, k2, k3⟩
    · exact ⟨undef, fun row d' h1 h2 => absurd ⟨row, d', h1, h2⟩ hx⟩
  have ⟨f, hf⟩ := Classical.axiomOfChoice hu
  have hrep : Rep (w.alloc (.cells cur e)) (upd gh.S w.heap.size (rows.length * sz)) (.lst false rows) (.slice (some ⟨w.heap.size, 0, none⟩) rows.length cap) := by
    refine Rep.lst (b := w.heap.size) (o := 0) (sz := sz) (u := fun i j => f (i, j)) rfl hcap hm (fun _ => rfl) (fun i row hr => ⟨(hc.2 i row hr).1, fun j hj => ?_⟩) (fun i row j d' hr hd' => ?_)
    · have hi : i < rows.length := (List.getElem?_eq_some_iff.1 hr).1
      obtain ⟨d', hd'⟩ : ∃ d', row[j]? = some d' := ⟨row[j]'(by rw [(hc.2 i row hr).1]; exact hj), by simp⟩
      obtain ⟨k1, k2, _⟩ := hf (i, j) row d' hr hd'
      refine ⟨by rw [newCell]; simpa using k1, ?_, k2⟩
      rw [upd_same]
      have := mul_lt_row (i' := rows.length) hj hi
      omega
    · exact (hf (i, j) row d' hr hd').2.2.keep hk
  refine hI.putOwn d hrep ?_ (fun k hk => hnew k hk) (h.inv.wrNew _ h.inv.size) (by simp)
  by_cases hne : rows = []
  · obtain rfl := hz0 hne
    subst hne
    exact .inl ⟨rfl, _, rfl⟩
  · exact .inr ⟨w.heap.size, cap, cur, e, sz, rfl, rfl, heap_alloc_new w _, hcap, hm, hcur, upd_same _ _ _, fun row hrow => by
      obtain ⟨i, hi⟩ := List.getElem?_of_mem hrow
      exact (hc.2 i row hi).1, hne⟩

theorem ok_bsl {d sz n : Nat} {T e : TypeId} {zero : List Value} {oparts : Array (Nat × Operand)} {parts : List (Nat × Opd)} {δ : De} {ti : TypeInfo} {z : Value}
    (h : AI w0 gh0 Wr N s gh a w) (hdst : o.dst = some d) (hd : d < N) (ho : o.op = .buildSlice T n oparts) (hT : P.underlying T = some (.slice e)) (hi : P.info? e = some ti) (hsz : ti.size = sz) (hpos : 0 < sz)
    (hz : ti.zero = some z) (hzc : z.cells.toList = zero) (h1 : ∀ v ∈ zero, v.oneCell' = true) (hm : PartsR oparts.toList parts) (hs : stepD P call s (.bsl d T sz zero n parts) = some δ) :
    o.wp P a w (fun a' w' => Mod w0 gh0 Wr N (s.ap (some d) δ) a' w') Q := by
  simp only [stepD, Option.ite_none_right_eq_some, Option.map_eq_some_iff] at hs
  obtain ⟨⟨hzl, hbig⟩, rows, hf, rfl⟩ := hs
  have hzs : z.cells.size = sz := by rw [← hzl, ← hzc]; simp
  let init : Array Value := (Array.range (n * sz)).map (z.cells[· % z.cells.size]!)
  have hinit : RowsR w gh sz (List.replicate n (zero.map fun v => wk1 (oneV v))) init := by
    have := rowsR_zero (w := w) (gh := gh) n hzc h1 init (by simp [init, hzl]) (fun i j hi' hj => ?_)
    · rwa [hzl] at this
    · rw [hzl] at hj ⊢
      have hlt : i * sz + j < n * sz := mul_lt_row hj hi'
      have hmod : (i * sz + j) % sz = j := by rw [Nat.mul_comm, Nat.mul_add_mod]; exact Nat.mod_eq_of_lt hj
      simp only [init, Array.getElem?_map, hzs]
      have hj' : j < z.cells.size := by omega
      simp [hlt, hmod, ← hzc, hj']
  obtain ⟨us, hfill, hR, hlen⟩ := fillR_ok h sz _ _ _ rows init hm hinit hf
  have hlen' : rows.length = n := by rw [hlen]; simp
  have hbs : ¬ (2 ^ 24 < n * sz) := by omega
  have hn : n ≤ maxLen := by
    have : n ≤ n * sz := Nat.le_mul_of_pos_right n hpos
    simp only [maxLen]; omega
  refine ok_newRows (cap := rows.length) (sz := sz) (cur := us) (e := e) h hdst hd ?_ ?_ hR.1 (Nat.le_refl _) (by rw [hlen']; exact hn) (fun e => by simp [e])
  · have hempty : n * sz = 0 → (Array.range (n * sz)).map (fun _ => (default : Value)) = init := fun h0 => by simp [init, h0]
    have : (Instr.buildSlice T n (oparts.map fun p => (p.1, a.eval p.2))).run P w = .ok (.slice (some ⟨w.heap.size, 0, none⟩) n n) (w.alloc (.cells us e)) := by
      unfold Instr.buildSlice
      simp only [Sem.run_bind, run_underlying hT, Result.andThen_ok, sizeOf_run hi, hsz, gt_iff_lt, if_neg hbs]
      by_cases h0 : n * sz = 0
      · simp only [if_pos h0, Sem.run_bind, Sem.run_pure, Result.andThen_ok, Array.toList_map]
        have e2 : (Array.range (n * sz)).map (fun x => (#[] : Array Value)[x % (#[] : Array Value).size]!) = init := by simp [init, h0]
        rw [e2, hfill]
        simp [newRow]
      · simp only [if_neg h0, Sem.run_bind, zeroV hi hz, Sem.run_pure, Result.andThen_ok, Array.toList_map]
        rw [show (Array.range (n * sz)).map (fun x => z.cells[x % z.cells.size]!) = init from rfl, hfill]
        simp [newRow]
    simp only [execOp, ho, hlen']
    exact run_execOp_value this
  · have e1 : us.extract 0 (rows.length * sz) = us := by rw [← hR.1]; simp
    rw [e1]; exact hR

theorem ok_mks {d sz : Nat} {T e : TypeId} {zero : List Value} {l c : Opd} {ol oc : Operand} {δ : De} {ti : TypeInfo} {z : Value}
    (h : AI w0 gh0 Wr N s gh a w) (hdst : o.dst = some d) (hd : d < N) (ho : o.op = .makeSlice T ol oc) (hT : P.underlying T = some (.slice e)) (hi : P.info? e = some ti) (hsz : ti.size = sz)
    (hby : ti.bytes ≤ 32768) (hz : ti.zero = some z) (hzc : z.cells.toList = zero) (h1 : ∀ v ∈ zero, v.oneCell' = true) (hl : OpdM ol l) (hc : OpdM oc c) {lo : Bool} (hs : stepD P call s (.mks d T sz zero l c lo) = some δ) :
    o.wp P a w (fun a' w' => Mod w0 gh0 Wr N (s.ap (some d) δ) a' w') Q := by
  simp only [stepD, Option.bind_eq_some_iff, Option.ite_none_right_eq_some] at hs
  obtain ⟨n, hn, m, hm, ⟨rfl, hroom, hzl, hpos⟩, hs⟩ := hs
  have nat : ∀ {x : Opd} {ox : Operand} {n : Nat}, OpdM ox x → natOfD (getO s.fr x) = some n → ∃ k, a.eval ox = .int k (n : Int) := by
    intro x ox n hx hn
    unfold natOfD at hn
    split at hn <;> simp only [Option.ite_none_right_eq_some, Option.some.injEq, reduceCtorEq] at hn
    rename_i k i heq
    obtain ⟨h0, rfl⟩ := hn
    obtain ⟨k', hk'⟩ := intOfD_rep (n := i) h hx (by rw [heq]; rfl)
    exact ⟨k', by rw [hk']; congr 1; omega⟩
  obtain ⟨k1, e1⟩ := nat hl hn
  obtain ⟨k2, e2⟩ := nat hc hm
  have hzs : z.cells.size = sz := by rw [← hzl, ← hzc]; simp
  have hr := run_make (P := P) w T e ti z hT hi hz k1 k2 n n (by omega) (Int.le_refl _) (by
    simp only [roomN] at hroom
    have : ti.bytes * n ≤ 32768 * 4294967296 := Nat.mul_le_mul hby hroom
    have h2 : ((ti.bytes * n : Nat) : Int) ≤ 281474976710656 := by omega
    rwa [Int.natCast_mul] at h2) (by simp only [roomN] at hroom; omega)
  simp only [Int.toNat_natCast, hsz] at hr
  have hrun : (execOp a.eval o).run P w = .ok (.value (.slice (some ⟨w.heap.size, 0, none⟩) n n)) (w.alloc (.cells (madeCells z.cells (n * sz)) e)) := by
    simp only [execOp, ho, e1, e2]
    exact run_execOp_value hr
  have hrows : RowsR w gh sz (List.replicate n (zero.map fun v => wk1 (oneV v))) (madeCells z.cells (n * sz)) := by
    have := rowsR_zero (w := w) (gh := gh) n hzc h1 (madeCells z.cells (n * sz)) (by simp [size_madeCells, hzl]) (fun i j hi' hj => ?_)
    · rwa [hzl] at this
    · rw [hzl] at hj ⊢
      have hlt : i * sz + j < n * sz := mul_lt_row hj hi'
      have hmod : (i * sz + j) % sz = j := by rw [Nat.mul_comm, Nat.mul_add_mod]; exact Nat.mod_eq_of_lt hj
      have hj' : j < z.cells.size := by omega
      simp [madeCells, hzs, hlt, hmod, ← hzc]
      rw [getElem!_pos z.cells j hj']; simp [hj']
  cases lo with
  | true =>
    simp only [if_true, Option.some.injEq] at hs
    subst hs
    refine wp_value hrun ⟨{ gh with lmu := upd gh.lmu d w.heap.size, lsz := upd gh.lsz d sz, hb := hbNewLoc gh.hb d }, ?_, by simpa using h.size, by simpa using h.defers⟩
    rw [hdst, tm_put _ _ _ (by rw [h.size]; exact hd)]
    have hlen : (List.replicate n (zero.map fun v => wk1 (oneV v))).length = n := by simp
    have := h.inv.newLoc d (rows := List.replicate n (zero.map fun v => wk1 (oneV v))) (cur := madeCells z.cells (n * sz)) (e := e) (sz := sz) (vd := .larr d 0 n) (v := .slice (some ⟨w.heap.size, 0, none⟩) n n) ⟨by rw [← hrows.1]; exact Nat.le_refl _, fun i row hrow => ?_⟩
      (.inr ⟨by rw [hlen], _, n, by rw [hlen], by rw [hlen]; exact Nat.le_refl _, by simp only [roomN] at hroom; simp only [maxLen]; omega, fun _ => rfl⟩)
    · exact this
    · obtain ⟨k1, k2⟩ := hrows.2 i row hrow
      refine ⟨k1, fun c d' hd' => ?_⟩
      obtain ⟨u, u1, u2, u3⟩ := k2 c d' hd'
      refine ⟨?_, u, u1, u2, u3.toC.2⟩
      rw [List.getElem?_replicate] at hrow
      split at hrow <;> simp only [Option.some.injEq, reduceCtorEq] at hrow
      subst hrow
      simp only [List.getElem?_map, Option.map_eq_some_iff] at hd'
      obtain ⟨v0, hv0, rfl⟩ := hd'
      have hone := h1 v0 (List.mem_of_getElem? hv0)
      rcases oneV_cases v0 with ⟨hx, _⟩ | hx <;> rw [hx]
      · rfl
      · cases v0 <;> simp_all [Value.oneCell', cellC, pureC, wk1]
  | false =>
  simp only [Bool.false_eq_true, if_false, Option.some.injEq] at hs
  subst hs
  refine ok_newRows (cap := n) (sz := sz) (cur := madeCells z.cells (n * sz)) (e := e) h hdst hd ?_ ?_ (size_madeCells _ _) (by simp) (by simp only [roomN] at hroom; simp only [maxLen]; omega) (fun e => by simpa using e)
  · rw [List.length_replicate]; exact hrun
  · have ex : (madeCells z.cells (n * sz)).extract 0 ((List.replicate n (zero.map fun v => wk1 (oneV v))).length * sz) = madeCells z.cells (n * sz) := by
      have : (List.replicate n (zero.map fun v => wk1 (oneV v))).length * sz = (madeCells z.cells (n * sz)).size := by simp [size_madeCells]
      rw [this]; simp
    rw [ex]
    exact hrows

end Go.AM
