/- Appending, slicing. -/
import Derived.Test.YtnglcmfgkcdgcaaGreatAmA10
namespace Go.AM
open Go
set_option linter.unusedVariables false
set_option linter.unusedSimpArgs false

variable {w0 w w' : World} {Wr : Nat → Prop} {s s' : St} {gh gh' gh0 : Gh} {P : Program} {call : Call} {t t' : Nat → Value}
variable {N : Nat} {a : Act} {Q : Exit → Act → World → Prop} {o : Oper}

/-- A list's cells, one behind the other. -/
theorem Rep.flat {rows : Rows} {v : Value} {sz : Nat} (h : Rep w gh.S (.lst false rows) v) (hsz : ∀ row ∈ rows, row.length = sz) :
    ∃ A c us, v = .slice A rows.length c ∧ rows.length ≤ c ∧ c ≤ maxLen ∧ RowsR w gh sz rows us ∧
      (rows ≠ [] → ∃ b o, A = some ⟨b, o, none⟩ ∧ ∀ (k : Nat) u, us[k]? = some u → w.cell? ⟨b, o + k, none⟩ = some u ∧ o + k < gh.S b) := by
  cases h with
  | lst hn hc hm hA hcell hrep =>
    rename_i A n c b o sz' u
    subst hn
    have hs : rows ≠ [] → sz' = sz := by
      intro hne
      obtain ⟨row, hrow⟩ := List.exists_mem_of_ne_nil rows hne
      obtain ⟨i, hi⟩ := List.getElem?_of_mem hrow
      exact ((hcell i row hi).1).symm.trans (hsz row hrow)
    refine ⟨A, c, ((List.range (rows.length * sz)).map fun k => u (k / sz) (k % sz)).toArray, rfl, hc, hm, ⟨by simp, fun i row hr => ?_⟩, fun hne => ?_⟩
    · have hi : i < rows.length := (List.getElem?_eq_some_iff.1 hr).1
      have hne : rows ≠ [] := by intro e; subst e; simp at hi
      have hz := hs hne
      subst hz
      refine ⟨(hcell i row hr).1, fun j d hd => ?_⟩
      have hj : j < sz' := by rw [← (hcell i row hr).1]; exact (List.getElem?_eq_some_iff.1 hd).1
      have hlt : i * sz' + j < rows.length * sz' := mul_lt_row hj hi
      have h1 : (i * sz' + j) / sz' = i := by rw [Nat.mul_comm, Nat.mul_add_div (by omega), Nat.div_eq_of_lt hj]; rfl
      have h2 : (i * sz' + j) % sz' = j := by rw [Nat.mul_comm, Nat.mul_add_mod]; exact Nat.mod_eq_of_lt hj
      exact ⟨u i j, by simp [hlt, h1, h2], ((hcell i row hr).2 j hj).2.2, hrep i row j d hr hd⟩
    · have hz := hs hne
      subst hz
      refine ⟨b, o, hA (by simpa using hne), fun k x hx => ?_⟩
      simp only [List.getElem?_toArray, List.getElem?_map, Option.map_eq_some_iff, List.getElem?_range] at hx
      obtain ⟨k', hk', rfl⟩ := hx
      obtain ⟨hk, rfl⟩ : k < rows.length * sz' ∧ k = k' := by
        rw [List.getElem?_eq_some_iff] at hk'
        obtain ⟨h1, h2⟩ := hk'
        simp at h1 h2
        exact ⟨h1, h2⟩
      have hpos : 0 < sz' := by
        rcases Nat.eq_zero_or_pos sz' with h0 | h0
        · subst h0; simp at hk
        · exact h0
      have hi : k / sz' < rows.length := (Nat.div_lt_iff_lt_mul hpos).2 hk
      have hj : k % sz' < sz' := Nat.mod_lt _ hpos
      have := (hcell (k / sz') rows[k / sz'] (by simp [hi])).2 (k % sz') hj
      have e : o + k / sz' * sz' + k % sz' = o + k := by rw [Nat.add_assoc, Nat.mul_comm, Nat.div_add_mod]
      rw [e] at this
      exact ⟨this.1, this.2.1⟩

/-- The rows that an operand has, as flat cells; no right to append goes along. -/
theorem rows_flat {dv : DV} {v : Value} {r : Rows} {ℓ : Option Own} {sz : Nat} (h : Inv w0 gh0 Wr s gh t w) (hr : SRep w gh ℓ dv v) (hs : rowsOf s dv = some r) (hsz : ∀ row ∈ r, row.length = sz) (hp : ∀ row ∈ r, ∀ d ∈ row, pureC d = true) :
    ∃ A c us, v = .slice A r.length c ∧ RowsR w gh sz (r.map (·.map wk1)) us ∧
      (r ≠ [] → ∃ b o, A = some ⟨b, o, none⟩ ∧ ∀ (k : Nat) u, us[k]? = some u → w.cell? ⟨b, o + k, none⟩ = some u) := by
  have obj : ∀ (q : Bool) (g off len : Nat) (rs : Rows) (A : Option Addr) (cap : Nat), orows s q g = some rs → off + len ≤ rs.length → r = (rs.drop off).take len → v = .slice A len cap →
      (len ≠ 0 → A = some ⟨oblk gh q g, off * osz gh q g, none⟩) → ∃ A c us, v = .slice A r.length c ∧ RowsR w gh sz (r.map (·.map wk1)) us ∧
      (r ≠ [] → ∃ b o, A = some ⟨b, o, none⟩ ∧ ∀ (k : Nat) u, us[k]? = some u → w.cell? ⟨b, o + k, none⟩ = some u) := by
    intro q g off len rs A cap hro hle hrr hv hA
    subst hv
    obtain ⟨cur, e, hcur, hco, hcells⟩ := h.obj hro
    have hlen : r.length = len := by subst hrr; simp; omega
    have hget : ∀ i row, r[i]? = some row → rs[off + i]? = some row ∧ i < len := by
      intro i row hi
      subst hrr
      rw [List.getElem?_take] at hi
      split at hi
      · rename_i hlt; rw [List.getElem?_drop] at hi; exact ⟨hi, hlt⟩
      · simp at hi
    have hzz : r ≠ [] → osz gh q g = sz := by
      intro hne
      obtain ⟨row, hrow⟩ := List.exists_mem_of_ne_nil r hne
      obtain ⟨i, hi⟩ := List.getElem?_of_mem hrow
      exact ((hcells _ row (hget i row hi).1).1).symm.trans (hsz row hrow)
    refine ⟨A, cap, cur.extract (off * sz) (off * sz + len * sz), by rw [hlen], ?_, ?_⟩
    · by_cases hne : r = []
      · subst hne
        simp only [List.length_nil] at hlen
        subst hlen
        exact ⟨by simp; omega, fun i row hi => by simp at hi⟩
      · have hz := hzz hne
        have hcs : off * sz + len * sz ≤ cur.size := by
          rw [← hz, ← Nat.add_mul]
          exact Nat.le_trans (Nat.mul_le_mul_right _ hle) hco
        refine ⟨by simp [hlen]; omega, fun i row hi => ?_⟩
        simp only [List.getElem?_map, Option.map_eq_some_iff] at hi
        obtain ⟨row0, hi0, rfl⟩ := hi
        obtain ⟨hrs, hil⟩ := hget i row0 hi0
        obtain ⟨hl0, hc0⟩ := hcells _ row0 hrs
        refine ⟨by simpa using hl0.trans hz, fun j d hd => ?_⟩
        simp only [List.getElem?_map, Option.map_eq_some_iff] at hd
        obtain ⟨d0, hd0, rfl⟩ := hd
        obtain ⟨k0, u, k1, k2, k3⟩ := hc0 j d0 hd0
        have hj : j < sz := by rw [← hz, ← hl0]; exact (List.getElem?_eq_some_iff.1 hd0).1
        have hlt : i * sz + j < len * sz := mul_lt_row hj hil
        refine ⟨u, ?_, k2, k3.pure (hp row0 (List.mem_of_getElem? hi0) d0 (List.mem_of_getElem? hd0))⟩
        rw [Array.getElem?_extract, if_pos (by omega), show off * sz + (i * sz + j) = (off + i) * sz + j by rw [Nat.add_mul]; omega, ← hz]
        exact k1
    · intro hne
      have hz := hzz hne
      refine ⟨oblk gh q g, off * osz gh q g, hA (by rw [← hlen]; simpa using hne), fun k u hu => ?_⟩
      rw [Array.getElem?_extract] at hu
      split at hu
      · rw [cell_of_row w _ _ cur e (0, 0) hcur, hz]; exact hu
      · simp at hu
  cases dv <;> simp only [rowsOf, reduceCtorEq, Option.some.injEq, Option.bind_eq_some_iff, Option.ite_none_right_eq_some] at hs
  · subst hs
    obtain ⟨A, c, us, h1, _, _, h2, h3⟩ := hr.rows.flat hsz
    refine ⟨A, c, us, h1, ⟨by simpa using h2.1, fun i row hi => ?_⟩, fun hne => ?_⟩
    · simp only [List.getElem?_map, Option.map_eq_some_iff] at hi
      obtain ⟨row0, hi0, rfl⟩ := hi
      obtain ⟨g1, g2⟩ := h2.2 i row0 hi0
      refine ⟨by simpa using g1, fun j d hd => ?_⟩
      simp only [List.getElem?_map, Option.map_eq_some_iff] at hd
      obtain ⟨d0, hd0, rfl⟩ := hd
      obtain ⟨u, k1, k2, k3⟩ := g2 j d0 hd0
      exact ⟨u, k1, k2, k3.wk1⟩
    · obtain ⟨b, o, e1, e2⟩ := h3 hne
      exact ⟨b, o, e1, fun k u hu => (e2 k u hu).1⟩
  · obtain ⟨rs, hrs, hle, rfl⟩ := hs
    obtain ⟨_, A, cap, hv, _, _, hA⟩ := hr
    exact obj true _ _ _ rs A cap hrs hle rfl hv hA
  · obtain ⟨rs, hrs, hle, rfl⟩ := hs
    obtain ⟨A, cap, hv, _, _, hA⟩ := hr
    exact obj false _ _ _ rs A cap hrs hle rfl hv hA

theorem RowsR.append {sz : Nat} {r1 r2 : Rows} {u1 u2 : Array Value} (h1 : RowsR w gh sz r1 u1) (h2 : RowsR w gh sz r2 u2) : RowsR w gh sz (r1 ++ r2) (u1 ++ u2) := by
  refine ⟨by simp [h1.1, h2.1, Nat.add_mul], fun i row hr => ?_⟩
  by_cases hi : i < r1.length
  · rw [List.getElem?_append_left hi] at hr
    obtain ⟨g1, g2⟩ := h1.2 i row hr
    refine ⟨g1, fun j d hd => ?_⟩
    obtain ⟨u, k1, k2⟩ := g2 j d hd
    have hj : j < sz := by rw [← g1]; exact (List.getElem?_eq_some_iff.1 hd).1
    have hlt : i * sz + j < u1.size := by rw [h1.1]; exact mul_lt_row hj hi
    exact ⟨u, by rw [Array.getElem?_append_left hlt]; exact k1, k2⟩
  · rw [List.getElem?_append_right (by omega)] at hr
    obtain ⟨g1, g2⟩ := h2.2 _ row hr
    refine ⟨g1, fun j d hd => ?_⟩
    obtain ⟨u, k1, k2⟩ := g2 j d hd
    have e : i * sz + j - u1.size = (i - r1.length) * sz + j := by
      rw [h1.1, Nat.sub_mul]
      have : r1.length * sz ≤ i * sz := Nat.mul_le_mul_right _ (by omega)
      omega
    have hge : u1.size ≤ i * sz + j := by
      rw [h1.1]
      have : r1.length * sz ≤ i * sz := Nat.mul_le_mul_right _ (by omega)
      omega
    exact ⟨u, by rw [Array.getElem?_append_right hge, e]; exact k1, k2⟩

theorem RowsR.keep {sz : Nat} {r : Rows} {us : Array Value} (hk : Keeps w gh.S w' gh'.S) (h : RowsR w gh sz r us) : RowsR w' gh' sz r us :=
  ⟨h.1, fun i row hr => ⟨(h.2 i row hr).1, fun j d hd => let ⟨u, k1, k2, k3⟩ := (h.2 i row hr).2 j d hd; ⟨u, k1, k2, k3.keep hk⟩⟩⟩

/-- A list read in a block from its head on. -/
theorem Rep.of_rows {sz : Nat} {rows : Rows} {us : Array Value} {g cap : Nat} (hR : RowsR w gh sz rows us) (hc : ∀ (k : Nat) u, us[k]? = some u → w.cell? ⟨g, k, none⟩ = some u ∧ k < gh.S g)
    (hcap : rows.length ≤ cap) (hm : cap ≤ maxLen) : Rep w gh.S (.lst false rows) (.slice (some ⟨g, 0, none⟩) rows.length cap) := by
  have hu : ∀ p : Nat × Nat, ∃ u, ∀ row d', rows[p.1]? = some row → row[p.2]? = some d' → us[p.1 * sz + p.2]? = some u ∧ u.oneCell' = true ∧ Rep w gh.S d' u := by
    rintro ⟨i, j⟩
    by_cases hx : ∃ row d', rows[i]? = some row ∧ row[j]? = some d'
    · obtain ⟨row, d', h1, h2⟩ := hx
      obtain ⟨u, k1, k2, k3⟩ := (hR.2 i row h1).2 j d' h2
      refine ⟨u, fun row' d'' h1' h2' => ?_⟩
      simp only at h1' h2'
      rw [h1] at h1'; cases h1'
      rw [h2] at h2'; cases h2'
      exact ⟨k1, k2, k3⟩
    · exact ⟨undef, fun row d' h1 h2 => absurd ⟨row, d', h1, h2⟩ hx⟩
  have ⟨f, hf⟩ := Classical.axiomOfChoice hu
  refine Rep.lst (b := g) (o := 0) (sz := sz) (u := fun i j => f (i, j)) rfl hcap hm (fun _ => rfl) (fun i row hr => ⟨(hR.2 i row hr).1, fun j hj => ?_⟩) (fun i row j d' hr hd' => (hf (i, j) row d' hr hd').2.2)
  obtain ⟨d', hd'⟩ : ∃ d', row[j]? = some d' := ⟨row[j]'(by rw [(hR.2 i row hr).1]; exact hj), by simp⟩
  obtain ⟨k1, k2, _⟩ := hf (i, j) row d' hr hd'
  obtain ⟨e1, e2⟩ := hc _ _ k1
  exact ⟨by simpa using e1, by simpa using e2, k2⟩

/-- A slot loses its right to append. -/
theorem Inv.weaken (h : Inv w0 gh0 Wr s gh t w) (n : Nat) : Inv w0 gh0 Wr { s with fr := upd s.fr n (AM.wk (s.fr n)) } { gh with hb := updO gh.hb (.sl n) none } t w := by
  have := h.put n (h.slots n).wk
  have e : upd t n (t n) = t := by funext i; by_cases hi : i = n <;> simp [upd, hi]
  rwa [e] at this

/-- In a block that nothing uses more cells are written, and can't change from now on. -/
theorem Inv.grow (h : Inv w0 gh0 Wr s gh t w) {g n : Nat} (hnot : ∀ k, ¬ Uses s gh k g) (hW : Wr g) (hos : w'.os = w.os) (htp : w'.tape = w.tape) (hou : w'.output = w.output) (hsz : w'.heap.size = w.heap.size)
    (hlt : g < w.heap.size) (hbl : ∀ b, b ≠ g → w'.heap[b]? = w.heap[b]?) (hcell : ∀ o, o < gh.S g → w'.cell? ⟨g, o, none⟩ = w.cell? ⟨g, o, none⟩) (hn : gh.S g ≤ n) :
    Inv w0 gh0 Wr s { gh with S := upd gh.S g n } t w' ∧ Keeps w gh.S w' (upd gh.S g n) := by
  have hk : Keeps w gh.S w' (upd gh.S g n) := by
    intro b o ho
    by_cases e : b = g
    · subst e; exact ⟨hcell o ho, by rw [upd_same]; omega⟩
    · exact ⟨cell_of_block (a := ⟨b, o, none⟩) (hbl b e), by rw [upd_ne _ _ e]; exact ho⟩
  have hown : ∀ ℓ, Act' s ℓ → ∀ rows v, OwnR w gh.S (gh.hb ℓ) rows v → OwnR w' (upd gh.S g n) (gh.hb ℓ) rows v := by
    intro ℓ ha rows v ho
    refine ho.keep fun b hb _ => ?_
    have hbg : b ≠ g := fun e => hnot (.own ℓ) ⟨ha, by rw [hb, e]⟩
    exact ⟨hbl b hbg, upd_ne _ _ hbg⟩
  refine ⟨{ os := hos.trans h.os, tape := htp.trans h.tape, output := hou.trans h.output, size := by rw [hsz]; exact h.size, frame := fun b hb hWb => ?_, wrNew := h.wrNew, s0 := fun b hb hWb => ?_, keep0 := h.keep0.trans hk, m0 := h.m0, marks := fun b hb => ?_, slots := fun i => ?_, gobs := fun q rows hg => ?_, lobs := fun l rows hl => ?_, zero := fun k b hu hk' => ?_, uses := fun k b hu => ?_, one := h.one, nx := h.nx }, hk⟩
  · rw [hbl b (fun e => hWb (e ▸ hW))]; exact h.frame b hb hWb
  · show upd gh.S g n b = _
    have hbg : b ≠ g := fun e => hWb (e ▸ hW)
    rw [upd_ne _ _ hbg]; exact h.s0 b hb hWb
  · show upd gh.S g n b = 0
    rw [hsz] at hb
    rw [upd_ne _ _ (by omega)]; exact h.marks b hb
  · exact (h.slots i).keep (gh := gh) (ℓ := some (.sl i)) (ℓ' := some (.sl i)) hk (.inr fun _ hg => ⟨hg, rfl, rfl⟩) (.inr fun _ => ⟨rfl, rfl⟩) (fun rows hd ho => hown (.sl i) ⟨rows, hd⟩ _ _ ho)
  · refine ObjRep.keep (gh := gh) hk (fun _ hg => ⟨hg, rfl, rfl⟩) (hbl _ (fun e => hnot (.go q) ⟨by simp [hg], e⟩)) (fun i c r row v h1 h2 ho => hown (.ge q i c) ⟨rows, row, r, hg, h1, h2⟩ _ _ ho) (h.gobs q rows hg)
  · refine ObjRep.keep (gh := gh) hk (fun _ hg => ⟨hg, rfl, rfl⟩) (hbl _ (fun e => hnot (.lo l) ⟨by simp [hl], e⟩)) (fun i c r row v h1 h2 ho => hown (.le l i c) ⟨rows, row, r, hl, h1, h2⟩ _ _ ho) (h.lobs l rows hl)
  · show upd gh.S g n b = 0
    have hbg : b ≠ g := fun e => hnot k (e ▸ hu)
    rw [upd_ne _ _ hbg]; exact h.zero k b hu hk'
  · rw [hsz]; exact h.uses k b hu

/-- append where there is room: at any block. -/
theorem run_append_room' (t ty e eb : TypeId) (i : TypeInfo) (ht : P.underlying t = some (.slice e)) (hi : P.info? e = some i)
    (g sLen sCap : Nat) (cur : Array Value) (hg : w.heap[g]? = some (.cells cur eb (0, 0)))
    (a : Addr) (m c : Nat) (news : List Value) (hl : news.length = m * i.size) (hnews : ∀ (j : Nat) u, news[j]? = some u → w.cell? (a.add j) = some u) (h1 : ∀ u ∈ news, u.oneCell' = true)
    (hroom : sLen + m ≤ sCap) (hfit : sLen * i.size + news.length ≤ cur.size) :
    (Builtin.append_ #[t, t] ty #[.slice (some ⟨g, 0, none⟩) sLen sCap, .slice (some a) m c]).run P w =
      .ok (.slice (some ⟨g, 0, none⟩) (sLen + m) sCap) (w.setRow g (cur.toList.take (sLen * i.size) ++ news ++ cur.toList.drop (sLen * i.size + news.length)).toArray) := by
  have hf := run_firstCells_some (P := P) w i.size m a m c news hl hnews
  have hst := run_storeCells_at P g (sLen * i.size) eb news 0 cur w hg (by simpa using hfit) h1
  simp only [Nat.add_zero] at hst
  simp [Builtin.append_, run_underlying ht, sizeOf, typeInfo, hi, Builtin.lenOf, hroom, hf, Addr.add_lit, hst]

/-- append of nothing. -/
theorem run_append_none (t ty e : TypeId) (i : TypeInfo) (ht : P.underlying t = some (.slice e)) (hi : P.info? e = some i) (A B : Option Addr) (sLen sCap c : Nat) (hle : sLen ≤ sCap) :
    (Builtin.append_ #[t, t] ty #[.slice A sLen sCap, .slice B 0 c]).run P w = .ok (.slice A sLen sCap) w := by
  cases A <;> cases B <;> simp [Builtin.append_, run_underlying ht, sizeOf, typeInfo, hi, Builtin.lenOf, hle, Builtin.firstCells, loadCells, loadCellsFrom, storeCells]

end Go.AM
