/- Appending and slicing: the operations. -/
import Derived.Test.YtnglcmfgkcdgcaaGreatAmA11
namespace Go.AM
open Go
set_option linter.unusedVariables false
set_option linter.unusedSimpArgs false

variable {w0 w w' : World} {Wr : Nat → Prop} {s s' : St} {gh gh' gh0 : Gh} {P : Program} {call : Call} {t t' : Nat → Value}
variable {N : Nat} {a : Act} {Q : Exit → Act → World → Prop} {o : Oper}

/-- A new block that holds a list; the list may be appended to. -/
theorem Inv.newRows (h : Inv w0 gh0 Wr s gh t w) (d : Nat) {rows : Rows} {sz cap : Nat} {us cur : Array Value} {e : TypeId} (hR : RowsR w gh sz rows us) (hcu : ∀ (k : Nat) u, us[k]? = some u → cur[k]? = some u)
    (hcur : cur.size = cap * sz) (hcap : rows.length ≤ cap) (hm : cap ≤ maxLen) (hsz : ∀ row ∈ rows, row.length = sz) (hne : rows ≠ []) :
    ∃ gh', Inv w0 gh0 Wr { s with fr := upd s.fr d (.lst true rows) } gh' (upd t d (.slice (some ⟨w.heap.size, 0, none⟩) rows.length cap)) (w.alloc (.cells cur e)) := by
  have hsize : (w.alloc (.cells cur e)).heap.size = w.heap.size + 1 := by simp
  have hI : Inv w0 gh0 Wr s { gh with S := upd gh.S w.heap.size (rows.length * sz) } t (w.alloc (.cells cur e)) :=
    h.world (Ext.alloc w _) _ (fun b hb => upd_ne _ _ (by omega)) (fun b hb => by rw [hsize] at hb; rw [upd_ne _ _ (by omega)]; exact h.marks b (by omega))
  have hk : Keeps w gh.S (w.alloc (.cells cur e)) (upd gh.S w.heap.size (rows.length * sz)) :=
    h.keeps fun b hb _ => ⟨(Ext.alloc w _).block b hb, by rw [upd_ne _ _ (by omega)]; exact Nat.le_refl _⟩
  have hR' : RowsR (w.alloc (.cells cur e)) { gh with S := upd gh.S w.heap.size (rows.length * sz) } sz rows us := hR.keep (gh' := { gh with S := upd gh.S w.heap.size (rows.length * sz) }) hk
  refine ⟨_, hI.putOwn d (b := w.heap.size) (Rep.of_rows hR' (fun k u hu => ?_) hcap hm) ?_ (fun k hu => ?_) (h.wrNew _ h.size) (by omega)⟩
  · refine ⟨by rw [newCell]; exact hcu k u hu, ?_⟩
    show k < upd gh.S w.heap.size (rows.length * sz) w.heap.size
    rw [upd_same, ← hR.1]
    exact (Array.getElem?_eq_some_iff.1 hu).1
  · exact .inr ⟨w.heap.size, cap, cur, e, sz, rfl, rfl, heap_alloc_new w _, hcap, hm, hcur, upd_same _ _ _, hsz, hne⟩
  · have := (h.uses k _ hu).2; omega

theorem ok_app {d sz : Nat} {T e : TypeId} {x y : Opd} {ox oy : Operand} {δ : De} {ti : TypeInfo} {z : Value} (h : AI w0 gh0 Wr N s gh a w) (hdst : o.dst = some d) (hd : d < N)
    (ho : o.op = .call { callee := .builtin .append, args := #[ox, oy], argTypes := #[T, T] }) (hT : P.underlying T = some (.slice e)) (hi : P.info? e = some ti) (hsz : ti.size = sz) (hpos : 0 < sz)
    (hby : ti.bytes ≤ 32768) (hz : ti.zero = some z) (hzs : z.cells.size = sz) (hx : OpdM ox x) (hy : OpdM oy y) (hs : stepD P call s (.app d T sz x y) = some δ) :
    o.wp P a w (fun a' w' => Mod w0 gh0 Wr N (s.ap (some d) δ) a' w') Q := by
  simp only [stepD, Option.bind_eq_some_iff] at hs
  obtain ⟨ys, hys, hs⟩ := hs
  split at hs
  case h_2 => simp at hs
  rename_i rows hgx
  simp only [Option.ite_none_right_eq_some, Bool.and_eq_true, decide_eq_true_eq] at hs
  obtain ⟨⟨⟨hall, hrl⟩, hroom⟩, hs⟩ := hs
  have hrl' : ∀ row ∈ rows, row.length = sz := fun row hr => by simpa using List.all_eq_true.1 hrl row hr
  have hyl : ∀ row ∈ ys, row.length = sz ∧ ∀ dd ∈ row, pureC dd = true := by
    intro row hr
    have := List.all_eq_true.1 hall row hr
    simp only [Bool.and_eq_true, decide_eq_true_eq] at this
    exact ⟨this.1, fun dd hdd => List.all_eq_true.1 this.2 dd hdd⟩
  -- where the right to append comes from
  have src : ∃ src : Option Nat, δ = .put (.lst true (rows ++ ys.map (·.map wk1))) src ∧ ∃ hbx gh1, Inv w0 gh0 Wr { s with fr := wkO s.fr src } gh1 (tm a) w ∧ gh1.S = gh.S ∧
      Rep w gh.S (.lst false rows) (a.eval ox) ∧ OwnR w gh.S hbx rows (a.eval ox) ∧
      (∀ g, hbx = some g → (∃ cap, a.eval ox = .slice (some ⟨g, 0, none⟩) rows.length cap ∧ w.heap.size ≤ g) ∨ ((∀ k, ¬ Uses { s with fr := wkO s.fr src } gh1 k g) ∧ Wr g ∧ g < w.heap.size)) := by
    cases x with
    | t n =>
      obtain ⟨m, rfl, rfl⟩ : ∃ m, ox = .tmp m ∧ m = n := by cases ox <;> simp_all [OpdM]
      simp only [Option.ite_none_left_eq_some, Option.some.injEq] at hs
      simp only [getO] at hgx
      have hsl := h.inv.slots m
      rw [hgx] at hsl
      refine ⟨some m, hs.2.symm, gh.hb (.sl m), { gh with hb := updO gh.hb (.sl m) none }, h.inv.weaken m, rfl, hsl.1, hsl.2, fun g hg => .inr ?_⟩
      have hu : Uses s gh (.own (.sl m)) g := ⟨⟨rows, hgx⟩, hg⟩
      refine ⟨fun k hk => ?_, h.inv.uses _ g hu⟩
      have hk0 : Uses s gh k g ∧ k ≠ .own (.sl m) := by
        match k, hk with
        | .own (.sl j), ⟨⟨r, hr⟩, hb⟩ =>
          have hj : j ≠ m := by
            rintro rfl
            simp at hb
          simp only [wkO, upd_ne _ _ hj] at hr
          simp only [updO_ne _ _ (show (Own.sl j) ≠ .sl m by simpa using hj)] at hb
          exact ⟨⟨⟨r, hr⟩, hb⟩, by simpa using hj⟩
        | .own (.ge g' i c), ⟨ha, hb⟩ => exact ⟨⟨ha, by simpa [updO] using hb⟩, by simp⟩
        | .own (.le g' i c), ⟨ha, hb⟩ => exact ⟨⟨ha, by simpa [updO] using hb⟩, by simp⟩
        | .go g', hu => exact ⟨hu, by simp⟩
        | .lo g', hu => exact ⟨hu, by simp⟩
      exact hk0.2 (h.inv.one _ _ _ hk0.1 hu)
    | k v =>
      simp only [Option.some.injEq] at hs
      cases ox <;> simp only [OpdM] at hx
      subst hx
      have hr := rep_dvOf (w := w) (gh := gh)
      rename_i v
      have hr := hr v
      simp only [getO] at hgx
      rw [hgx] at hr
      refine ⟨none, hs.symm, none, gh, h.inv, rfl, hr.1, hr.2, fun g hg => by simp at hg⟩
    | f n => simp [getO] at hgx
  obtain ⟨src, rfl, hbx, gh1, hI, hS1, hrx, hox, hblk⟩ := src
  have hv := h.getW hy
  obtain ⟨Ay, cy, usy, ey, hRy, hcy⟩ := rows_flat h.inv hv hys (fun row hr => (hyl row hr).1) (fun row hr => (hyl row hr).2)
  obtain ⟨Ax, cx, usx, ex, hxc, hxm, hRx, hcx⟩ := hrx.flat hrl'
  have hrun : ∀ v' w', (Builtin.append_ #[T, T] o.type #[a.eval ox, a.eval oy]).run P w = .ok v' w' → (execOp a.eval o).run P w = .ok (.value v') w' := by
    intro v' w' hr
    simp only [execOp, ho, resolve, invoke, builtin, Sem.run_bind, Sem.run_pure, Result.andThen_ok, List.map_toArray, List.map_cons, List.map_nil, hr]
  have fin : ∀ v' w', (Builtin.append_ #[T, T] o.type #[a.eval ox, a.eval oy]).run P w = .ok v' w' →
      (∃ gh', Inv w0 gh0 Wr { s with fr := upd (wkO s.fr src) d (.lst true (rows ++ ys.map (·.map wk1))) } gh' (upd (tm a) d v') w') →
      o.wp P a w (fun a' w' => Mod w0 gh0 Wr N (s.ap (some d) (.put (.lst true (rows ++ ys.map (·.map wk1))) src)) a' w') Q := by
    rintro v' w' hr ⟨gh', hI'⟩
    refine wp_value (hrun v' w' hr) ⟨gh', ?_, by simpa using h.size, by simpa using h.defers⟩
    rw [hdst, tm_put _ _ _ (by rw [h.size]; exact hd)]
    exact hI'
  have hlen2 : (rows ++ ys.map (·.map wk1)).length = rows.length + ys.length := by simp
  have hbnd : rows.length + ys.length ≤ 4294967296 := hroom
  have hall2 : ∀ row ∈ rows ++ ys.map (·.map wk1), row.length = sz := by
    intro row hr
    rcases List.mem_append.1 hr with hr | hr
    · exact hrl' row hr
    · obtain ⟨r0, h0, rfl⟩ := List.mem_map.1 hr
      simpa using (hyl r0 h0).1
  have hR12 : RowsR w gh sz (rows ++ ys.map (·.map wk1)) (usx ++ usy) := hRx.append hRy
  by_cases hm0 : ys = []
  · -- nothing is appended
    subst hm0
    have hr := run_append_none (P := P) (w := w) T o.type e ti hT hi Ax Ay rows.length cx cy hxc
    rw [← ex, ← show a.eval oy = .slice Ay 0 cy from ey] at hr
    refine fin _ _ hr ?_
    simp only [List.map_nil, List.append_nil]
    rcases hox with ⟨rfl, A, hA⟩ | ⟨g, cap, cur, e', sz', h0, h1, h2, h3, h4, h5, h6, h7, h8⟩
    · refine ⟨_, hI.put d (d := .lst true []) ?_⟩
      exact ⟨by rw [hS1]; exact hrx, .inl ⟨rfl, A, hA⟩⟩
    · have hgw : g < w.heap.size := (Array.getElem?_eq_some_iff.1 h2).1
      rcases hblk g h0 with ⟨_, _, hx⟩ | ⟨hn, hW, hlt⟩
      · omega
      refine ⟨_, hI.putOwn d (b := g) (by rw [hS1]; exact hrx) ?_ hn hW hlt⟩
      rw [hS1]
      exact .inr ⟨g, cap, cur, e', sz', rfl, h1, h2, h3, h4, h5, h6, h7, h8⟩
  · obtain ⟨by_, oy_, rfl, hcy'⟩ := hcy hm0
    have hm1 : 0 < ys.length := List.length_pos_iff.2 hm0
    have hnl : usy.toList.length = ys.length * ti.size := by rw [hsz]; simpa using hRy.1
    have hnews : ∀ (j : Nat) v, usy.toList[j]? = some v → w.cell? ((⟨by_, oy_, none⟩ : Addr).add j) = some v := fun j v hj => by rw [Addr.add_lit]; exact hcy' j v (by simpa using hj)
    have one1 : ∀ u ∈ usy.toList, u.oneCell' = true := by
      intro u hu
      obtain ⟨k, hk⟩ := List.getElem?_of_mem hu
      have hk' : usy[k]? = some u := by simpa using hk
      have hlt : k < (ys.map (·.map wk1)).length * sz := by rw [← hRy.1]; exact (Array.getElem?_eq_some_iff.1 hk').1
      have hi' : k / sz < (ys.map (·.map wk1)).length := (Nat.div_lt_iff_lt_mul hpos).2 hlt
      obtain ⟨g1, g2⟩ := hRy.2 (k / sz) _ (List.getElem?_eq_getElem hi')
      have hj : k % sz < sz := Nat.mod_lt _ hpos
      obtain ⟨u', k1, k2, _⟩ := g2 (k % sz) _ (List.getElem?_eq_getElem (by rw [g1]; exact hj))
      rw [show k / sz * sz + k % sz = k by rw [Nat.mul_comm, Nat.div_add_mod], hk'] at k1
      cases k1; exact k2
    -- a new block
    have newB : ∀ (old cap : Nat) (wd : World), wd = w.drew → cap = grownCap w (rows.length + ys.length) old e →
        ∃ gh', Inv w0 gh0 Wr { s with fr := upd (wkO s.fr src) d (.lst true (rows ++ ys.map (·.map wk1))) } gh'
          (upd (tm a) d (.slice (some ⟨w.heap.size, 0, none⟩) (rows.length + ys.length) cap)) (wd.alloc (.cells (usx ++ usy ++ Builtin.zeroCells z.cells (cap - (rows.length + ys.length))) e)) := by
      rintro old cap wd rfl rfl
      have hge := grownCap_ge w (rows.length + ys.length) old e
      have hcm := grownCap_le_maxLen w (rows.length + ys.length) old e (by simp only [maxLen]; omega)
      have hId : Inv w0 gh0 Wr { s with fr := wkO s.fr src } gh1 (tm a) w.drew := hI.world (Ext.drew w) gh1.S (fun _ _ => rfl) (fun b hb => hI.marks b hb)
      have hR' : RowsR w.drew gh1 sz (rows ++ ys.map (·.map wk1)) (usx ++ usy) := by
        refine hR12.keep (gh' := gh1) ?_
        rw [hS1]
        exact fun b o ho => ⟨rfl, ho⟩
      have hus : (usx ++ usy).size = (rows.length + ys.length) * sz := by rw [hR12.1, hlen2]
      have := hId.newRows d (e := e) (cap := grownCap w (rows.length + ys.length) old e) (cur := usx ++ usy ++ Builtin.zeroCells z.cells (grownCap w (rows.length + ys.length) old e - (rows.length + ys.length))) hR'
        (fun k u hu => by rw [Array.getElem?_append_left (Array.getElem?_eq_some_iff.1 hu).1]; exact hu)
        (by rw [Array.size_append, hus, size_zeroCells, hzs, ← Nat.add_mul]; congr 1; omega) (by rw [hlen2]; exact hge) hcm hall2 (fun e => by rw [e] at hlen2; simp at hlen2; omega)
      rw [hlen2] at this
      exact this
    rcases hox with ⟨rfl, A, hA⟩ | ⟨g, cap, cur, e', sz', h0, h1, h2, h3, h4, h5, h6, h7, h8⟩
    · have husx : usx = #[] := by
        have := hRx.1
        simp only [List.length_nil, Nat.zero_mul] at this
        exact Array.eq_empty_of_size_eq_zero this
      subst husx
      have hb := newB 0 (grownCap w (0 + ys.length) 0 e) w.drew rfl rfl
      simp only [List.length_nil, Nat.zero_add, Array.empty_append] at hb
      cases A with
      | none =>
        have hr := run_append_nil (P := P) w T o.type e ti z hT hi hz ⟨by_, oy_, none⟩ ys.length cy usy.toList hnl hnews hm1 (by omega) (by
          have : ys.length * ti.bytes ≤ 4294967296 * 32768 := Nat.mul_le_mul (by simp at hbnd; omega) hby
          omega)
        rw [← hA, ← ey] at hr
        exact fin _ _ hr (by simpa using hb)
      | some b0 =>
        have hr := run_append_grow (P := P) w T o.type e ti z hT hi hz b0 0 0 [] (by simp) (fun j v hj => by simp at hj) ⟨by_, oy_, none⟩ ys.length cy usy.toList hnl hnews (by omega) (by simp at hbnd; omega) (growslice_fits (by omega) (by
          have : (0 + ys.length) * ti.bytes ≤ 4294967296 * 32768 := Nat.mul_le_mul (by simp at hbnd; omega) hby
          omega))
        rw [← hA, ← ey] at hr
        exact fin _ _ hr (by simpa using hb)
    · have hgw : g < w.heap.size := (Array.getElem?_eq_some_iff.1 h2).1
      have hz' : sz' = sz := by
        obtain ⟨row, hrow⟩ := List.exists_mem_of_ne_nil rows h8
        exact (h7 row hrow).symm.trans (hrl' row hrow)
      subst hz'
      rcases hblk g h0 with ⟨_, _, hx⟩ | ⟨hn, hW, hlt⟩
      · omega
      by_cases hroom2 : rows.length + ys.length ≤ cap
      · have hfit : rows.length * ti.size + usy.toList.length ≤ cur.size := by
          rw [hnl, h5, ← Nat.add_mul, hsz]; exact Nat.mul_le_mul_right _ hroom2
        have hr := run_append_room' (P := P) (w := w) T o.type e e' ti hT hi g rows.length cap cur h2 ⟨by_, oy_, none⟩ ys.length cy usy.toList hnl hnews one1 hroom2 hfit
        rw [← h1, ← ey] at hr
        refine fin _ _ hr ?_
        rw [hsz] at hfit ⊢
        have hget : ∀ k : Nat, (cur.toList.take (rows.length * sz') ++ usy.toList ++ cur.toList.drop (rows.length * sz' + usy.toList.length)).toArray[k]? =
            if k < rows.length * sz' then cur[k]? else if k < rows.length * sz' + usy.toList.length then usy.toList[k - rows.length * sz']? else cur[k]? := by
          intro k
          have := get_splice cur.toList usy.toList (rows.length * sz') k (by simpa using hfit)
          simpa using this
        have hnl' : usy.toList.length = ys.length * sz' := by rw [hnl, hsz]
        have hSg : gh1.S g = rows.length * sz' := by rw [hS1]; exact h6
        obtain ⟨hG, hk⟩ := hI.grow (w' := w.setRow g (cur.toList.take (rows.length * sz') ++ usy.toList ++ cur.toList.drop (rows.length * sz' + usy.toList.length)).toArray) (g := g) (n := (rows.length + ys.length) * sz') hn hW rfl rfl rfl (setRow_size _ _ _) hlt
          (fun b hb => setRow_other w g b _ hb) (fun k hk' => by
            rw [hSg] at hk'
            rw [cell_of_row _ g k _ e' (0, 0) (setRow_heap w g cur _ e' (0, 0) h2), cell_of_row w g k cur e' (0, 0) h2, hget, if_pos hk']) (by rw [hSg]; exact Nat.mul_le_mul_right _ (by omega))
        have hR' := hR12.keep (gh' := { gh1 with S := upd gh1.S g ((rows.length + ys.length) * sz') }) (w' := w.setRow g (cur.toList.take (rows.length * sz') ++ usy.toList ++ cur.toList.drop (rows.length * sz' + usy.toList.length)).toArray) (by rw [← hS1]; exact hk)
        refine ⟨_, hG.putOwn d (b := g) (rows := rows ++ ys.map (·.map wk1)) (v := .slice (some ⟨g, 0, none⟩) (rows.length + ys.length) cap) ?_ ?_ hn hW (by rw [setRow_size]; exact hlt)⟩
        · have := Rep.of_rows (cap := cap) (g := g) hR' (fun k u hu => ?_) (by rw [hlen2]; exact hroom2) h4
          · rwa [hlen2] at this
          · have hsx : usx.size = rows.length * sz' := hRx.1
            have hks : k < (rows.length + ys.length) * sz' := by
              have := (Array.getElem?_eq_some_iff.1 hu).1
              rwa [hR12.1, hlen2] at this
            refine ⟨?_, by show k < upd gh1.S g _ g; rw [upd_same]; exact hks⟩
            rw [cell_of_row _ g k _ e' (0, 0) (setRow_heap w g cur _ e' (0, 0) h2), hget]
            by_cases hkr : k < rows.length * sz'
            · rw [if_pos hkr]
              rw [Array.getElem?_append_left (by omega)] at hu
              have hne : rows ≠ [] := by rintro rfl; simp at hkr
              obtain ⟨bx, ox_, e1, e2⟩ := hcx hne
              have hgx' : Ax = some ⟨g, 0, none⟩ := by rw [ex] at h1; simp only [Value.slice.injEq] at h1; exact h1.1
              rw [hgx'] at e1
              simp only [Option.some.injEq, Addr.mk.injEq, and_true] at e1
              obtain ⟨rfl, rfl⟩ := e1
              have := (e2 k u hu).1
              rw [Nat.zero_add, cell_of_row w _ k cur e' (0, 0) h2] at this
              exact this
            · rw [if_neg hkr, if_pos (by rw [hnl', ← Nat.add_mul]; exact hks)]
              rw [Array.getElem?_append_right (by omega), hsx] at hu
              simpa using hu
        · refine .inr ⟨g, cap, _, e', sz', rfl, by rw [hlen2], setRow_heap w g cur _ e' (0, 0) h2, by rw [hlen2]; exact hroom2, h4, ?_, by show upd gh1.S g _ g = _; rw [upd_same, hlen2], hall2, fun e => by rw [e] at hlen2; simp at hlen2; omega⟩
          simp only [List.size_toArray]
          rw [length_splice _ _ _ (by simpa using hfit)]
          simpa using h5
      · have holds : ∀ (j : Nat) u, usx.toList[j]? = some u → w.cell? ((⟨g, 0, none⟩ : Addr).add j) = some u := by
          intro j u hj
          rw [Addr.add_lit]
          have hj' : usx[j]? = some u := by simpa using hj
          have hjs := (Array.getElem?_eq_some_iff.1 hj').1
          have hne : rows ≠ [] := h8
          obtain ⟨bx, ox_, e1, e2⟩ := hcx hne
          have hgx' : Ax = some ⟨g, 0, none⟩ := by rw [ex] at h1; simp only [Value.slice.injEq] at h1; exact h1.1
          rw [hgx'] at e1
          simp only [Option.some.injEq, Addr.mk.injEq, and_true] at e1
          obtain ⟨rfl, rfl⟩ := e1
          exact (e2 j u hj').1
        have hr := run_append_grow (P := P) w T o.type e ti z hT hi hz ⟨g, 0, none⟩ rows.length cap usx.toList (by rw [hsz]; simpa using hRx.1) holds ⟨by_, oy_, none⟩ ys.length cy usy.toList hnl hnews (by omega) (by omega) (growslice_fits (by omega) (by
          have : (rows.length + ys.length) * ti.bytes ≤ 4294967296 * 32768 := Nat.mul_le_mul hbnd hby
          omega))
        rw [← h1, ← ey] at hr
        refine fin _ _ hr ?_
        have := newB cap _ w.drew rfl rfl
        simpa using this

end Go.AM
