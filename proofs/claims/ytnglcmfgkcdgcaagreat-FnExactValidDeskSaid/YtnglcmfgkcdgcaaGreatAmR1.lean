/- What can be read as data is a typed value: every type of numbers, truth values, strings, structs and slices of them. -/
import Derived.Test.YtnglcmfgkcdgcaaGreatAmT7
import Derived.Test.YtnglcmfgkcdgcaaGreatAmM0
import Derived.ProofKit
namespace Go.AM
open Go Go.ChangeShapes Go.WideShapes Go.ChangeAt Go.RowKit
set_option linter.unusedVariables false
set_option linter.unusedSimpArgs false

variable {H : Type} {enc : TypeId × Value → H} {P : Program} {w : World} {sp : Nat → Bool} {held : Bool}

/-- A struct's fields are these types, one behind the other. -/
def flM (P : Program) (tyM : Ty → TypeId → Bool) : Ty → List Field → Nat → Bool
  | .unit, [], _ => true
  | t, [f], off => f.offset == off && P.cellsOf f.type == t.w && tyM t f.type
  | .pair a b, f :: g :: r, off => f.offset == off && P.cellsOf f.type == a.w && tyM a f.type && flM P tyM b (g :: r) (off + a.w)
  | _, _, _ => false

/-- A type of the program is such a type. -/
def tyM (P : Program) : Nat → Ty → TypeId → Bool
  | 0, _, _ => false
  | n + 1, ty, t => match P.underlying t with
    | some .bool => (match ty with | .bool => true | _ => false)
    | some (.int k) => (match ty with | .int k' => decide (k' = k) | _ => false)
    | some .string => (match ty with | .str => true | _ => false)
    | some (.slice e) => (match ty with | .lst a => P.cellsOf e == a.w && a.w != 0 && tyM P n a e | _ => false)
    | some (.struct fs) => P.cellsOf t == ty.w && flM P (tyM P n) ty fs.toList 0
    | _ => false

/-- How many cells a block has. -/
def cellsIn (w : World) (b : Nat) : Nat := match w.heap[b]? with | some (.cells c _ _) => c.size | _ => 0

def RowR (w : World) (ty : Ty) (x : ty.den) (cs : List Value) : Prop :=
  cs.length = ty.w ∧ (∀ (j : Nat) dv v, (ty.row x)[j]? = some dv → cs[j]? = some v → Rep w (cellsIn w) dv v ∧ v.oneCell' = true) ∧ okv ty x

theorem cells?_get {base : Nat} {a : Addr} {n : Nat} {cs : List Value} (h : w.cells? base a n = some cs) : cs.length = n ∧ ∀ j, j < n → ∃ v, w.cell? (a.add j) = some v ∧ cs[j]? = some v := by
  simp only [World.cells?, Option.ite_none_right_eq_some] at h
  obtain ⟨_, h⟩ := h
  have key : ∀ (l : List Nat) (cs : List Value), l.mapM (fun i => w.cell? (a.add i)) = some cs → cs.length = l.length ∧ ∀ (j i : Nat), l[j]? = some i → ∃ v, w.cell? (a.add i) = some v ∧ cs[j]? = some v := by
    intro l
    induction l with
    | nil => intro cs h; simp at h; subst h; exact ⟨rfl, fun j i h => by simp at h⟩
    | cons x r ih =>
      intro cs h
      rw [List.mapM_cons] at h
      simp only [Option.bind_eq_bind, Option.bind_eq_some_iff, Option.pure_def, Option.some.injEq] at h
      obtain ⟨v, h1, q, h2, rfl⟩ := h
      obtain ⟨h3, h4⟩ := ih q h2
      refine ⟨by simp [h3], fun j i hj => ?_⟩
      cases j with
      | zero => simp only [List.getElem?_cons_zero, Option.some.injEq] at hj; subst hj; exact ⟨v, h1, rfl⟩
      | succ j => exact h4 j i (by simpa using hj)
  obtain ⟨h1, h2⟩ := key _ _ h
  exact ⟨by simpa using h1, fun j hj => h2 j j (by simp [hj])⟩

theorem cell?_spot {a : Addr} {v : Value} (h : w.cell? a = some v) : a.spot = none ∧ a.off < cellsIn w a.block := by
  unfold World.cell? at h
  split at h
  · rename_i c _ _ hc
    split at h
    · simp at h
    · rename_i hs
      have : a.off < c.size := (Array.getElem?_eq_some_iff.1 h).1
      exact ⟨by simpa using hs, by unfold cellsIn; rw [hc]; exact this⟩
  · simp at h

theorem add_add_lit (b o i j : Nat) : ((⟨b, o, none⟩ : Addr).add i).add j = ⟨b, o + i + j, none⟩ := by
  unfold Addr.add
  split <;> split <;> simp_all

theorem fields_ok {T : Ty → TypeId → Bool} {fuel : Nat} (ih : ∀ (ty : Ty) (t : TypeId) (cs : List Value) (y : DataW H × List MemPlace), T ty t = true → DataW.trod enc P w 0 sp held fuel t cs = some y → ∃ x, RowR w ty x cs) :
    ∀ (fs : List Field) (ty : Ty) (off : Nat) (cs : List Value), flM P T ty fs off = true → cs.length = off + ty.w → (∀ f ∈ fs, ∃ y, DataW.trod enc P w 0 sp held fuel f.type ((cs.drop f.offset).take (P.cellsOf f.type)) = some y) → ∃ x, RowR w ty x (cs.drop off) := by
  intro fs
  induction fs with
  | nil =>
    intro ty off cs h hl _
    cases ty <;> simp only [flM, Bool.false_eq_true] at h
    exact ⟨(), by simp [hl, Ty.w], fun j dv v hj => by simp [Ty.row] at hj, trivial⟩
  | cons f r ihf =>
    intro ty off cs h hl hall
    have one : ∀ (ty : Ty) (m : Nat), f.offset = off → P.cellsOf f.type = ty.w → T ty f.type = true → ∃ x, RowR w ty x ((cs.drop off).take ty.w) := by
      intro ty m h1 h2 h3
      obtain ⟨y, hy⟩ := hall f (by simp)
      rw [h1, h2] at hy
      exact ih _ _ _ _ h3 hy
    cases r with
    | nil =>
      have h' : f.offset = off ∧ P.cellsOf f.type = ty.w ∧ T ty f.type = true := by
        cases ty <;> simpa [flM, and_assoc] using h
      obtain ⟨h1, h2, h3⟩ := h'
      obtain ⟨x, hx⟩ := one ty 0 h1 h2 h3
      rw [List.take_of_length_le (by simp; omega)] at hx
      exact ⟨x, hx⟩
    | cons g r =>
      cases ty <;> simp only [flM, Bool.false_eq_true, Bool.and_eq_true, beq_iff_eq] at h
      rename_i a b
      obtain ⟨⟨⟨h1, h2⟩, h3⟩, h4⟩ := h
      obtain ⟨x, hx1, hx2, hx3⟩ := one a 0 h1 h2 h3
      obtain ⟨y, hy1, hy2, hy3⟩ := ihf b (off + a.w) cs h4 (by simp only [Ty.w] at hl; omega) (fun f' hf' => hall f' (by simp [hf']))
      refine ⟨(x, y), by simp only [Ty.w] at hl ⊢; simp; omega, fun j dv v hj hv => ?_, hx3, hy3⟩
      simp only [Ty.row] at hj
      rw [List.getElem?_append] at hj
      split at hj
      · rename_i hlt
        rw [row_len] at hlt
        exact hx2 j dv v hj (by rw [List.getElem?_take, if_pos hlt]; exact hv)
      · rename_i hlt
        rw [row_len] at hlt hj
        refine hy2 (j - a.w) dv v hj ?_
        rw [List.getElem?_drop] at hv ⊢
        rw [← hv]
        congr 1
        omega

theorem read_ok : ∀ (n : Nat) (ty : Ty) (t : TypeId) (fuel : Nat) (cs : List Value) (y : DataW H × List MemPlace), tyM P n ty t = true → DataW.trod enc P w 0 sp held fuel t cs = some y → ∃ x, RowR w ty x cs
  | 0, _, _, _, _, _, h, _ => by simp [tyM] at h
  | n + 1, ty, t, fuel, cs, y, h, hr => by
    have one : ∀ {ty : Ty} {x : ty.den} {dv : DV} {v : Value}, ty.w = 1 → ty.row x = [dv] → Rep w (cellsIn w) dv v → v.oneCell' = true → okv ty x → ∃ x, RowR w ty x [v] := by
      intro ty x dv v h1 h2 h3 h4 h5
      refine ⟨x, by simp [h1], fun j dv' v' hj hv => ?_, h5⟩
      rw [h2] at hj
      cases j with
      | zero => simp only [List.getElem?_cons_zero, Option.some.injEq] at hj hv; subst hj hv; exact ⟨h3, h4⟩
      | succ j => simp at hj
    unfold tyM at h
    cases fuel with
    | zero => simp [DataW.trod] at hr
    | succ fuel =>
    split at h
    · rename_i hu
      obtain ⟨b, rfl⟩ : ∃ b, cs = [.bool b] := by
        unfold DataW.trod at hr
        rw [hu] at hr
        split at hr <;> simp_all
      cases ty <;> simp only [Bool.false_eq_true] at h
      exact one (ty := .bool) (x := b) rfl rfl (Rep.val _) rfl trivial
    · rename_i k hu
      unfold DataW.trod at hr
      rw [hu] at hr
      split at hr <;> simp_all
      obtain ⟨⟨rfl, hw⟩, _⟩ := hr
      cases ty <;> simp_all
      subst_vars
      exact one (ty := .int _) rfl rfl (Rep.val _) rfl hw
    · rename_i hu
      unfold DataW.trod at hr
      rw [hu] at hr
      split at hr <;> simp_all
      cases ty <;> simp_all
      exact one (ty := .str) rfl rfl (Rep.val _) rfl hr.1
    · rename_i e hu
      cases ty <;> simp only [Bool.false_eq_true] at h
      rename_i a
      simp only [Bool.and_eq_true, beq_iff_eq, bne_iff_ne, ne_eq] at h
      obtain ⟨⟨hc, h0⟩, hM⟩ := h
      rcases DataW.trod_slice hu hr with ⟨rfl, _⟩ | ⟨ad, len, cap, elems, rest, m, hm, rfl, rfl, _, hl, hcap, hlen, hel, _, _⟩
      · exact one (ty := .lst a) (x := []) rfl rfl (Rep.lst (b := 0) (o := 0) (sz := 0) (u := fun _ _ => undef) rfl (Nat.le_refl _) (Nat.zero_le _) (fun h => absurd rfl h) (fun i row hi => by simp at hi) (fun i row j d hi => by simp at hi)) rfl ⟨Nat.zero_le _, fun x hx => by simp at hx⟩
      · have each : ∀ i : Fin len, ∃ x : a.den, ∃ ce : List Value, w.cells? 0 (ad.add (i.1 * P.cellsOf e)) (P.cellsOf e) = some ce ∧ RowR w a x ce := by
          intro i
          have := hel i.1 i.2
          rw [List.getElem?_eq_getElem (by rw [hlen]; exact i.2)] at this
          simp only [Option.bind_eq_some_iff] at this
          obtain ⟨ce, h1, h2⟩ := this
          obtain ⟨x, hx⟩ := read_ok n a e m ce _ hM h2
          exact ⟨x, ce, h1, hx⟩
        obtain ⟨f, hf⟩ := Classical.axiomOfChoice each
        obtain ⟨g, hg⟩ := Classical.axiomOfChoice hf
        have hsp : len ≠ 0 → ad = ⟨ad.block, ad.off, none⟩ := by
          intro hl0
          obtain ⟨h1, _⟩ := hg ⟨0, by omega⟩
          obtain ⟨v, h2, _⟩ := (cells?_get h1).2 0 (by rw [hc]; omega)
          have : ad.add (0 * P.cellsOf e) = ad := by simp [Addr.add]
          rw [this, show ad.add 0 = ad by simp [Addr.add]] at h2
          have := (cell?_spot h2).1
          cases ad
          simp_all
        have hget : ∀ (i : Nat) row, ((List.ofFn f).map a.row)[i]? = some row → ∃ hi : i < len, row = a.row (f ⟨i, hi⟩) := by
          intro i row hi
          simp only [List.getElem?_map, Option.map_eq_some_iff] at hi
          obtain ⟨x, hx, rfl⟩ := hi
          rw [List.getElem?_ofFn] at hx
          split at hx
          · rename_i hi
            simp only [Option.some.injEq] at hx
            exact ⟨hi, by rw [← hx]⟩
          · simp at hx
        refine one (ty := .lst a) (x := List.ofFn f) (dv := .lst false ((List.ofFn f).map a.row)) rfl rfl ?_ rfl ⟨by simp; omega, fun x hx => ?_⟩
        · refine Rep.lst (b := ad.block) (o := ad.off) (sz := a.w) (u := fun i j => if hi : i < len then ((g ⟨i, hi⟩)[j]?).getD undef else undef) (by simp) hl hcap (fun h0 => by rw [← hsp h0]) (fun i row hi0 => ?_) (fun i row j d hi0 hj => ?_)
          · obtain ⟨hi, rfl⟩ := hget i row hi0
            obtain ⟨k1, k2, k3, k4⟩ := hg ⟨i, hi⟩
            refine ⟨row_len _ _, fun j hj => ?_⟩
            obtain ⟨v, hv1, hv2⟩ := (cells?_get k1).2 j (by rw [hc]; exact hj)
            rw [hsp (by omega), hc, add_add_lit] at hv1
            have hu : ((g ⟨i, hi⟩)[j]?).getD undef = v := by rw [hv2]; rfl
            rw [dif_pos hi, hu]
            refine ⟨hv1, (cell?_spot hv1).2, ?_⟩
            obtain ⟨dv, hdv⟩ : ∃ dv, (a.row (f ⟨i, hi⟩))[j]? = some dv := ⟨_, List.getElem?_eq_getElem (by rw [row_len]; exact hj)⟩
            exact (k3 j dv v hdv hv2).2
          · obtain ⟨hi, rfl⟩ := hget i row hi0
            obtain ⟨k1, k2, k3, k4⟩ := hg ⟨i, hi⟩
            have hj' : j < a.w := by rw [← row_len a (f ⟨i, hi⟩)]; exact (List.getElem?_eq_some_iff.1 hj).1
            obtain ⟨v, hv1, hv2⟩ := (cells?_get k1).2 j (by rw [hc]; exact hj')
            have hu : ((g ⟨i, hi⟩)[j]?).getD undef = v := by rw [hv2]; rfl
            rw [dif_pos hi, hu]
            exact (k3 j d v hj hv2).1
        · simp only [List.mem_ofFn] at hx
          obtain ⟨i, rfl⟩ := hx
          exact (hg i).2.2.2
    · rename_i fs hu
      simp only [Bool.and_eq_true, beq_iff_eq] at h
      obtain ⟨h1, h2⟩ := h
      obtain ⟨xs, m, hm, _, hl, hxl, hall⟩ := DataW.trod_struct hu hr
      obtain ⟨x, hx⟩ := fields_ok (T := tyM P n) (fuel := m) (fun ty t cs y h hr => read_ok n ty t m cs y h hr) fs.toList ty 0 cs h2 (by omega) (fun f hf => by
        obtain ⟨i, hi, rfl⟩ := List.mem_iff_getElem.1 hf
        have := hall i fs[i] (by simp)
        rw [List.getElem?_eq_getElem (by rw [hxl]; simpa using hi)] at this
        exact ⟨_, by simpa using this⟩)
      exact ⟨x, by simpa using hx⟩
    · simp at h

end Go.AM
