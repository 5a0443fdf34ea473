/- What an abstract value says of a value in a world; what an abstract state says of an activation. -/
import Derived.Test.YtnglcmfgkcdgcaaGreatAmA1
import Derived.Laws.AppendOwn
import Derived.Below
namespace Go.AM
open Go

/-- Where a list that may be appended to is held. -/
inductive Own where
  | sl (i : Nat)
  | ge (g i c : Nat)
  | le (s i c : Nat)
  deriving DecidableEq

/-- What is known beside the abstract state: how many cells of a block can't change; the objects' blocks and their rows' widths; the blocks of lists that may be appended to. -/
structure Gh where
  S : Nat → Nat
  mu : Nat → Nat
  sz : Nat → Nat
  lmu : Nat → Nat
  lsz : Nat → Nat
  hb : Own → Option Nat
  nx : Nat

/-- Plain data: an abstract value and a value that is read in cells that can't change. -/
inductive Rep (w : World) (S : Nat → Nat) : DV → Value → Prop where
  | any (v : Value) : Rep w S .any v
  | val (x : Value) : Rep w S (.val x) x
  | lst {rows : Rows} {A : Option Addr} {n c b o sz : Nat} {u : Nat → Nat → Value} (hn : rows.length = n) (hc : n ≤ c) (hm : c ≤ maxLen)
      (hA : n ≠ 0 → A = some ⟨b, o, none⟩)
      (hcell : ∀ (i : Nat) row, rows[i]? = some row → row.length = sz ∧ ∀ j, j < sz → w.cell? ⟨b, o + i * sz + j, none⟩ = some (u i j) ∧ o + i * sz + j < S b ∧ (u i j).oneCell' = true)
      (hrep : ∀ (i : Nat) row (j : Nat) d, rows[i]? = some row → row[j]? = some d → Rep w S d (u i j)) : Rep w S (.lst false rows) (.slice A n c)
  | nil (A : Option Addr) : Rep w S (.lst true []) (.slice A 0 0)
  | pim {cs : List DV} {b o : Nat} {u : Nat → Value} (hcell : ∀ j, j < cs.length → w.cell? ⟨b, o + j, none⟩ = some (u j) ∧ o + j < S b ∧ (u j).oneCell' = true)
      (hrep : ∀ (j : Nat) d, cs[j]? = some d → Rep w S d (u j)) : Rep w S (.pim cs) (.pointer (some ⟨b, o, none⟩))
  | agg {cs : List DV} {vs : Array Value} (hl : vs.size = cs.length) (hrep : ∀ (j : Nat) d v, cs[j]? = some d → vs[j]? = some v → Rep w S d v) : Rep w S (.agg cs) (.agg vs)
  | tup {cs : List DV} {vs : Array Value} (hl : vs.size = cs.length) (hrep : ∀ (j : Nat) d v, cs[j]? = some d → vs[j]? = some v → Rep w S d v) : Rep w S (.tup cs) (.tuple vs)
  | clo {f : FuncId} {caps : List DV} {vs : Array Value} (hl : vs.size = caps.length) (hrep : ∀ (j : Nat) d v, caps[j]? = some d → vs[j]? = some v → Rep w S d v) :
      Rep w S (.clo f caps) (.func (.func f) #[] vs)

/-- Cells that can't change are as they were. -/
def Keeps (w : World) (S : Nat → Nat) (w' : World) (S' : Nat → Nat) : Prop :=
  ∀ b o, o < S b → w'.cell? ⟨b, o, none⟩ = w.cell? ⟨b, o, none⟩ ∧ o < S' b

theorem Keeps.refl (w : World) (S : Nat → Nat) : Keeps w S w S := fun _ _ h => ⟨rfl, h⟩
theorem Keeps.trans {w w' w'' : World} {S S' S'' : Nat → Nat} (h : Keeps w S w' S') (k : Keeps w' S' w'' S'') : Keeps w S w'' S'' :=
  fun b o ho => let ⟨a, c⟩ := h b o ho; let ⟨x, y⟩ := k b o c; ⟨x.trans a, y⟩

theorem Rep.keep {w w' : World} {S S' : Nat → Nat} {d : DV} {v : Value} (hk : Keeps w S w' S') (h : Rep w S d v) : Rep w' S' d v := by
  induction h with
  | any v => exact .any v
  | val x => exact .val x
  | lst hn hc hm hA hcell _ ih =>
    refine .lst hn hc hm hA (fun i row hr => ⟨(hcell i row hr).1, fun j hj => ?_⟩) ih
    obtain ⟨h1, h2, h3⟩ := (hcell i row hr).2 j hj
    exact ⟨(hk _ _ h2).1.trans h1, (hk _ _ h2).2, h3⟩
  | nil A => exact .nil A
  | pim hcell _ ih =>
    refine .pim (fun j hj => ?_) ih
    obtain ⟨h1, h2, h3⟩ := hcell j hj
    exact ⟨(hk _ _ h2).1.trans h1, (hk _ _ h2).2, h3⟩
  | agg hl _ ih => exact .agg hl ih
  | tup hl _ ih => exact .tup hl ih
  | clo hl _ ih => exact .clo hl ih

/-- The right to append: the empty slice without room, or the head of a block of one's own, whose cells behind the list nobody reads. -/
def OwnR (w : World) (S : Nat → Nat) (hb : Option Nat) (rows : Rows) (v : Value) : Prop :=
  (rows = [] ∧ ∃ A, v = .slice A 0 0) ∨
  ∃ g cap cur e sz, hb = some g ∧ v = .slice (some ⟨g, 0, none⟩) rows.length cap ∧ w.heap[g]? = some (.cells cur e (0, 0)) ∧ rows.length ≤ cap ∧ cap ≤ maxLen ∧
    cur.size = cap * sz ∧ S g = rows.length * sz ∧ (∀ row ∈ rows, row.length = sz) ∧ rows ≠ []

/-- One cell's value, or a part's. 'ℓ': where it is held. -/
def CRep (w : World) (gh : Gh) (ℓ : Option Own) (d : DV) (v : Value) : Prop :=
  match d with
  | .lst true rows => Rep w gh.S (.lst false rows) v ∧ OwnR w gh.S (ℓ.bind gh.hb) rows v
  | .ref g i c => g < gh.nx ∧ v = .pointer (some ⟨gh.mu g, i * gh.sz g + c, none⟩)
  | .arr g off len => g < gh.nx ∧ ∃ A cap, v = .slice A len cap ∧ len ≤ cap ∧ cap ≤ maxLen ∧ (len ≠ 0 → A = some ⟨gh.mu g, off * gh.sz g, none⟩)
  | .lref s i c => v = .pointer (some ⟨gh.lmu s, i * gh.lsz s + c, none⟩)
  | .larr s off len => ∃ A cap, v = .slice A len cap ∧ len ≤ cap ∧ cap ≤ maxLen ∧ (len ≠ 0 → A = some ⟨gh.lmu s, off * gh.lsz s, none⟩)
  | d => Rep w gh.S d v

/-- Not a pointer into an object of the activation's own. -/
def noL : DV → Bool
  | .lref .. | .larr .. => false
  | _ => true

/-- A slot's value. -/
def SRep (w : World) (gh : Gh) (ℓ : Option Own) (d : DV) (v : Value) : Prop :=
  match d with
  | .agg cs => ∃ vs : Array Value, v = .agg vs ∧ vs.size = cs.length ∧ ∀ (j : Nat) c u, cs[j]? = some c → vs[j]? = some u → noL c = true ∧ CRep w gh none c u
  | .tup cs => ∃ vs : Array Value, v = .tuple vs ∧ vs.size = cs.length ∧ ∀ (j : Nat) c u, cs[j]? = some c → vs[j]? = some u → noL c = true ∧ CRep w gh none c u
  | .clo f caps => ∃ vs : Array Value, v = .func (.func f) #[] vs ∧ vs.size = caps.length ∧ ∀ (j : Nat) c u, caps[j]? = some c → vs[j]? = some u → CRep w gh none c u
  | d => CRep w gh ℓ d v

/-- An object in memory. -/
def ObjRep (w : World) (gh : Gh) (b sz : Nat) (rows : Rows) (mk : Nat → Nat → Own) : Prop :=
  ∃ cur e, w.heap[b]? = some (.cells cur e (0, 0)) ∧ rows.length * sz ≤ cur.size ∧
    ∀ (i : Nat) row, rows[i]? = some row → row.length = sz ∧ ∀ (c : Nat) d, row[c]? = some d → cellC d = true ∧ ∃ u, cur[i * sz + c]? = some u ∧ u.oneCell' = true ∧ CRep w gh (some (mk i c)) d u

/-- Is there a list that may be appended to? -/
def Act' (s : St) : Own → Prop
  | .sl i => ∃ rows, s.fr i = .lst true rows
  | .ge g i c => ∃ rs row rows, s.gl.ob g = some rs ∧ rs[i]? = some row ∧ row[c]? = some (.lst true rows)
  | .le l i c => ∃ rs row rows, s.lo l = some rs ∧ rs[i]? = some row ∧ row[c]? = some (.lst true rows)

inductive Key where
  | own (ℓ : Own)
  | go (g : Nat)
  | lo (s : Nat)

def Uses (s : St) (gh : Gh) : Key → Nat → Prop
  | .own ℓ, b => Act' s ℓ ∧ gh.hb ℓ = some b
  | .go g, b => (s.gl.ob g).isSome = true ∧ gh.mu g = b
  | .lo l, b => (s.lo l).isSome = true ∧ gh.lmu l = b

/-- The memory's side of a state: 'Wr': what this activation may write; 'w0': the world as it was at its begin. -/
structure Inv (w0 : World) (gh0 : Gh) (Wr : Nat → Prop) (s : St) (gh : Gh) (tmps : Nat → Value) (w : World) : Prop where
  os : w.os = w0.os
  tape : w.tape = w0.tape
  output : w.output = w0.output
  size : w0.heap.size ≤ w.heap.size
  frame : ∀ b, b < w0.heap.size → ¬ Wr b → w.heap[b]? = w0.heap[b]?
  wrNew : ∀ b, w0.heap.size ≤ b → Wr b
  s0 : ∀ b, b < w0.heap.size → ¬ Wr b → gh.S b = gh0.S b
  keep0 : Keeps w0 gh0.S w gh.S
  m0 : gh0.nx ≤ gh.nx ∧ ∀ g, g < gh0.nx → gh.mu g = gh0.mu g ∧ gh.sz g = gh0.sz g
  marks : ∀ b, w.heap.size ≤ b → gh.S b = 0
  slots : ∀ i, SRep w gh (some (.sl i)) (s.fr i) (tmps i)
  gobs : ∀ g rows, s.gl.ob g = some rows → ObjRep w gh (gh.mu g) (gh.sz g) rows (.ge g)
  lobs : ∀ l rows, s.lo l = some rows → ObjRep w gh (gh.lmu l) (gh.lsz l) rows (.le l)
  zero : ∀ k b, Uses s gh k b → (∀ ℓ, k ≠ .own ℓ) → gh.S b = 0
  uses : ∀ k b, Uses s gh k b → Wr b ∧ b < w.heap.size
  one : ∀ k k' b, Uses s gh k b → Uses s gh k' b → k = k'
  nx : s.gl.nx = gh.nx ∧ ∀ g, (s.gl.ob g).isSome = true → g < s.gl.nx

theorem OwnR.keep {w w' : World} {S S' : Nat → Nat} {hb : Option Nat} {rows : Rows} {v : Value} (hk : ∀ b, hb = some b → b < w.heap.size → w'.heap[b]? = w.heap[b]? ∧ S' b = S b)
    (h : OwnR w S hb rows v) : OwnR w' S' hb rows v := by
  rcases h with h | ⟨g, cap, cur, e, sz, h0, h1, h2, h3, h4, h5, h6, h7⟩
  · exact .inl h
  · have hlt : g < w.heap.size := (Array.getElem?_eq_some_iff.1 h2).1
    obtain ⟨k1, k2⟩ := hk g h0 hlt
    exact .inr ⟨g, cap, cur, e, sz, h0, h1, k1.trans h2, h3, h4, h5, k2.trans h6, h7⟩

/-- Not a pointer into a shared object. -/
def noG : DV → Bool
  | .ref .. | .arr .. => false
  | _ => true

/-- A cell's relation is kept where what can't change is kept, and the blocks that it may name. -/
theorem CRep.keep {w w' : World} {gh gh' : Gh} {ℓ ℓ' : Option Own} {d : DV} {v : Value} (hk : Keeps w gh.S w' gh'.S)
    (hm : noG d = true ∨ ∀ g, g < gh.nx → g < gh'.nx ∧ gh'.mu g = gh.mu g ∧ gh'.sz g = gh.sz g) (hl : noL d = true ∨ ∀ s, gh'.lmu s = gh.lmu s ∧ gh'.lsz s = gh.lsz s)
    (ho : ∀ rows, d = .lst true rows → OwnR w gh.S (ℓ.bind gh.hb) rows v → OwnR w' gh'.S (ℓ'.bind gh'.hb) rows v)
    (h : CRep w gh ℓ d v) : CRep w' gh' ℓ' d v := by
  cases d with
  | lst o rows => cases o with
    | true => exact ⟨h.1.keep hk, ho rows rfl h.2⟩
    | false => exact Rep.keep hk h
  | ref g i c =>
    rcases hm with hm | hm
    · simp [noG] at hm
    obtain ⟨h0, rfl⟩ := h
    obtain ⟨h1, h2, h3⟩ := hm g h0
    exact ⟨h1, by rw [h2, h3]⟩
  | arr g off len =>
    rcases hm with hm | hm
    · simp [noG] at hm
    obtain ⟨h0, A, cap, e0, e1, e2, e3⟩ := h
    obtain ⟨h1, h2, h3⟩ := hm g h0
    exact ⟨h1, A, cap, e0, e1, e2, fun hn => by rw [h2, h3]; exact e3 hn⟩
  | lref g i c =>
    rcases hl with hl | hl
    · simp [noL] at hl
    · simpa [CRep, hl] using h
  | larr g off len =>
    rcases hl with hl | hl
    · simp [noL] at hl
    · simpa [CRep, hl] using h
  | any => exact Rep.keep (d := .any) hk h
  | val x => exact Rep.keep (d := .val x) hk h
  | agg cs => exact Rep.keep (d := .agg cs) hk h
  | tup cs => exact Rep.keep (d := .tup cs) hk h
  | pim cs => exact Rep.keep (d := .pim cs) hk h
  | clo f caps => exact Rep.keep (d := .clo f caps) hk h

/-- Does a value name objects of the activation's own? -/
def lnames : DV → Bool
  | .lref .. | .larr .. => true
  | .clo _ caps => caps.any fun | .lref .. | .larr .. => true | _ => false
  | _ => false

/-- Does a value name shared objects? -/
def gnames : DV → Bool
  | .ref .. | .arr .. => true
  | .clo _ caps => caps.any fun c => !noG c
  | .agg cs => cs.any fun c => !noG c
  | .tup cs => cs.any fun c => !noG c
  | _ => false

theorem SRep.keep {w w' : World} {gh gh' : Gh} {ℓ ℓ' : Option Own} {d : DV} {v : Value} (hk : Keeps w gh.S w' gh'.S)
    (hm : gnames d = false ∨ ∀ g, g < gh.nx → g < gh'.nx ∧ gh'.mu g = gh.mu g ∧ gh'.sz g = gh.sz g) (hl : lnames d = false ∨ ∀ s, gh'.lmu s = gh.lmu s ∧ gh'.lsz s = gh.lsz s)
    (ho : ∀ rows, d = .lst true rows → OwnR w gh.S (ℓ.bind gh.hb) rows v → OwnR w' gh'.S (ℓ'.bind gh'.hb) rows v)
    (h : SRep w gh ℓ d v) : SRep w' gh' ℓ' d v := by
  have emp : ∀ (c : DV) (u : Value), (noG c = true ∨ ∀ g, g < gh.nx → g < gh'.nx ∧ gh'.mu g = gh.mu g ∧ gh'.sz g = gh.sz g) → (noL c = true ∨ ∀ s, gh'.lmu s = gh.lmu s ∧ gh'.lsz s = gh.lsz s) → CRep w gh none c u → CRep w' gh' none c u := by
    intro c u hm hc hcu
    refine CRep.keep hk hm hc (fun rows _ hown => ?_) hcu
    rcases hown with h | ⟨g, _, _, _, _, h0, _⟩
    · exact .inl h
    · simp at h0
  have gmem : ∀ (cs : List DV) (j : Nat) (c : DV), (cs.any fun c => !noG c) = false → cs[j]? = some c → noG c = true := by
    intro cs j c hg hc
    have hmem := List.mem_of_getElem? hc
    rw [List.any_eq_false] at hg
    simpa using hg c hmem
  cases d with
  | agg cs =>
    obtain ⟨vs, rfl, h1, h2⟩ := h
    exact ⟨vs, rfl, h1, fun j c u hc hu => ⟨(h2 j c u hc hu).1, emp c u (hm.imp (fun hg => gmem cs j c hg hc) id) (.inl (h2 j c u hc hu).1) (h2 j c u hc hu).2⟩⟩
  | tup cs =>
    obtain ⟨vs, rfl, h1, h2⟩ := h
    exact ⟨vs, rfl, h1, fun j c u hc hu => ⟨(h2 j c u hc hu).1, emp c u (hm.imp (fun hg => gmem cs j c hg hc) id) (.inl (h2 j c u hc hu).1) (h2 j c u hc hu).2⟩⟩
  | clo f caps =>
    obtain ⟨vs, rfl, h1, h2⟩ := h
    refine ⟨vs, rfl, h1, fun j c u hc hu => emp c u (hm.imp (fun hg => gmem caps j c hg hc) id) ?_ (h2 j c u hc hu)⟩
    rcases hl with hl | hl
    · left
      have := List.mem_of_getElem? hc
      simp only [lnames, List.any_eq_false] at hl
      have := hl c this
      cases c <;> simp_all [noL]
    · exact .inr hl
  | lref g i c =>
    refine CRep.keep hk (.inl rfl) ?_ ho h
    rcases hl with hl | hl
    · simp [lnames] at hl
    · exact .inr hl
  | larr g i c =>
    refine CRep.keep hk (.inl rfl) ?_ ho h
    rcases hl with hl | hl
    · simp [lnames] at hl
    · exact .inr hl
  | lst o rows => exact CRep.keep (d := .lst o rows) hk (.inl rfl) (.inl rfl) ho h
  | any => exact CRep.keep (d := .any) hk (.inl rfl) (.inl rfl) ho h
  | val x => exact CRep.keep (d := .val x) hk (.inl rfl) (.inl rfl) ho h
  | pim cs => exact CRep.keep (d := .pim cs) hk (.inl rfl) (.inl rfl) ho h
  | ref g i c => exact CRep.keep (d := .ref g i c) hk (hm.imp (fun hg => by simp [gnames] at hg) id) (.inl rfl) ho h
  | arr g i c => exact CRep.keep (d := .arr g i c) hk (hm.imp (fun hg => by simp [gnames] at hg) id) (.inl rfl) ho h

theorem cellC_noL {d : DV} (h : cellC d = true) : noL d = true := by
  cases d <;> simp_all [cellC, pureC, noL]

theorem ObjRep.keep {w w' : World} {gh gh' : Gh} {b sz : Nat} {rows : Rows} {mk : Nat → Nat → Own} (hk : Keeps w gh.S w' gh'.S)
    (hm : ∀ g, g < gh.nx → g < gh'.nx ∧ gh'.mu g = gh.mu g ∧ gh'.sz g = gh.sz g) (hb : w'.heap[b]? = w.heap[b]?)
    (ho : ∀ i c r row v, rows[i]? = some row → row[c]? = some (.lst true r) → OwnR w gh.S (gh.hb (mk i c)) r v → OwnR w' gh'.S (gh'.hb (mk i c)) r v)
    (h : ObjRep w gh b sz rows mk) : ObjRep w' gh' b sz rows mk := by
  obtain ⟨cur, e, h1, h2, h3⟩ := h
  refine ⟨cur, e, hb.trans h1, h2, fun i row hr => ⟨(h3 i row hr).1, fun c d hd => ?_⟩⟩
  obtain ⟨k0, u, k1, k2, k3⟩ := (h3 i row hr).2 c d hd
  exact ⟨k0, u, k1, k2, k3.keep hk (.inr hm) (.inl (cellC_noL k0)) (fun r hdr => by subst hdr; exact ho i c r row u hr hd)⟩

end Go.AM
