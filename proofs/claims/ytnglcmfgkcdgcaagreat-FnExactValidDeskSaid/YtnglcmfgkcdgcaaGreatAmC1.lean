/- Abstract code out of the program's code, checked. -/
import Derived.Test.YtnglcmfgkcdgcaaGreatAmA18
namespace Go.AM
open Go
set_option linter.unusedVariables false
set_option linter.unusedSimpArgs false

variable {P : Program} {N : Nat} {o : Oper}

def mkOpd : Operand → Option Opd
  | .tmp n => some (.t n)
  | .const v => some (.k v)
  | .func f => some (.f f)
  | _ => none

theorem mkOpd_ok {x : Operand} {y : Opd} (h : mkOpd x = some y) : OpdM x y := by
  cases x <;> simp only [mkOpd, Option.some.injEq, reduceCtorEq] at h <;> subst h <;> rfl

theorem mkOpds_ok {xs : List Operand} {ys : List Opd} (h : mapO mkOpd xs = some ys) : OpdsM xs ys := by
  refine ⟨(mapO_len h).symm, fun j x y hx hy => ?_⟩
  obtain ⟨x', hx', hm⟩ := mapO_get h j y hy
  rw [hx] at hx'; cases hx'
  exact mkOpd_ok hm

def mkOpt : Option Operand → Option (Option Opd)
  | none => some none
  | some x => (mkOpd x).map some

theorem mkOpt_ok {x : Option Operand} {y : Option Opd} (h : mkOpt x = some y) : OptM x y := by
  cases x with
  | none => simp only [mkOpt, Option.some.injEq] at h; subst h; trivial
  | some x =>
    simp only [mkOpt, Option.map_eq_some_iff] at h
    obtain ⟨y', h, rfl⟩ := h
    exact mkOpd_ok h

def zeroOf (P : Program) (T : TypeId) : Option (List Value) :=
  (P.info? T).bind fun ti => ti.zero.bind fun z => if z.cells.toList.all (·.oneCell') then some z.cells.toList else none

theorem zeroOf_ok {T : TypeId} {zero : List Value} (h : zeroOf P T = some zero) : ZeroM P T zero := by
  simp only [zeroOf, Option.bind_eq_some_iff, Option.ite_none_right_eq_some, Option.some.injEq] at h
  obtain ⟨ti, h1, z, h2, h3, rfl⟩ := h
  exact ⟨ti, z, h1, h2, rfl, fun v hv => List.all_eq_true.1 h3 v hv⟩

/-- An element's type and what is known of it. -/
def elemOf (P : Program) (T : TypeId) : Option (TypeId × TypeInfo) :=
  match P.underlying T with
  | some (.slice e) => (P.info? e).bind fun ti => if decide (0 < ti.size) && decide (ti.bytes ≤ 32768) then some (e, ti) else none
  | _ => none

theorem elemOf_ok {T e : TypeId} {ti : TypeInfo} (h : elemOf P T = some (e, ti)) : ElemM P T ti.size e ti := by
  unfold elemOf at h
  split at h
  · rename_i e' hu
    simp only [Option.bind_eq_some_iff, Option.ite_none_right_eq_some, Option.some.injEq, Bool.and_eq_true, decide_eq_true_eq, Prod.mk.injEq] at h
    obtain ⟨ti', h1, ⟨h2, h3⟩, rfl, rfl⟩ := h
    exact ⟨hu, h1, rfl, h2, h3⟩
  · simp at h

/-- The places of a struct's or an array's parts. -/
def placesOf (P : Program) (T : TypeId) : Option (List (Nat × Nat)) :=
  match P.underlying T with
  | some (.struct fields) => fields.toList.mapM (fun f => (P.info? f.type).map fun i => (f.offset, i.size))
  | _ => none

def mkParts (pl : List (Nat × Nat)) (ps : List (Nat × Operand)) : Option (List (Nat × Nat × Opd)) :=
  mapO (fun p => (pl.toArray[p.1]?).bind fun q => (mkOpd p.2).map fun y => (q.1, q.2, y)) ps

def mkRows (ps : List (Nat × Operand)) : Option (List (Nat × Opd)) := mapO (fun p => (mkOpd p.2).map fun y => (p.1, y)) ps

def trF : AOp → Bool
  | .mv _ _ tr => tr
  | .ld _ _ _ _ _ tr => tr
  | .st _ _ _ _ tr => tr
  | _ => false
def modeF : AOp → Nat
  | .box _ _ _ m => m
  | _ => 0
def globF : AOp → Bool
  | .alloc _ _ _ g => g
  | .call _ _ _ op => op
  | .callv _ _ _ op => op
  | .mks _ _ _ _ _ _ lo => lo
  | _ => false

def isStr (P : Program) (T : TypeId) : Option Bool :=
  match P.underlying T with
  | some .string => some true
  | some (.slice _) => some false
  | _ => none

/-- An operation that has a slot for its result. -/
def mkVal (P : Program) (a0 : AOp) (d : Nat) : Op → Option AOp
  | .move x | .assign x => (mkOpd x).map fun x => .mv d x (trF a0)
  | .nilCheck x => (mkOpd x).map fun x => .nilc d x
  | .pick c x y => (mkOpd c).bind fun c => (mkOpd x).bind fun x => (mkOpd y).map fun y => .pick d c x y
  | .alloc T => (zeroOf P T).map fun z => .alloc d T z (globF a0)
  | .box T x => (mkOpd x).map fun x => .box d T x (modeF a0)
  | .build T ps => (zeroOf P T).bind fun z => (placesOf P T).bind fun pl => (mkParts pl ps.toList).map fun ps => .build d T z ps
  | .buildSlice T n ps => (elemOf P T).bind fun e => (zeroOf P e.1).bind fun z => (mkRows ps.toList).map fun ps => .bsl d T e.2.size z n ps
  | .load T x => (P.underlying T).bind fun dsc => (P.info? T).bind fun ti => (mkOpd x).map fun x => .ld d T ti.size (tyAg dsc) x (trF a0)
  | .binOp op T x y _ => (mkOpd x).bind fun x => (mkOpd y).map fun y => .bin d op T x y
  | .unOp op _ x => (mkOpd x).map fun x => .un d op x
  | .convert s t x => (mkOpd x).map fun x => .conv d s t x
  | .slice T x lo hi mx => match P.underlying T with
    | some .string => (mkOpd x).bind fun x => (mkOpt lo).bind fun lo => (mkOpt hi).bind fun hi => (mkOpt mx).bind fun mx => if mx.isSome && !hi.isSome then none else some (.slc d T true 0 x lo hi mx)
    | some (.slice e) => (P.info? e).bind fun ti => (mkOpd x).bind fun x => (mkOpt lo).bind fun lo => (mkOpt hi).bind fun hi => (mkOpt mx).bind fun mx => if mx.isSome && !hi.isSome then none else some (.slc d T false ti.size x lo hi mx)
    | _ => none
  | .fieldAddr T x i => match P.underlying T with
    | some (.struct fs) => (fs[i]?).bind fun fl => (P.info? fl.type).bind fun ti => if ti.size = 0 then none else (mkOpd x).map fun x => .fad d T i fl.offset ti.size x
    | _ => none
  | .indexAddr T x i => match P.underlying T with
    | some (.slice e) => (P.info? e).bind fun ti => (mkOpd x).bind fun x => (mkOpd i).map fun i => .iad d T ti.size x i
    | _ => none
  | .index T x i => (mkOpd x).bind fun x => (mkOpd i).map fun i => .idx d T x i
  | .extract x i => (mkOpd x).map fun x => .ext d x i
  | .makeFunc (.func f) first caps => if first.size = 0 then (mapO mkOpd caps.toList).map fun cs => .mkf d f cs else none
  | .makeSlice T l c => (elemOf P T).bind fun e => (zeroOf P e.1).bind fun z => (mkOpd l).bind fun l => (mkOpd c).map fun c => .mks d T e.2.size z l c (globF a0)
  | .call { callee := .builtin .len, args, argTypes } => match args.toList, argTypes.toList with
    | [x], [T] => (isStr P T).bind fun b => (mkOpd x).map fun x => .len d b x
    | _, _ => none
  | .call { callee := .builtin .append, args, argTypes } => match args.toList, argTypes.toList with
    | [x, y], [T, T'] => if T = T' then (elemOf P T).bind fun e => e.2.zero.bind fun z => if z.cells.size = e.2.size then (mkOpd x).bind fun x => (mkOpd y).map fun y => .app d T e.2.size x y else none else none
    | _, _ => none
  | .call { callee := .builtin .max, args, .. } => (mapO mkOpd args.toList).map fun xs => .mnx d true xs
  | .call { callee := .builtin .min, args, .. } => (mapO mkOpd args.toList).map fun xs => .mnx d false xs
  | _ => none

def mkCall (a0 : AOp) (dst : Option Nat) (c : Go.Call) : Option AOp :=
  match c.callee with
  | .value (.func f) => (mapO mkOpd c.args.toList).map fun xs => .call dst f xs (globF a0)
  | .value x => (mkOpd x).bind fun x => (mapO mkOpd c.args.toList).map fun xs => .callv dst x xs (globF a0)
  | _ => none

def isVal : Callee → Bool
  | .value _ => true
  | _ => false

/-- The abstract operation of an operation; 'a0' tells what is left open. -/
def mkOp (P : Program) (N : Nat) (a0 : AOp) (o : Oper) : Option AOp :=
  match o.op with
  | .store T p x => if o.dst = none then (P.info? T).bind fun ti => (mkOpd p).bind fun p => (mkOpd x).map fun x => .st T ti.size p x (trF a0) else none
  | op => match o.dst with
    | some d => if d < N then (match op with
        | .call c => if isVal c.callee then mkCall a0 (some d) c else mkVal P a0 d op
        | op => mkVal P a0 d op) else none
    | none => match op with
      | .call c => mkCall a0 none c
      | _ => none

theorem mkCall_ok {a0 a : AOp} {c : Go.Call} (h : mkCall a0 o.dst c = some a) (ho : o.op = .call c) (hd : ∀ x, o.dst = some x → x < N) : OpM P N o a := by
  have hargs : c.args.toList.toArray = c.args := by simp
  unfold mkCall at h
  split at h
  · rename_i f hc
    simp only [Option.map_eq_some_iff] at h
    obtain ⟨xs, h1, rfl⟩ := h
    exact ⟨rfl, hd, c.args.toList, c.argTypes, by rw [ho, hargs, ← hc], mkOpds_ok h1⟩
  · rename_i x _ hc
    simp only [Option.bind_eq_some_iff, Option.map_eq_some_iff] at h
    obtain ⟨y, h0, xs, h1, rfl⟩ := h
    exact ⟨rfl, hd, x, c.args.toList, c.argTypes, by rw [ho, hargs, ← hc], mkOpd_ok h0, mkOpds_ok h1⟩
  · simp at h

theorem mkParts_ok {T : TypeId} {pl : List (Nat × Nat)} {ps : List (Nat × Operand)} {qs : List (Nat × Nat × Opd)} (h : mkParts pl ps = some qs) : PartsM (fun i => pl.toArray[i]?) ps qs := by
  refine ⟨(mapO_len h).symm, fun j x y hx hy => ?_⟩
  obtain ⟨x', hx', hm⟩ := mapO_get h j y hy
  rw [hx] at hx'; cases hx'
  simp only [Option.bind_eq_some_iff, Option.map_eq_some_iff] at hm
  obtain ⟨q, h1, z, h2, rfl⟩ := hm
  exact ⟨h1, mkOpd_ok h2⟩

theorem mkRows_ok {ps : List (Nat × Operand)} {qs : List (Nat × Opd)} (h : mkRows ps = some qs) : PartsR ps qs := by
  refine ⟨(mapO_len h).symm, fun j x y hx hy => ?_⟩
  obtain ⟨x', hx', hm⟩ := mapO_get h j y hy
  rw [hx] at hx'; cases hx'
  simp only [Option.map_eq_some_iff] at hm
  obtain ⟨z, h2, rfl⟩ := hm
  exact ⟨rfl, mkOpd_ok h2⟩

theorem built_of {T : TypeId} {pl : List (Nat × Nat)} (h : placesOf P T = some pl) {ti : TypeInfo} {z : Value} (h1 : P.info? T = some ti) (h2 : ti.zero = some z) (parts' : List (Nat × Value)) (cells : Array Value)
    (hf : Instr.fill (fun i => pl.toArray[i]?) z.cells parts' = some cells) : P.built T parts' = some cells := by
  unfold placesOf at h
  split at h
  · rename_i fields hu
    unfold Program.built
    simp only [h1, hu, h2, h]
    exact hf
  · simp at h

theorem mkVal_ok {a0 a : AOp} {d : Nat} (h : mkVal P a0 d o.op = some a) (hd : o.dst = some d) (hN : d < N) : OpM P N o a := by
  unfold mkVal at h
  split at h
  case h_1 x ho => simp only [Option.map_eq_some_iff] at h; obtain ⟨y, h1, rfl⟩ := h; exact ⟨hd, hN, x, .inl ho, mkOpd_ok h1⟩
  case h_2 x ho => simp only [Option.map_eq_some_iff] at h; obtain ⟨y, h1, rfl⟩ := h; exact ⟨hd, hN, x, .inr ho, mkOpd_ok h1⟩
  case h_3 x ho => simp only [Option.map_eq_some_iff] at h; obtain ⟨y, h1, rfl⟩ := h; exact ⟨hd, hN, x, ho, mkOpd_ok h1⟩
  case h_4 c x y ho =>
    simp only [Option.bind_eq_some_iff, Option.map_eq_some_iff] at h
    obtain ⟨c', h1, x', h2, y', h3, rfl⟩ := h
    exact ⟨hd, hN, c, x, y, ho, mkOpd_ok h1, mkOpd_ok h2, mkOpd_ok h3⟩
  case h_5 T ho => simp only [Option.map_eq_some_iff] at h; obtain ⟨z, h1, rfl⟩ := h; exact ⟨hd, hN, ho, zeroOf_ok h1⟩
  case h_6 T x ho => simp only [Option.map_eq_some_iff] at h; obtain ⟨y, h1, rfl⟩ := h; exact ⟨hd, hN, x, ho, mkOpd_ok h1⟩
  case h_7 T ps ho =>
    simp only [Option.bind_eq_some_iff, Option.map_eq_some_iff] at h
    obtain ⟨z, h1, pl, h2, qs, h3, rfl⟩ := h
    obtain ⟨ti, zv, e1, e2, e3, e4⟩ := zeroOf_ok h1
    exact ⟨hd, hN, ps, ti, zv, _, ho, e1, e2, e3, e4, built_of h2 e1 e2, mkParts_ok (T := T) h3⟩
  case h_8 T n ps ho =>
    simp only [Option.bind_eq_some_iff, Option.map_eq_some_iff] at h
    obtain ⟨⟨e, ti⟩, h1, z, h2, qs, h3, rfl⟩ := h
    have hE := elemOf_ok h1
    obtain ⟨ti', zv, e1, e2, e3, e4⟩ := zeroOf_ok h2
    have : ti = ti' := Option.some.inj (hE.2.1.symm.trans e1)
    subst this
    exact ⟨hd, hN, ps, e, ti, zv, ho, hE, e2, e3, e4, mkRows_ok h3⟩
  case h_9 T x ho =>
    simp only [Option.bind_eq_some_iff, Option.map_eq_some_iff] at h
    obtain ⟨dsc, h1, ti, h2, y, h3, rfl⟩ := h
    exact ⟨hd, hN, x, ti, dsc, ho, h1, rfl, h2, rfl, mkOpd_ok h3⟩
  case h_10 op T x y yT ho =>
    simp only [Option.bind_eq_some_iff, Option.map_eq_some_iff] at h
    obtain ⟨x', h2, y', h3, rfl⟩ := h
    exact ⟨hd, hN, x, y, yT, ho, mkOpd_ok h2, mkOpd_ok h3⟩
  case h_11 op T x ho => simp only [Option.map_eq_some_iff] at h; obtain ⟨y, h1, rfl⟩ := h; exact ⟨hd, hN, x, T, ho, mkOpd_ok h1⟩
  case h_12 s t x ho => simp only [Option.map_eq_some_iff] at h; obtain ⟨y, h1, rfl⟩ := h; exact ⟨hd, hN, x, ho, mkOpd_ok h1⟩
  case h_13 T x lo hi mx ho =>
    split at h
    · rename_i hu
      simp only [Option.bind_eq_some_iff, Option.ite_none_left_eq_some, Option.some.injEq] at h
      obtain ⟨x', h1, lo', h2, hi', h3, mx', h4, h5, rfl⟩ := h
      exact ⟨hd, hN, x, lo, hi, mx, ho, hu, mkOpd_ok h1, mkOpt_ok h2, mkOpt_ok h3, mkOpt_ok h4, fun hm => by cases hh : hi'.isSome <;> simp_all⟩
    · rename_i e hu
      simp only [Option.bind_eq_some_iff, Option.ite_none_left_eq_some, Option.some.injEq] at h
      obtain ⟨ti, h0, x', h1, lo', h2, hi', h3, mx', h4, h5, rfl⟩ := h
      exact ⟨hd, hN, x, lo, hi, mx, ho, ⟨e, ti, hu, h0, rfl⟩, mkOpd_ok h1, mkOpt_ok h2, mkOpt_ok h3, mkOpt_ok h4, fun hm => by cases hh : hi'.isSome <;> simp_all⟩
    · simp at h
  case h_14 T x i ho =>
    split at h
    · rename_i fs hu
      simp only [Option.bind_eq_some_iff, Option.ite_none_left_eq_some, Option.map_eq_some_iff] at h
      obtain ⟨fl, h1, ti, h2, h3, y, h4, rfl⟩ := h
      exact ⟨hd, hN, x, fs, fl, ti, ho, hu, h1, rfl, h2, h3, mkOpd_ok h4⟩
    · simp at h
  case h_15 T x i ho =>
    split at h
    · rename_i e hu
      simp only [Option.bind_eq_some_iff, Option.map_eq_some_iff] at h
      obtain ⟨ti, h1, y, h2, j, h3, rfl⟩ := h
      exact ⟨hd, hN, x, i, e, ti, ho, hu, h1, rfl, mkOpd_ok h2, mkOpd_ok h3⟩
    · simp at h
  case h_16 T x i ho =>
    simp only [Option.bind_eq_some_iff, Option.map_eq_some_iff] at h
    obtain ⟨y, h2, j, h3, rfl⟩ := h
    exact ⟨hd, hN, x, i, ho, mkOpd_ok h2, mkOpd_ok h3⟩
  case h_17 x i ho => simp only [Option.map_eq_some_iff] at h; obtain ⟨y, h1, rfl⟩ := h; exact ⟨hd, hN, x, ho, mkOpd_ok h1⟩
  case h_18 f first caps ho =>
    simp only [Option.ite_none_right_eq_some, Option.map_eq_some_iff] at h
    obtain ⟨h0, cs, h1, rfl⟩ := h
    have hf : first = #[] := Array.eq_empty_of_size_eq_zero h0
    subst hf
    exact ⟨hd, hN, caps.toList, by simpa using ho, mkOpds_ok h1⟩
  case h_19 T l c ho =>
    simp only [Option.bind_eq_some_iff, Option.map_eq_some_iff] at h
    obtain ⟨⟨e, ti⟩, h1, z, h2, l', h3, c', h4, rfl⟩ := h
    have hE := elemOf_ok h1
    obtain ⟨ti', zv, e1, e2, e3, e4⟩ := zeroOf_ok h2
    have : ti = ti' := Option.some.inj (hE.2.1.symm.trans e1)
    subst this
    exact ⟨hd, hN, l, c, e, ti, zv, ho, hE, e2, e3, e4, mkOpd_ok h3, mkOpd_ok h4⟩
  case h_20 args Ts ho =>
    split at h
    · rename_i x T hx hT
      simp only [Option.bind_eq_some_iff, Option.map_eq_some_iff] at h
      obtain ⟨b, h1, y, h2, rfl⟩ := h
      have ha : args = #[x] := by rw [← Array.toList_inj]; exact hx
      have hTs : Ts = #[T] := by rw [← Array.toList_inj]; exact hT
      subst ha hTs
      refine ⟨hd, hN, x, T, ho, ?_, mkOpd_ok h2⟩
      unfold isStr at h1
      split at h1
      · simp only [Option.some.injEq] at h1; subst h1; simpa
      · rename_i e hu
        simp only [Option.some.injEq] at h1; subst h1; exact ⟨e, hu⟩
      · simp at h1
    · simp at h
  case h_21 args Ts ho =>
    split at h
    · rename_i x y T T' hx hT
      simp only [Option.ite_none_right_eq_some, Option.bind_eq_some_iff, Option.map_eq_some_iff] at h
      obtain ⟨rfl, ⟨e, ti⟩, h1, z, h2, h3, x', h4, y', h5, rfl⟩ := h
      have ha : args = #[x, y] := by rw [← Array.toList_inj]; exact hx
      have hTs : Ts = #[T, T] := by rw [← Array.toList_inj]; exact hT
      subst ha hTs
      exact ⟨hd, hN, x, y, e, ti, z, ho, elemOf_ok h1, h2, h3, mkOpd_ok h4, mkOpd_ok h5⟩
    · simp at h
  case h_22 args Ts ho =>
    simp only [Option.map_eq_some_iff] at h
    obtain ⟨xs, h1, rfl⟩ := h
    exact ⟨hd, hN, args.toList, Ts, by simpa using ho, mkOpds_ok h1⟩
  case h_23 args Ts ho =>
    simp only [Option.map_eq_some_iff] at h
    obtain ⟨xs, h1, rfl⟩ := h
    exact ⟨hd, hN, args.toList, Ts, by simpa using ho, mkOpds_ok h1⟩
  case h_24 => simp at h

theorem mkOp_ok {a0 a : AOp} (h : mkOp P N a0 o = some a) : OpM P N o a := by
  unfold mkOp at h
  split at h
  · rename_i T p x ho
    simp only [Option.ite_none_right_eq_some, Option.bind_eq_some_iff, Option.map_eq_some_iff] at h
    obtain ⟨h0, ti, h1, p', h2, x', h3, rfl⟩ := h
    exact ⟨h0, p, x, ti, ho, h1, rfl, mkOpd_ok h2, mkOpd_ok h3⟩
  · split at h
    · rename_i d hd
      simp only [Option.ite_none_right_eq_some] at h
      obtain ⟨hN, h⟩ := h
      split at h
      · rename_i c hc
        split at h
        · rw [← hd] at h
          exact mkCall_ok h hc (fun x hx => by rw [hd] at hx; cases hx; exact hN)
        · exact mkVal_ok h hd hN
      · exact mkVal_ok h hd hN
    · rename_i hd
      split at h
      · rename_i c hc
        rw [← hd] at h
        exact mkCall_ok h hc (fun x hx => by rw [hd] at hx; simp at hx)
      · simp at h

end Go.AM
