import Derived.Test.YtnglcmfgkcdgcaaGreatAmT7
namespace Go.Proofs.YtnglcmfgkcdgcaaGreat
open Go Go.AM
set_option maxRecDepth 100000
set_option linter.unusedVariables false
abbrev w64 (n : Int) : Int := IntKind.wrap .i64 n
-- laws.szPointS
def F55 (a0 : List (Int × Int)) (a1 : Int) : Option (Int) :=
  (if (decide ((w64 (a1 - (a0.length : Int))) < 0)) = true then (some (-1)) else (some (w64 (a1 - (a0.length : Int)))))
-- laws.szInt64S
def F38 (a0 : List Int) (a1 : Int) : Option (Int) :=
  (if (decide ((w64 (a1 - (a0.length : Int))) < 0)) = true then (some (-1)) else (some (w64 (a1 - (a0.length : Int)))))
-- laws.szFace
def F105 (a0 : ByteArray × List Int) (a1 : Int) : Option (Int) :=
  (if (decide ((w64 (a1 - (a0.1.size : Int))) < 0)) = true then (some (-1)) else ((F38 a0.2 (w64 (a1 - (a0.1.size : Int)))).bind fun r1 => (if (decide (r1 < 0)) = true then (some (-1)) else (some r1))))
-- laws.szFaceS
def F56_l0 (L : Nat) (v : (List (ByteArray × List Int)) × Int × Int × Unit) : Option (((List (ByteArray × List Int)) × Int × Int × Unit) ⊕ ((Int × Unit) ⊕ (Int × Unit))) :=
  (if (decide (v.2.2.1 < (v.1.length : Int))) = true then ((getI v.1 v.2.2.1).bind fun y1 => ((F105 y1 v.2.1).bind fun r2 => (if (decide (r2 < 0)) = true then (some (.inr (.inr ((-1), ())))) else (some (.inl (v.1, r2, (w64 (v.2.2.1 + 1)), ())))))) else (some (.inr (.inl (v.2.1, ())))))
def F56 (L : Nat) (a0 : List (ByteArray × List Int)) (a1 : Int) : Option (Int) :=
  (if (decide ((w64 (a1 - (a0.length : Int))) < 0)) = true then (some (-1)) else ((iterS (F56_l0 L) L (a0, (w64 (a1 - (a0.length : Int))), 0, ())).bind fun v3 => (Sum.elim (fun v4 => (some v4.1)) (fun v5 => (some v5.1)) v3)))
-- laws.szDrawing
def F13 (L : Nat) (a0 : Int × Int × (List (Int × Int)) × List (ByteArray × List Int)) (a1 : Int) : Option (Int) :=
  ((F55 a0.2.2.1 a1).bind fun r1 => (if (decide (r1 < 0)) = true then (some (-1)) else ((F56 L a0.2.2.2 r1).bind fun r2 => (if (decide (r2 < 0)) = true then (some (-1)) else (some r2)))))
-- laws.szVeneer
def F57 (a0 : ByteArray × Int × Int) (a1 : Int) : Option (Int) :=
  (if (decide ((w64 (a1 - (a0.1.size : Int))) < 0)) = true then (some (-1)) else (some (w64 (a1 - (a0.1.size : Int)))))
-- laws.szVeneerS
def F14_l0 (L : Nat) (v : (List (ByteArray × Int × Int)) × Int × Int × Unit) : Option (((List (ByteArray × Int × Int)) × Int × Int × Unit) ⊕ ((Int × Unit) ⊕ (Int × Unit))) :=
  (if (decide (v.2.2.1 < (v.1.length : Int))) = true then ((getI v.1 v.2.2.1).bind fun y1 => ((F57 y1 v.2.1).bind fun r2 => (if (decide (r2 < 0)) = true then (some (.inr (.inr ((-1), ())))) else (some (.inl (v.1, r2, (w64 (v.2.2.1 + 1)), ())))))) else (some (.inr (.inl (v.2.1, ())))))
def F14 (L : Nat) (a0 : List (ByteArray × Int × Int)) (a1 : Int) : Option (Int) :=
  (if (decide ((w64 (a1 - (a0.length : Int))) < 0)) = true then (some (-1)) else ((iterS (F14_l0 L) L (a0, (w64 (a1 - (a0.length : Int))), 0, ())).bind fun v3 => (Sum.elim (fun v4 => (some v4.1)) (fun v5 => (some v5.1)) v3)))
-- laws.szPicture
def F35 (L : Nat) (a0 : (Int × Int × (List (Int × Int)) × List (ByteArray × List Int)) × List (ByteArray × Int × Int)) (a1 : Int) : Option (Int) :=
  ((F13 L a0.1 a1).bind fun r1 => (if (decide (r1 < 0)) = true then (some (-1)) else ((F14 L a0.2 r1).bind fun r2 => (if (decide (r2 < 0)) = true then (some (-1)) else (some r2)))))
-- laws.szBoxS
def F138 (a0 : List (Int × Int × Int × Int)) (a1 : Int) : Option (Int) :=
  (if (decide ((w64 (a1 - (a0.length : Int))) < 0)) = true then (some (-1)) else (some (w64 (a1 - (a0.length : Int)))))
-- laws.szLeaf
def F86 (a0 : ByteArray × ByteArray × Int × (ByteArray × Int × Int) × Int × Int × List (Int × Int × Int × Int)) (a1 : Int) : Option (Int) :=
  (if (decide ((w64 (a1 - (a0.1.size : Int))) < 0)) = true then (some (-1)) else (if (decide ((w64 ((w64 (a1 - (a0.1.size : Int))) - (a0.2.1.size : Int))) < 0)) = true then (some (-1)) else ((F57 a0.2.2.2.1 (w64 ((w64 (a1 - (a0.1.size : Int))) - (a0.2.1.size : Int)))).bind fun r1 => (if (decide (r1 < 0)) = true then (some (-1)) else ((F138 a0.2.2.2.2.2.2 r1).bind fun r2 => (if (decide (r2 < 0)) = true then (some (-1)) else (some r2)))))))
-- laws.szLeafS
def F36_l0 (L : Nat) (v : (List (ByteArray × ByteArray × Int × (ByteArray × Int × Int) × Int × Int × List (Int × Int × Int × Int))) × Int × Int × Unit) : Option (((List (ByteArray × ByteArray × Int × (ByteArray × Int × Int) × Int × Int × List (Int × Int × Int × Int))) × Int × Int × Unit) ⊕ ((Int × Unit) ⊕ (Int × Unit))) :=
  (if (decide (v.2.2.1 < (v.1.length : Int))) = true then ((getI v.1 v.2.2.1).bind fun y1 => ((F86 y1 v.2.1).bind fun r2 => (if (decide (r2 < 0)) = true then (some (.inr (.inr ((-1), ())))) else (some (.inl (v.1, r2, (w64 (v.2.2.1 + 1)), ())))))) else (some (.inr (.inl (v.2.1, ())))))
def F36 (L : Nat) (a0 : List (ByteArray × ByteArray × Int × (ByteArray × Int × Int) × Int × Int × List (Int × Int × Int × Int))) (a1 : Int) : Option (Int) :=
  (if (decide ((w64 (a1 - (a0.length : Int))) < 0)) = true then (some (-1)) else ((iterS (F36_l0 L) L (a0, (w64 (a1 - (a0.length : Int))), 0, ())).bind fun v3 => (Sum.elim (fun v4 => (some v4.1)) (fun v5 => (some v5.1)) v3)))
-- laws.szPlacementS
def F37 (a0 : List (Int × Int × Int × Int × Int)) (a1 : Int) : Option (Int) :=
  (if (decide ((w64 (a1 - (a0.length : Int))) < 0)) = true then (some (-1)) else (some (w64 (a1 - (a0.length : Int)))))
-- laws.szJob
def F8 (L : Nat) (a0 : ((Int × Int × (List (Int × Int)) × List (ByteArray × List Int)) × List (ByteArray × Int × Int)) × (List (ByteArray × ByteArray × Int × (ByteArray × Int × Int) × Int × Int × List (Int × Int × Int × Int))) × (List (Int × Int × Int × Int × Int)) × (Int × Int × Int × Int) × Int × Int × Int × Int × (List Int) × List Int) (a1 : Int) : Option (Int) :=
  ((F35 L a0.1 a1).bind fun r1 => (if (decide (r1 < 0)) = true then (some (-1)) else ((F36 L a0.2.1 r1).bind fun r2 => (if (decide (r2 < 0)) = true then (some (-1)) else ((F37 a0.2.2.1 r2).bind fun r3 => (if (decide (r3 < 0)) = true then (some (-1)) else ((F38 a0.2.2.2.2.2.2.2.2.1 r3).bind fun r4 => (if (decide (r4 < 0)) = true then (some (-1)) else ((F38 a0.2.2.2.2.2.2.2.2.2 r4).bind fun r5 => (if (decide (r5 < 0)) = true then (some (-1)) else (some r5)))))))))))
-- laws.szBond
def F125 (a0 : ByteArray × Int × Int × Int) (a1 : Int) : Option (Int) :=
  (if (decide ((w64 (a1 - (a0.1.size : Int))) < 0)) = true then (some (-1)) else (some (w64 (a1 - (a0.1.size : Int)))))
-- laws.szBondS
def F74_l0 (L : Nat) (v : (List (ByteArray × Int × Int × Int)) × Int × Int × Unit) : Option (((List (ByteArray × Int × Int × Int)) × Int × Int × Unit) ⊕ ((Int × Unit) ⊕ (Int × Unit))) :=
  (if (decide (v.2.2.1 < (v.1.length : Int))) = true then ((getI v.1 v.2.2.1).bind fun y1 => ((F125 y1 v.2.1).bind fun r2 => (if (decide (r2 < 0)) = true then (some (.inr (.inr ((-1), ())))) else (some (.inl (v.1, r2, (w64 (v.2.2.1 + 1)), ())))))) else (some (.inr (.inl (v.2.1, ())))))
def F74 (L : Nat) (a0 : List (ByteArray × Int × Int × Int)) (a1 : Int) : Option (Int) :=
  (if (decide ((w64 (a1 - (a0.length : Int))) < 0)) = true then (some (-1)) else ((iterS (F74_l0 L) L (a0, (w64 (a1 - (a0.length : Int))), 0, ())).bind fun v3 => (Sum.elim (fun v4 => (some v4.1)) (fun v5 => (some v5.1)) v3)))
-- laws.szCoat
def F126 (a0 : ByteArray × Int × Int × Int) (a1 : Int) : Option (Int) :=
  (if (decide ((w64 (a1 - (a0.1.size : Int))) < 0)) = true then (some (-1)) else (some (w64 (a1 - (a0.1.size : Int)))))
-- laws.szCoatS
def F75_l0 (L : Nat) (v : (List (ByteArray × Int × Int × Int)) × Int × Int × Unit) : Option (((List (ByteArray × Int × Int × Int)) × Int × Int × Unit) ⊕ ((Int × Unit) ⊕ (Int × Unit))) :=
  (if (decide (v.2.2.1 < (v.1.length : Int))) = true then ((getI v.1 v.2.2.1).bind fun y1 => ((F126 y1 v.2.1).bind fun r2 => (if (decide (r2 < 0)) = true then (some (.inr (.inr ((-1), ())))) else (some (.inl (v.1, r2, (w64 (v.2.2.1 + 1)), ())))))) else (some (.inr (.inl (v.2.1, ())))))
def F75 (L : Nat) (a0 : List (ByteArray × Int × Int × Int)) (a1 : Int) : Option (Int) :=
  (if (decide ((w64 (a1 - (a0.length : Int))) < 0)) = true then (some (-1)) else ((iterS (F75_l0 L) L (a0, (w64 (a1 - (a0.length : Int))), 0, ())).bind fun v3 => (Sum.elim (fun v4 => (some v4.1)) (fun v5 => (some v5.1)) v3)))
-- laws.szDesk
def F30 (L : Nat) (a0 : (((Int × Int × (List (Int × Int)) × List (ByteArray × List Int)) × List (ByteArray × Int × Int)) × (List (ByteArray × ByteArray × Int × (ByteArray × Int × Int) × Int × Int × List (Int × Int × Int × Int))) × (List (Int × Int × Int × Int × Int)) × (Int × Int × Int × Int) × Int × Int × Int × Int × (List Int) × List Int) × (List (ByteArray × Int × Int × Int)) × (List (ByteArray × Int × Int × Int)) × Int × Int × Int × Int × Int) (a1 : Int) : Option (Int) :=
  ((F8 L a0.1 a1).bind fun r1 => (if (decide (r1 < 0)) = true then (some (-1)) else ((F74 L a0.2.1 r1).bind fun r2 => (if (decide (r2 < 0)) = true then (some (-1)) else ((F75 L a0.2.2.1 r2).bind fun r3 => (if (decide (r3 < 0)) = true then (some (-1)) else (some r3)))))))
-- laws.toPoint
def F113 (a0 : Int × Int) : Option ((Int × Int)) :=
  (some a0)
-- laws.toPointS
def F62_l0 (L : Nat) (v : (List (Int × Int)) × (Nat × Nat) × Int × (List (Int × Int)) × Unit) : Option (((List (Int × Int)) × (Nat × Nat) × Int × (List (Int × Int)) × Unit) ⊕ (((Nat × Nat) × (List (Int × Int)) × Unit))) :=
  (if (decide (v.2.2.1 < (v.1.length : Int))) = true then ((getI v.1 v.2.2.1).bind fun y1 => ((F113 y1).bind fun r2 => (if 0 ≤ v.2.2.1 then (if v.2.2.1 < ((v.2.1.2 : Nat) : Int) then ((v.2.2.2.1[(v.2.1.1 + Int.toNat v.2.2.1)]?).bind fun y3 => ((v.2.2.2.1[(v.2.1.1 + Int.toNat v.2.2.1)]?).bind fun y4 => (some (.inl (v.1, (v.2.1.1, v.2.1.2), (w64 (v.2.2.1 + 1)), (v.2.2.2.1.set (v.2.1.1 + Int.toNat v.2.2.1) r2), ()))))) else none) else none))) else (some (.inr ((v.2.1.1, v.2.1.2), v.2.2.2.1, ()))))
def F62 (L : Nat) (a0 : List (Int × Int)) : Option ((List (Int × Int))) :=
  (if 0 ≤ (a0.length : Int) then (if 0 ≤ (a0.length : Int) then (if (Int.toNat (a0.length : Int)) = (Int.toNat (a0.length : Int)) then (if (Int.toNat (a0.length : Int)) ≤ roomN then ((iterS (F62_l0 L) L (a0, (0, (Int.toNat (a0.length : Int))), 0, (List.replicate (Int.toNat (a0.length : Int)) (0, 0)), ())).bind fun v5 => (if v5.1.1 + v5.1.2 ≤ v5.2.1.length then (if v5.1.1 + v5.1.2 ≤ v5.2.1.length then (if v5.1.1 + v5.1.2 ≤ v5.2.1.length then (some ((v5.2.1.drop v5.1.1).take v5.1.2)) else none) else none) else none)) else none) else none) else none) else none)
-- laws.toInt64S
def F44_l0 (L : Nat) (v : (List Int) × (Nat × Nat) × Int × (List Int) × Unit) : Option (((List Int) × (Nat × Nat) × Int × (List Int) × Unit) ⊕ (((Nat × Nat) × (List Int) × Unit))) :=
  (if (decide (v.2.2.1 < (v.1.length : Int))) = true then ((getI v.1 v.2.2.1).bind fun y1 => (if 0 ≤ v.2.2.1 then (if v.2.2.1 < ((v.2.1.2 : Nat) : Int) then ((v.2.2.2.1[(v.2.1.1 + Int.toNat v.2.2.1)]?).bind fun y2 => ((v.2.2.2.1[(v.2.1.1 + Int.toNat v.2.2.1)]?).bind fun y3 => (some (.inl (v.1, (v.2.1.1, v.2.1.2), (w64 (v.2.2.1 + 1)), (v.2.2.2.1.set (v.2.1.1 + Int.toNat v.2.2.1) y1), ()))))) else none) else none)) else (some (.inr ((v.2.1.1, v.2.1.2), v.2.2.2.1, ()))))
def F44 (L : Nat) (a0 : List Int) : Option ((List Int)) :=
  (if 0 ≤ (a0.length : Int) then (if 0 ≤ (a0.length : Int) then (if (Int.toNat (a0.length : Int)) = (Int.toNat (a0.length : Int)) then (if (Int.toNat (a0.length : Int)) ≤ roomN then ((iterS (F44_l0 L) L (a0, (0, (Int.toNat (a0.length : Int))), 0, (List.replicate (Int.toNat (a0.length : Int)) 0), ())).bind fun v4 => (if v4.1.1 + v4.1.2 ≤ v4.2.1.length then (if v4.1.1 + v4.1.2 ≤ v4.2.1.length then (if v4.1.1 + v4.1.2 ≤ v4.2.1.length then (some ((v4.2.1.drop v4.1.1).take v4.1.2)) else none) else none) else none)) else none) else none) else none) else none)
-- laws.toFace
def F114 (L : Nat) (a0 : ByteArray × List Int) : Option ((ByteArray × List Int)) :=
  ((F44 L a0.2).bind fun r1 => (some (a0.1, r1)))
-- laws.toFaceS
def F63_l0 (L : Nat) (v : (List (ByteArray × List Int)) × (Nat × Nat) × Int × (List (ByteArray × List Int)) × Unit) : Option (((List (ByteArray × List Int)) × (Nat × Nat) × Int × (List (ByteArray × List Int)) × Unit) ⊕ (((Nat × Nat) × (List (ByteArray × List Int)) × Unit))) :=
  (if (decide (v.2.2.1 < (v.1.length : Int))) = true then ((getI v.1 v.2.2.1).bind fun y1 => ((F114 L y1).bind fun r2 => (if 0 ≤ v.2.2.1 then (if v.2.2.1 < ((v.2.1.2 : Nat) : Int) then ((v.2.2.2.1[(v.2.1.1 + Int.toNat v.2.2.1)]?).bind fun y3 => ((v.2.2.2.1[(v.2.1.1 + Int.toNat v.2.2.1)]?).bind fun y4 => (some (.inl (v.1, (v.2.1.1, v.2.1.2), (w64 (v.2.2.1 + 1)), (v.2.2.2.1.set (v.2.1.1 + Int.toNat v.2.2.1) r2), ()))))) else none) else none))) else (some (.inr ((v.2.1.1, v.2.1.2), v.2.2.2.1, ()))))
def F63 (L : Nat) (a0 : List (ByteArray × List Int)) : Option ((List (ByteArray × List Int))) :=
  (if 0 ≤ (a0.length : Int) then (if 0 ≤ (a0.length : Int) then (if (Int.toNat (a0.length : Int)) = (Int.toNat (a0.length : Int)) then (if (Int.toNat (a0.length : Int)) ≤ roomN then ((iterS (F63_l0 L) L (a0, (0, (Int.toNat (a0.length : Int))), 0, (List.replicate (Int.toNat (a0.length : Int)) ((⟨#[]⟩ : ByteArray), [])), ())).bind fun v5 => (if v5.1.1 + v5.1.2 ≤ v5.2.1.length then (if v5.1.1 + v5.1.2 ≤ v5.2.1.length then (if v5.1.1 + v5.1.2 ≤ v5.2.1.length then (some ((v5.2.1.drop v5.1.1).take v5.1.2)) else none) else none) else none)) else none) else none) else none) else none)
-- laws.toDrawing
def F16 (L : Nat) (a0 : Int × Int × (List (Int × Int)) × List (ByteArray × List Int)) : Option ((Int × Int × (List (Int × Int)) × List (ByteArray × List Int))) :=
  ((F62 L a0.2.2.1).bind fun r1 => ((F63 L a0.2.2.2).bind fun r2 => (some (a0.1, a0.2.1, r1, r2))))
-- laws.toVeneer
def F64 (a0 : ByteArray × Int × Int) : Option ((ByteArray × Int × Int)) :=
  (some a0)
-- laws.toVeneerS
def F17_l0 (L : Nat) (v : (List (ByteArray × Int × Int)) × (Nat × Nat) × Int × (List (ByteArray × Int × Int)) × Unit) : Option (((List (ByteArray × Int × Int)) × (Nat × Nat) × Int × (List (ByteArray × Int × Int)) × Unit) ⊕ (((Nat × Nat) × (List (ByteArray × Int × Int)) × Unit))) :=
  (if (decide (v.2.2.1 < (v.1.length : Int))) = true then ((getI v.1 v.2.2.1).bind fun y1 => ((F64 y1).bind fun r2 => (if 0 ≤ v.2.2.1 then (if v.2.2.1 < ((v.2.1.2 : Nat) : Int) then ((v.2.2.2.1[(v.2.1.1 + Int.toNat v.2.2.1)]?).bind fun y3 => ((v.2.2.2.1[(v.2.1.1 + Int.toNat v.2.2.1)]?).bind fun y4 => (some (.inl (v.1, (v.2.1.1, v.2.1.2), (w64 (v.2.2.1 + 1)), (v.2.2.2.1.set (v.2.1.1 + Int.toNat v.2.2.1) r2), ()))))) else none) else none))) else (some (.inr ((v.2.1.1, v.2.1.2), v.2.2.2.1, ()))))
def F17 (L : Nat) (a0 : List (ByteArray × Int × Int)) : Option ((List (ByteArray × Int × Int))) :=
  (if 0 ≤ (a0.length : Int) then (if 0 ≤ (a0.length : Int) then (if (Int.toNat (a0.length : Int)) = (Int.toNat (a0.length : Int)) then (if (Int.toNat (a0.length : Int)) ≤ roomN then ((iterS (F17_l0 L) L (a0, (0, (Int.toNat (a0.length : Int))), 0, (List.replicate (Int.toNat (a0.length : Int)) ((⟨#[]⟩ : ByteArray), 0, 0)), ())).bind fun v5 => (if v5.1.1 + v5.1.2 ≤ v5.2.1.length then (if v5.1.1 + v5.1.2 ≤ v5.2.1.length then (if v5.1.1 + v5.1.2 ≤ v5.2.1.length then (some ((v5.2.1.drop v5.1.1).take v5.1.2)) else none) else none) else none)) else none) else none) else none) else none)
-- laws.toPicture
def F40 (L : Nat) (a0 : (Int × Int × (List (Int × Int)) × List (ByteArray × List Int)) × List (ByteArray × Int × Int)) : Option (((Int × Int × (List (Int × Int)) × List (ByteArray × List Int)) × List (ByteArray × Int × Int))) :=
  ((F16 L a0.1).bind fun r1 => ((F17 L a0.2).bind fun r2 => (some (r1, r2))))
-- laws.toBox
def F173 (a0 : Int × Int × Int × Int) : Option ((Int × Int × Int × Int)) :=
  (some a0)
-- laws.toBoxS
def F142_l0 (L : Nat) (v : (List (Int × Int × Int × Int)) × (Nat × Nat) × Int × (List (Int × Int × Int × Int)) × Unit) : Option (((List (Int × Int × Int × Int)) × (Nat × Nat) × Int × (List (Int × Int × Int × Int)) × Unit) ⊕ (((Nat × Nat) × (List (Int × Int × Int × Int)) × Unit))) :=
  (if (decide (v.2.2.1 < (v.1.length : Int))) = true then ((getI v.1 v.2.2.1).bind fun y1 => ((F173 y1).bind fun r2 => (if 0 ≤ v.2.2.1 then (if v.2.2.1 < ((v.2.1.2 : Nat) : Int) then ((v.2.2.2.1[(v.2.1.1 + Int.toNat v.2.2.1)]?).bind fun y3 => ((v.2.2.2.1[(v.2.1.1 + Int.toNat v.2.2.1)]?).bind fun y4 => (some (.inl (v.1, (v.2.1.1, v.2.1.2), (w64 (v.2.2.1 + 1)), (v.2.2.2.1.set (v.2.1.1 + Int.toNat v.2.2.1) r2), ()))))) else none) else none))) else (some (.inr ((v.2.1.1, v.2.1.2), v.2.2.2.1, ()))))
def F142 (L : Nat) (a0 : List (Int × Int × Int × Int)) : Option ((List (Int × Int × Int × Int))) :=
  (if 0 ≤ (a0.length : Int) then (if 0 ≤ (a0.length : Int) then (if (Int.toNat (a0.length : Int)) = (Int.toNat (a0.length : Int)) then (if (Int.toNat (a0.length : Int)) ≤ roomN then ((iterS (F142_l0 L) L (a0, (0, (Int.toNat (a0.length : Int))), 0, (List.replicate (Int.toNat (a0.length : Int)) (0, 0, 0, 0)), ())).bind fun v5 => (if v5.1.1 + v5.1.2 ≤ v5.2.1.length then (if v5.1.1 + v5.1.2 ≤ v5.2.1.length then (if v5.1.1 + v5.1.2 ≤ v5.2.1.length then (some ((v5.2.1.drop v5.1.1).take v5.1.2)) else none) else none) else none)) else none) else none) else none) else none)
-- laws.toLeaf
def F96 (L : Nat) (a0 : ByteArray × ByteArray × Int × (ByteArray × Int × Int) × Int × Int × List (Int × Int × Int × Int)) : Option ((ByteArray × ByteArray × Int × (ByteArray × Int × Int) × Int × Int × List (Int × Int × Int × Int))) :=
  ((F64 a0.2.2.2.1).bind fun r1 => ((F142 L a0.2.2.2.2.2.2).bind fun r2 => (some (a0.1, a0.2.1, a0.2.2.1, r1, a0.2.2.2.2.1, a0.2.2.2.2.2.1, r2))))
-- laws.toLeafS
def F41_l0 (L : Nat) (v : (List (ByteArray × ByteArray × Int × (ByteArray × Int × Int) × Int × Int × List (Int × Int × Int × Int))) × (Nat × Nat) × Int × (List (ByteArray × ByteArray × Int × (ByteArray × Int × Int) × Int × Int × List (Int × Int × Int × Int))) × Unit) : Option (((List (ByteArray × ByteArray × Int × (ByteArray × Int × Int) × Int × Int × List (Int × Int × Int × Int))) × (Nat × Nat) × Int × (List (ByteArray × ByteArray × Int × (ByteArray × Int × Int) × Int × Int × List (Int × Int × Int × Int))) × Unit) ⊕ (((Nat × Nat) × (List (ByteArray × ByteArray × Int × (ByteArray × Int × Int) × Int × Int × List (Int × Int × Int × Int))) × Unit))) :=
  (if (decide (v.2.2.1 < (v.1.length : Int))) = true then ((getI v.1 v.2.2.1).bind fun y1 => ((F96 L y1).bind fun r2 => (if 0 ≤ v.2.2.1 then (if v.2.2.1 < ((v.2.1.2 : Nat) : Int) then ((v.2.2.2.1[(v.2.1.1 + Int.toNat v.2.2.1)]?).bind fun y3 => ((v.2.2.2.1[(v.2.1.1 + Int.toNat v.2.2.1)]?).bind fun y4 => (some (.inl (v.1, (v.2.1.1, v.2.1.2), (w64 (v.2.2.1 + 1)), (v.2.2.2.1.set (v.2.1.1 + Int.toNat v.2.2.1) r2), ()))))) else none) else none))) else (some (.inr ((v.2.1.1, v.2.1.2), v.2.2.2.1, ()))))
def F41 (L : Nat) (a0 : List (ByteArray × ByteArray × Int × (ByteArray × Int × Int) × Int × Int × List (Int × Int × Int × Int))) : Option ((List (ByteArray × ByteArray × Int × (ByteArray × Int × Int) × Int × Int × List (Int × Int × Int × Int)))) :=
  (if 0 ≤ (a0.length : Int) then (if 0 ≤ (a0.length : Int) then (if (Int.toNat (a0.length : Int)) = (Int.toNat (a0.length : Int)) then (if (Int.toNat (a0.length : Int)) ≤ roomN then ((iterS (F41_l0 L) L (a0, (0, (Int.toNat (a0.length : Int))), 0, (List.replicate (Int.toNat (a0.length : Int)) ((⟨#[]⟩ : ByteArray), (⟨#[]⟩ : ByteArray), 0, ((⟨#[]⟩ : ByteArray), 0, 0), 0, 0, [])), ())).bind fun v5 => (if v5.1.1 + v5.1.2 ≤ v5.2.1.length then (if v5.1.1 + v5.1.2 ≤ v5.2.1.length then (if v5.1.1 + v5.1.2 ≤ v5.2.1.length then (some ((v5.2.1.drop v5.1.1).take v5.1.2)) else none) else none) else none)) else none) else none) else none) else none)
-- laws.toPlacement
def F97 (a0 : Int × Int × Int × Int × Int) : Option ((Int × Int × Int × Int × Int)) :=
  (some a0)
-- laws.toPlacementS
def F42_l0 (L : Nat) (v : (List (Int × Int × Int × Int × Int)) × (Nat × Nat) × Int × (List (Int × Int × Int × Int × Int)) × Unit) : Option (((List (Int × Int × Int × Int × Int)) × (Nat × Nat) × Int × (List (Int × Int × Int × Int × Int)) × Unit) ⊕ (((Nat × Nat) × (List (Int × Int × Int × Int × Int)) × Unit))) :=
  (if (decide (v.2.2.1 < (v.1.length : Int))) = true then ((getI v.1 v.2.2.1).bind fun y1 => ((F97 y1).bind fun r2 => (if 0 ≤ v.2.2.1 then (if v.2.2.1 < ((v.2.1.2 : Nat) : Int) then ((v.2.2.2.1[(v.2.1.1 + Int.toNat v.2.2.1)]?).bind fun y3 => ((v.2.2.2.1[(v.2.1.1 + Int.toNat v.2.2.1)]?).bind fun y4 => (some (.inl (v.1, (v.2.1.1, v.2.1.2), (w64 (v.2.2.1 + 1)), (v.2.2.2.1.set (v.2.1.1 + Int.toNat v.2.2.1) r2), ()))))) else none) else none))) else (some (.inr ((v.2.1.1, v.2.1.2), v.2.2.2.1, ()))))
def F42 (L : Nat) (a0 : List (Int × Int × Int × Int × Int)) : Option ((List (Int × Int × Int × Int × Int))) :=
  (if 0 ≤ (a0.length : Int) then (if 0 ≤ (a0.length : Int) then (if (Int.toNat (a0.length : Int)) = (Int.toNat (a0.length : Int)) then (if (Int.toNat (a0.length : Int)) ≤ roomN then ((iterS (F42_l0 L) L (a0, (0, (Int.toNat (a0.length : Int))), 0, (List.replicate (Int.toNat (a0.length : Int)) (0, 0, 0, 0, 0)), ())).bind fun v5 => (if v5.1.1 + v5.1.2 ≤ v5.2.1.length then (if v5.1.1 + v5.1.2 ≤ v5.2.1.length then (if v5.1.1 + v5.1.2 ≤ v5.2.1.length then (some ((v5.2.1.drop v5.1.1).take v5.1.2)) else none) else none) else none)) else none) else none) else none) else none)
-- laws.toRules
def F43 (a0 : Int × Int × Int × Int) : Option ((Int × Int × Int × Int)) :=
  (some a0)
-- laws.toJob
def F10 (L : Nat) (a0 : ((Int × Int × (List (Int × Int)) × List (ByteArray × List Int)) × List (ByteArray × Int × Int)) × (List (ByteArray × ByteArray × Int × (ByteArray × Int × Int) × Int × Int × List (Int × Int × Int × Int))) × (List (Int × Int × Int × Int × Int)) × (Int × Int × Int × Int) × Int × Int × Int × Int × (List Int) × List Int) : Option ((((Int × Int × (List (Int × Int)) × List (ByteArray × List Int)) × List (ByteArray × Int × Int)) × (List (ByteArray × ByteArray × Int × (ByteArray × Int × Int) × Int × Int × List (Int × Int × Int × Int))) × (List (Int × Int × Int × Int × Int)) × (Int × Int × Int × Int) × Int × Int × Int × Int × (List Int) × List Int)) :=
  ((F40 L a0.1).bind fun r1 => ((F41 L a0.2.1).bind fun r2 => ((F42 L a0.2.2.1).bind fun r3 => ((F43 a0.2.2.2.1).bind fun r4 => ((F44 L a0.2.2.2.2.2.2.2.2.1).bind fun r5 => ((F44 L a0.2.2.2.2.2.2.2.2.2).bind fun r6 => (some (r1, r2, r3, r4, a0.2.2.2.2.1, a0.2.2.2.2.2.1, a0.2.2.2.2.2.2.1, a0.2.2.2.2.2.2.2.1, r5, r6))))))))
-- laws.toBond
def F130 (a0 : ByteArray × Int × Int × Int) : Option ((ByteArray × Int × Int × Int)) :=
  (some a0)
-- laws.toBondS
def F77_l0 (L : Nat) (v : (List (ByteArray × Int × Int × Int)) × (Nat × Nat) × Int × (List (ByteArray × Int × Int × Int)) × Unit) : Option (((List (ByteArray × Int × Int × Int)) × (Nat × Nat) × Int × (List (ByteArray × Int × Int × Int)) × Unit) ⊕ (((Nat × Nat) × (List (ByteArray × Int × Int × Int)) × Unit))) :=
  (if (decide (v.2.2.1 < (v.1.length : Int))) = true then ((getI v.1 v.2.2.1).bind fun y1 => ((F130 y1).bind fun r2 => (if 0 ≤ v.2.2.1 then (if v.2.2.1 < ((v.2.1.2 : Nat) : Int) then ((v.2.2.2.1[(v.2.1.1 + Int.toNat v.2.2.1)]?).bind fun y3 => ((v.2.2.2.1[(v.2.1.1 + Int.toNat v.2.2.1)]?).bind fun y4 => (some (.inl (v.1, (v.2.1.1, v.2.1.2), (w64 (v.2.2.1 + 1)), (v.2.2.2.1.set (v.2.1.1 + Int.toNat v.2.2.1) r2), ()))))) else none) else none))) else (some (.inr ((v.2.1.1, v.2.1.2), v.2.2.2.1, ()))))
def F77 (L : Nat) (a0 : List (ByteArray × Int × Int × Int)) : Option ((List (ByteArray × Int × Int × Int))) :=
  (if 0 ≤ (a0.length : Int) then (if 0 ≤ (a0.length : Int) then (if (Int.toNat (a0.length : Int)) = (Int.toNat (a0.length : Int)) then (if (Int.toNat (a0.length : Int)) ≤ roomN then ((iterS (F77_l0 L) L (a0, (0, (Int.toNat (a0.length : Int))), 0, (List.replicate (Int.toNat (a0.length : Int)) ((⟨#[]⟩ : ByteArray), 0, 0, 0)), ())).bind fun v5 => (if v5.1.1 + v5.1.2 ≤ v5.2.1.length then (if v5.1.1 + v5.1.2 ≤ v5.2.1.length then (if v5.1.1 + v5.1.2 ≤ v5.2.1.length then (some ((v5.2.1.drop v5.1.1).take v5.1.2)) else none) else none) else none)) else none) else none) else none) else none)
-- laws.toCoat
def F131 (a0 : ByteArray × Int × Int × Int) : Option ((ByteArray × Int × Int × Int)) :=
  (some a0)
-- laws.toCoatS
def F78_l0 (L : Nat) (v : (List (ByteArray × Int × Int × Int)) × (Nat × Nat) × Int × (List (ByteArray × Int × Int × Int)) × Unit) : Option (((List (ByteArray × Int × Int × Int)) × (Nat × Nat) × Int × (List (ByteArray × Int × Int × Int)) × Unit) ⊕ (((Nat × Nat) × (List (ByteArray × Int × Int × Int)) × Unit))) :=
  (if (decide (v.2.2.1 < (v.1.length : Int))) = true then ((getI v.1 v.2.2.1).bind fun y1 => ((F131 y1).bind fun r2 => (if 0 ≤ v.2.2.1 then (if v.2.2.1 < ((v.2.1.2 : Nat) : Int) then ((v.2.2.2.1[(v.2.1.1 + Int.toNat v.2.2.1)]?).bind fun y3 => ((v.2.2.2.1[(v.2.1.1 + Int.toNat v.2.2.1)]?).bind fun y4 => (some (.inl (v.1, (v.2.1.1, v.2.1.2), (w64 (v.2.2.1 + 1)), (v.2.2.2.1.set (v.2.1.1 + Int.toNat v.2.2.1) r2), ()))))) else none) else none))) else (some (.inr ((v.2.1.1, v.2.1.2), v.2.2.2.1, ()))))
def F78 (L : Nat) (a0 : List (ByteArray × Int × Int × Int)) : Option ((List (ByteArray × Int × Int × Int))) :=
  (if 0 ≤ (a0.length : Int) then (if 0 ≤ (a0.length : Int) then (if (Int.toNat (a0.length : Int)) = (Int.toNat (a0.length : Int)) then (if (Int.toNat (a0.length : Int)) ≤ roomN then ((iterS (F78_l0 L) L (a0, (0, (Int.toNat (a0.length : Int))), 0, (List.replicate (Int.toNat (a0.length : Int)) ((⟨#[]⟩ : ByteArray), 0, 0, 0)), ())).bind fun v5 => (if v5.1.1 + v5.1.2 ≤ v5.2.1.length then (if v5.1.1 + v5.1.2 ≤ v5.2.1.length then (if v5.1.1 + v5.1.2 ≤ v5.2.1.length then (some ((v5.2.1.drop v5.1.1).take v5.1.2)) else none) else none) else none)) else none) else none) else none) else none)
-- laws.toRates
def F79 (a0 : Int × Int × Int × Int × Int) : Option ((Int × Int × Int × Int × Int)) :=
  (some a0)
-- laws.toDesk
def F32 (L : Nat) (a0 : (((Int × Int × (List (Int × Int)) × List (ByteArray × List Int)) × List (ByteArray × Int × Int)) × (List (ByteArray × ByteArray × Int × (ByteArray × Int × Int) × Int × Int × List (Int × Int × Int × Int))) × (List (Int × Int × Int × Int × Int)) × (Int × Int × Int × Int) × Int × Int × Int × Int × (List Int) × List Int) × (List (ByteArray × Int × Int × Int)) × (List (ByteArray × Int × Int × Int)) × Int × Int × Int × Int × Int) : Option (((((Int × Int × (List (Int × Int)) × List (ByteArray × List Int)) × List (ByteArray × Int × Int)) × (List (ByteArray × ByteArray × Int × (ByteArray × Int × Int) × Int × Int × List (Int × Int × Int × Int))) × (List (Int × Int × Int × Int × Int)) × (Int × Int × Int × Int) × Int × Int × Int × Int × (List Int) × List Int) × (List (ByteArray × Int × Int × Int)) × (List (ByteArray × Int × Int × Int)) × Int × Int × Int × Int × Int)) :=
  ((F10 L a0.1).bind fun r1 => ((F77 L a0.2.1).bind fun r2 => ((F78 L a0.2.2.1).bind fun r3 => ((F79 a0.2.2.2).bind fun r4 => (some (r1, r2, r3, r4))))))
-- spec.l00In
def F108 (a0 : Int) (a1 : Int) (a2 : Int) : Option (Bool) :=
  (if (decide (a0 ≥ a1)) = true then (some (decide (a0 ≤ a2))) else (some false))
-- spec.l05Points
def F155_l0 (L : Nat) (v : (Int × Int × (List (Int × Int)) × List (ByteArray × List Int)) × Int × Int × Unit) : Option (((Int × Int × (List (Int × Int)) × List (ByteArray × List Int)) × Int × Int × Unit) ⊕ (((Int × Int × (List (Int × Int)) × List (ByteArray × List Int)) × Int × Unit) ⊕ (Bool × Unit))) :=
  (if (decide (v.2.2.1 < v.2.1)) = true then ((getI v.1.2.2.1 v.2.1).bind fun y5 => ((getI v.1.2.2.1 v.2.2.1).bind fun y6 => (if ((y5.1 == y6.1) && ((y5.2 == y6.2) && true)) = true then (some (.inr (.inr (false, ())))) else (some (.inl (v.1, v.2.1, (w64 (v.2.2.1 + 1)), ())))))) else (some (.inr (.inl (v.1, v.2.1, ())))))
def F155_l1 (L : Nat) (v : (Int × Int × (List (Int × Int)) × List (ByteArray × List Int)) × Int × Unit) : Option (((Int × Int × (List (Int × Int)) × List (ByteArray × List Int)) × Int × Unit) ⊕ ((Unit) ⊕ (Bool × Unit))) :=
  (if (decide (v.2.1 < (v.1.2.2.1.length : Int))) = true then ((getI v.1.2.2.1 v.2.1).bind fun y1 => ((F108 y1.1 0 v.1.1).bind fun r2 => (if (!r2) = true then (some (.inr (.inr (false, ())))) else ((getI v.1.2.2.1 v.2.1).bind fun y3 => ((F108 y3.2 0 v.1.2.1).bind fun r4 => (if (!r4) = true then (some (.inr (.inr (false, ())))) else ((iterS (F155_l0 L) L (v.1, v.2.1, 0, ())).bind fun v7 => (Sum.elim (fun v8 => (some (.inl (v8.1, (w64 (v8.2.1 + 1)), ())))) (fun v9 => (some (.inr (.inr (v9.1, ()))))) v7)))))))) else (some (.inr (.inl ()))))
def F155 (L : Nat) (a0 : Int × Int × (List (Int × Int)) × List (ByteArray × List Int)) : Option (Bool) :=
  (if (decide ((a0.2.2.1.length : Int) > 48)) = true then (some false) else ((iterS (F155_l1 L) L (a0, 0, ())).bind fun v10 => (Sum.elim (fun v11 => (some true)) (fun v12 => (some v12.1)) v10)))
-- spec.l01Small
def F183 (a0 : Int) : Option (Bool) :=
  (if (decide (a0 ≥ 97)) = true then (some (decide (a0 ≤ 122))) else (some false))
-- spec.l01Digit
def F184 (a0 : Int) : Option (Bool) :=
  (if (decide (a0 ≥ 48)) = true then (some (decide (a0 ≤ 57))) else (some false))
-- spec.l01Name
def F156_l0 (L : Nat) (v : ByteArray × Int × Unit) : Option ((ByteArray × Int × Unit) ⊕ ((Unit) ⊕ (Bool × Unit))) :=
  (if (decide (v.2.1 < (v.1.size : Int))) = true then ((byteAt v.1 v.2.1).bind fun c3 => ((F183 c3).bind fun r4 => (if (!r4) = true then ((byteAt v.1 v.2.1).bind fun c5 => ((F184 c5).bind fun r6 => (if (!r6) = true then (some (.inr (.inr (false, ())))) else (some (.inl (v.1, (w64 (v.2.1 + 1)), ())))))) else (some (.inl (v.1, (w64 (v.2.1 + 1)), ())))))) else (some (.inr (.inl ()))))
def F156 (L : Nat) (a0 : ByteArray) : Option (Bool) :=
  (if (strEq a0 (⟨#[]⟩ : ByteArray)) = true then (some false) else (if (decide ((a0.size : Int) > 10)) = true then (some false) else ((byteAt a0 0).bind fun c1 => ((F183 c1).bind fun r2 => (if (!r2) = true then (some false) else ((iterS (F156_l0 L) L (a0, 0, ())).bind fun v7 => (Sum.elim (fun v8 => (some true)) (fun v9 => (some v9.1)) v7)))))))
-- spec.l05Ring
def F157_l0 (L : Nat) (v : (Int × Int × (List (Int × Int)) × List (ByteArray × List Int)) × (List Int) × (List (Int × Int)) × Int × Unit) : Option (((Int × Int × (List (Int × Int)) × List (ByteArray × List Int)) × (List Int) × (List (Int × Int)) × Int × Unit) ⊕ (((List (Int × Int)) × Unit) ⊕ ((List (Int × Int)) × Bool × Unit))) :=
  (if (decide (v.2.2.2.1 < (v.2.1.length : Int))) = true then ((getI v.2.1 v.2.2.2.1).bind fun y1 => ((F108 y1 0 (w64 ((v.1.2.2.1.length : Int) - 1))).bind fun r2 => (if (!r2) = true then (some (.inr (.inr ([], false, ())))) else ((getI v.2.1 v.2.2.2.1).bind fun y3 => ((getI v.1.2.2.1 y3).bind fun y4 => ((appL v.2.2.1 [y4]).bind fun z5 => (some (.inl (v.1, v.2.1, z5, (w64 (v.2.2.2.1 + 1)), ()))))))))) else (some (.inr (.inl (v.2.2.1, ())))))
def F157 (L : Nat) (a0 : Int × Int × (List (Int × Int)) × List (ByteArray × List Int)) (a1 : List Int) : Option ((List (Int × Int)) × Bool) :=
  ((iterS (F157_l0 L) L (a0, a1, [], 0, ())).bind fun v6 => (Sum.elim (fun v7 => (some (v7.1, true))) (fun v8 => (some (v8.1, v8.2.1))) v6))
-- spec.l02Ok
def F185 (a0 : Int × Int) : Option (Bool) :=
  ((F108 a0.1 0 20000).bind fun r1 => (if r1 = true then ((F108 a0.2 0 20000).bind fun r2 => (some r2)) else (some false)))
-- spec.l02Cross
def F218 (a0 : Int × Int) (a1 : Int × Int) (a2 : Int × Int) : Option (Int) :=
  (some (w64 ((w64 ((w64 (a1.1 - a0.1)) * (w64 (a2.2 - a0.2)))) - (w64 ((w64 (a1.2 - a0.2)) * (w64 (a2.1 - a0.1)))))))
-- spec.l02Side
def F209 (a0 : Int × Int) (a1 : Int × Int) (a2 : Int × Int) : Option (Int) :=
  ((F218 a0 a1 a2).bind fun r1 => (if (decide (r1 > 0)) = true then (some 1) else (if (decide (r1 < 0)) = true then (some (-1)) else (some 0))))
-- spec.l00Min
def F193 (a0 : Int) (a1 : Int) : Option (Int) :=
  (if (decide (a0 < a1)) = true then (some a0) else (some a1))
-- spec.l00Max
def F161 (a0 : Int) (a1 : Int) : Option (Int) :=
  (if (decide (a0 > a1)) = true then (some a0) else (some a1))
-- spec.l02On
def F186 (a0 : Int × Int) (a1 : Int × Int) (a2 : Int × Int) : Option (Bool) :=
  ((F209 a0 a1 a2).bind fun r1 => (if (r1 == 0) = true then ((F193 a0.1 a1.1).bind fun r2 => ((F161 a0.1 a1.1).bind fun r3 => ((F108 a2.1 r2 r3).bind fun r4 => (if r4 = true then ((F193 a0.2 a1.2).bind fun r5 => ((F161 a0.2 a1.2).bind fun r6 => ((F108 a2.2 r5 r6).bind fun r7 => (some r7)))) else (some false))))) else (some false)))
-- spec.l02Crosses
def F210 (a0 : Int × Int) (a1 : Int × Int) (a2 : Int × Int) (a3 : Int × Int) : Option (Bool) :=
  ((F209 a0 a1 a2).bind fun r1 => ((F209 a0 a1 a3).bind fun r2 => (if (decide ((w64 (r1 * r2)) < 0)) = true then ((F209 a2 a3 a0).bind fun r3 => ((F209 a2 a3 a1).bind fun r4 => (some (decide ((w64 (r3 * r4)) < 0))))) else (some false))))
-- spec.l03Meet
def F187 (a0 : Int × Int) (a1 : Int × Int) (a2 : Int × Int) (a3 : Int × Int) : Option (Bool) :=
  ((F210 a0 a1 a2 a3).bind fun r1 => (if r1 = true then (some true) else ((F186 a0 a1 a2).bind fun r2 => (if r2 = true then (some true) else ((F186 a0 a1 a3).bind fun r3 => (if r3 = true then (some true) else ((F186 a2 a3 a0).bind fun r4 => (if r4 = true then (some true) else ((F186 a2 a3 a1).bind fun r5 => (some r5))))))))))
-- spec.l03Area
def F188_l0 (L : Nat) (v : (List (Int × Int)) × Int × Int × Unit) : Option (((List (Int × Int)) × Int × Int × Unit) ⊕ ((Int × Unit))) :=
  (if (decide (v.2.2.1 < (v.1.length : Int))) = true then (if (v.1.length : Int) = 0 then none else ((getI v.1 (Int.tmod (w64 (v.2.2.1 + 1)) (v.1.length : Int))).bind fun y1 => ((getI v.1 v.2.2.1).bind fun y2 => ((getI v.1 v.2.2.1).bind fun y3 => (some (.inl (v.1, (w64 (v.2.1 + (w64 ((w64 (y2.1 * y1.2)) - (w64 (y3.2 * y1.1)))))), (w64 (v.2.2.1 + 1)), ()))))))) else (some (.inr (v.2.1, ()))))
def F188 (L : Nat) (a0 : List (Int × Int)) : Option (Int) :=
  ((iterS (F188_l0 L) L (a0, 0, 0, ())).bind fun v4 => (some v4.1))
-- spec.l03Ok
def F158_l0 (L : Nat) (v : (List (Int × Int)) × Int × Int × Unit) : Option (((List (Int × Int)) × Int × Int × Unit) ⊕ (((List (Int × Int)) × Int × Unit) ⊕ (Bool × Unit))) :=
  (if (decide (v.2.2.1 < v.2.1)) = true then ((getI v.1 v.2.2.1).bind fun y1 => ((F185 y1).bind fun r2 => (if (!r2) = true then (some (.inr (.inr (false, ())))) else (some (.inl (v.1, v.2.1, (w64 (v.2.2.1 + 1)), ())))))) else (some (.inr (.inl (v.1, v.2.1, ())))))
def F158_l1 (L : Nat) (v : (List (Int × Int)) × Int × Int × Int × (Int × Int × Unit) × (Int × Int × Unit) × Unit) : Option (((List (Int × Int)) × Int × Int × Int × (Int × Int × Unit) × (Int × Int × Unit) × Unit) ⊕ (((List (Int × Int)) × Int × Int × Unit) ⊕ (Bool × Unit))) :=
  (if (decide (v.2.2.2.1 < v.2.1)) = true then (if v.2.1 = 0 then none else (if ((Int.tmod (w64 (v.2.2.2.1 + 1)) v.2.1) != v.2.2.1) = true then ((getI v.1 v.2.2.2.1).bind fun y11 => (if v.2.1 = 0 then none else ((getI v.1 (Int.tmod (w64 (v.2.2.2.1 + 1)) v.2.1)).bind fun y12 => ((F187 (v.2.2.2.2.1.1, v.2.2.2.2.1.2.1) (v.2.2.2.2.2.1.1, v.2.2.2.2.2.1.2.1) y11 y12).bind fun r13 => (if r13 = true then (some (.inr (.inr (false, ())))) else (some (.inl (v.1, v.2.1, v.2.2.1, (w64 (v.2.2.2.1 + 1)), (v.2.2.2.2.1.1, v.2.2.2.2.1.2.1, ()), (v.2.2.2.2.2.1.1, v.2.2.2.2.2.1.2.1, ()), ())))))))) else (some (.inl (v.1, v.2.1, v.2.2.1, (w64 (v.2.2.2.1 + 1)), (v.2.2.2.2.1.1, v.2.2.2.2.1.2.1, ()), (v.2.2.2.2.2.1.1, v.2.2.2.2.2.1.2.1, ()), ()))))) else (some (.inr (.inl (v.1, v.2.1, v.2.2.1, ())))))
def F158_l2 (L : Nat) (v : (List (Int × Int)) × Int × Int × Unit) : Option (((List (Int × Int)) × Int × Int × Unit) ⊕ (((List (Int × Int)) × Unit) ⊕ (Bool × Unit))) :=
  (if (decide (v.2.2.1 < v.2.1)) = true then ((getI v.1 v.2.2.1).bind fun y6 => (if v.2.1 = 0 then none else ((getI v.1 (Int.tmod (w64 (v.2.2.1 + 1)) v.2.1)).bind fun y7 => (if v.2.1 = 0 then none else ((getI v.1 (Int.tmod (w64 (v.2.2.1 + 2)) v.2.1)).bind fun y8 => (if ((y6.1 == y7.1) && ((y6.2 == y7.2) && true)) = true then (some (.inr (.inr (false, ())))) else ((F186 y6 y7 y8).bind fun r9 => (if r9 = true then (some (.inr (.inr (false, ())))) else ((F186 y7 y8 y6).bind fun r10 => (if r10 = true then (some (.inr (.inr (false, ())))) else ((iterS (F158_l1 L) L (v.1, v.2.1, v.2.2.1, (w64 (v.2.2.1 + 2)), (y6.1, y6.2, ()), (y7.1, y7.2, ()), ())).bind fun v14 => (Sum.elim (fun v15 => (some (.inl (v15.1, v15.2.1, (w64 (v15.2.2.1 + 1)), ())))) (fun v16 => (some (.inr (.inr (v16.1, ()))))) v14)))))))))))) else (some (.inr (.inl (v.1, ())))))
def F158 (L : Nat) (a0 : List (Int × Int)) : Option (Bool) :=
  (if (decide ((a0.length : Int) < 3)) = true then (some false) else (if (decide ((a0.length : Int) > 24)) = true then (some false) else ((iterS (F158_l0 L) L (a0, (a0.length : Int), 0, ())).bind fun v3 => (Sum.elim (fun v4 => ((iterS (F158_l2 L) L (v4.1, v4.2.1, 0, ())).bind fun v17 => (Sum.elim (fun v18 => ((F188 L v18.1).bind fun r20 => (some (decide (r20 > 0))))) (fun v19 => (some v19.1)) v17))) (fun v5 => (some v5.1)) v3))))
-- spec.l05Ok
def F106_l0 (L : Nat) (v : (Int × Int × (List (Int × Int)) × List (ByteArray × List Int)) × Int × Unit) : Option (((Int × Int × (List (Int × Int)) × List (ByteArray × List Int)) × Int × Unit) ⊕ ((Unit) ⊕ (Bool × Unit))) :=
  (if (decide (v.2.1 < (v.1.2.2.2.length : Int))) = true then ((((getI v.1.2.2.2 v.2.1).bind fun y4 => ((F156 L y4.1).bind fun r5 => (if (!r5) = true then (some (.inr (false, ()))) else (if (decide (v.2.1 > 0)) = true then ((getI v.1.2.2.2 (w64 (v.2.1 - 1))).bind fun y6 => ((getI v.1.2.2.2 v.2.1).bind fun y7 => (if (!strLt y6.1 y7.1) = true then (some (.inr (false, ()))) else (some (.inl (v.1, v.2.1, ())))))) else (some (.inl (v.1, v.2.1, ()))))))) : Option (((Int × Int × (List (Int × Int)) × List (ByteArray × List Int)) × Int × Unit) ⊕ (Bool × Unit))).bind fun v8 => (Sum.elim (fun v9 => ((getI v9.1.2.2.2 v9.2.1).bind fun y11 => ((F157 L v9.1 y11.2).bind fun r12 => (if (!r12.2) = true then (some (.inr (.inr (false, ())))) else ((F158 L r12.1).bind fun r13 => (if (!r13) = true then (some (.inr (.inr (false, ())))) else (some (.inl (v9.1, (w64 (v9.2.1 + 1)), ()))))))))) (fun v10 => (some (.inr (.inr (v10.1, ()))))) v8)) else (some (.inr (.inl ()))))
def F106 (L : Nat) (a0 : Int × Int × (List (Int × Int)) × List (ByteArray × List Int)) : Option (Bool) :=
  ((F108 a0.1 10 20000).bind fun r1 => (if (!r1) = true then (some false) else ((F108 a0.2.1 10 20000).bind fun r2 => (if (!r2) = true then (some false) else ((F155 L a0).bind fun r3 => (if (!r3) = true then (some false) else (if (decide ((a0.2.2.2.length : Int) > 24)) = true then (some false) else ((iterS (F106_l0 L) L (a0, 0, ())).bind fun v14 => (Sum.elim (fun v15 => (some true)) (fun v16 => (some v16.1)) v14)))))))))
-- spec.l07Names
def F211 : Option ((List ByteArray)) :=
  (some [(⟨#[97, 115, 104]⟩ : ByteArray), (⟨#[98, 101, 101, 99, 104]⟩ : ByteArray), (⟨#[98, 105, 114, 99, 104]⟩ : ByteArray), (⟨#[99, 104, 101, 114, 114, 121]⟩ : ByteArray), (⟨#[101, 98, 111, 110, 121]⟩ : ByteArray), (⟨#[104, 111, 108, 108, 121]⟩ : ByteArray), (⟨#[109, 97, 112, 108, 101]⟩ : ByteArray), (⟨#[111, 97, 107]⟩ : ByteArray), (⟨#[114, 111, 115, 101, 119, 111, 111, 100]⟩ : ByteArray), (⟨#[119, 97, 108, 110, 117, 116]⟩ : ByteArray)])
-- spec.l07Find
def F189_l0 (L : Nat) (v : ByteArray × (List ByteArray) × Int × Unit) : Option ((ByteArray × (List ByteArray) × Int × Unit) ⊕ ((Unit) ⊕ (Int × Unit))) :=
  (if (decide (v.2.2.1 < (v.2.1.length : Int))) = true then ((getI v.2.1 v.2.2.1).bind fun y2 => (if (strEq y2 v.1) = true then (some (.inr (.inr (v.2.2.1, ())))) else (some (.inl (v.1, v.2.1, (w64 (v.2.2.1 + 1)), ()))))) else (some (.inr (.inl ()))))
def F189 (L : Nat) (a0 : ByteArray) : Option (Int) :=
  ((F211).bind fun r1 => ((iterS (F189_l0 L) L (a0, r1, 0, ())).bind fun v3 => (Sum.elim (fun v4 => (some (-1))) (fun v5 => (some v5.1)) v3)))
-- spec.l07Table
def F190 : Option ((List (List Int))) :=
  (some [[20, 40, 310], [35, 45, 410], [15, 33, 280], [50, 36, 240], [95, 85, 270], [5, 35, 370], [10, 42, 290], [40, 40, 330], [80, 60, 220], [70, 38, 260]])
-- spec.l07Grain
def F191 (a0 : Int) : Option (Bool) :=
  ((F108 a0 0 179).bind fun r1 => (some r1))
-- spec.l07Ok
def F159 (L : Nat) (a0 : ByteArray × Int × Int) : Option (Bool) :=
  ((F189 L a0.1).bind fun r1 => (if (decide (r1 < 0)) = true then (some false) else ((F108 a0.2.1 0 100).bind fun r2 => (if (!r2) = true then (some false) else ((F190).bind fun r3 => ((getI r3 r1).bind fun y4 => ((getI y4 0).bind fun y5 => ((F108 a0.2.1 (w64 (y5 - 15)) (w64 (y5 + 15))).bind fun r6 => (if r6 = true then ((F191 a0.2.2).bind fun r7 => (some r7)) else (some false))))))))))
-- spec.l08Veneers
def F107_l0 (L : Nat) (v : (List (ByteArray × Int × Int)) × Int × Unit) : Option (((List (ByteArray × Int × Int)) × Int × Unit) ⊕ ((Unit) ⊕ (Bool × Unit))) :=
  (if (decide (v.2.1 < (v.1.length : Int))) = true then ((getI v.1 v.2.1).bind fun y1 => ((F159 L y1).bind fun r2 => (if (!r2) = true then (some (.inr (.inr (false, ())))) else (some (.inl (v.1, (w64 (v.2.1 + 1)), ())))))) else (some (.inr (.inl ()))))
def F107 (L : Nat) (a0 : List (ByteArray × Int × Int)) : Option (Bool) :=
  ((iterS (F107_l0 L) L (a0, 0, ())).bind fun v3 => (Sum.elim (fun v4 => (some true)) (fun v5 => (some v5.1)) v3))
-- spec.l08Ok
def F87 (L : Nat) (a0 : (Int × Int × (List (Int × Int)) × List (ByteArray × List Int)) × List (ByteArray × Int × Int)) : Option (Bool) :=
  ((F106 L a0.1).bind fun r1 => (if r1 = true then ((F107 L a0.2).bind fun r2 => (if r2 = true then (some ((a0.2.length : Int) == (a0.1.2.2.2.length : Int))) else (some false))) else (some false)))
-- spec.l09Box
def F171 (a0 : Int × Int × Int × Int) (a1 : Int) (a2 : Int) : Option (Bool) :=
  ((F108 a0.1 0 a1).bind fun r1 => (if r1 = true then ((F108 a0.2.1 0 a2).bind fun r2 => (if r2 = true then ((F108 a0.2.2.1 1 (w64 (a1 - a0.1))).bind fun r3 => (if r3 = true then ((F108 a0.2.2.2 1 (w64 (a2 - a0.2.1))).bind fun r4 => (some r4)) else (some false))) else (some false))) else (some false)))
-- spec.l09One
def F139_l0 (L : Nat) (v : (ByteArray × ByteArray × Int × (ByteArray × Int × Int) × Int × Int × List (Int × Int × Int × Int)) × Int × Unit) : Option (((ByteArray × ByteArray × Int × (ByteArray × Int × Int) × Int × Int × List (Int × Int × Int × Int)) × Int × Unit) ⊕ ((Unit) ⊕ (Bool × Unit))) :=
  (if (decide (v.2.1 < (v.1.2.2.2.2.2.2.length : Int))) = true then ((getI v.1.2.2.2.2.2.2 v.2.1).bind fun y7 => ((F171 y7 v.1.2.2.2.2.1 v.1.2.2.2.2.2.1).bind fun r8 => (if (!r8) = true then (some (.inr (.inr (false, ())))) else (some (.inl (v.1, (w64 (v.2.1 + 1)), ())))))) else (some (.inr (.inl ()))))
def F139 (L : Nat) (a0 : ByteArray × ByteArray × Int × (ByteArray × Int × Int) × Int × Int × List (Int × Int × Int × Int)) : Option (Bool) :=
  ((F156 L a0.1).bind fun r1 => (if (!r1) = true then (some false) else ((F156 L a0.2.1).bind fun r2 => (if (!r2) = true then (some false) else ((F108 a0.2.2.1 0 999).bind fun r3 => (if (!r3) = true then (some false) else ((F159 L a0.2.2.2.1).bind fun r4 => (if (!r4) = true then (some false) else ((F108 a0.2.2.2.2.1 10 20000).bind fun r5 => (if (!r5) = true then (some false) else ((F108 a0.2.2.2.2.2.1 10 20000).bind fun r6 => (if (!r6) = true then (some false) else (if (decide ((a0.2.2.2.2.2.2.length : Int) > 6)) = true then (some false) else ((iterS (F139_l0 L) L (a0, 0, ())).bind fun v9 => (Sum.elim (fun v10 => (some true)) (fun v11 => (some v11.1)) v9)))))))))))))))
-- spec.l09Ok
def F88_l0 (L : Nat) (v : (List (ByteArray × ByteArray × Int × (ByteArray × Int × Int) × Int × Int × List (Int × Int × Int × Int))) × Int × Unit) : Option (((List (ByteArray × ByteArray × Int × (ByteArray × Int × Int) × Int × Int × List (Int × Int × Int × Int))) × Int × Unit) ⊕ (((List (ByteArray × ByteArray × Int × (ByteArray × Int × Int) × Int × Int × List (Int × Int × Int × Int))) × Unit) ⊕ (Bool × Unit))) :=
  (if (decide (v.2.1 < (v.1.length : Int))) = true then ((getI v.1 v.2.1).bind fun y1 => ((F139 L y1).bind fun r2 => (if (!r2) = true then (some (.inr (.inr (false, ())))) else (if (decide (v.2.1 > 0)) = true then ((getI v.1 (w64 (v.2.1 - 1))).bind fun y3 => ((getI v.1 v.2.1).bind fun y4 => (if (!strLt y3.1 y4.1) = true then (some (.inr (.inr (false, ())))) else (some (.inl (v.1, (w64 (v.2.1 + 1)), ())))))) else (some (.inl (v.1, (w64 (v.2.1 + 1)), ()))))))) else (some (.inr (.inl (v.1, ())))))
def F88 (L : Nat) (a0 : List (ByteArray × ByteArray × Int × (ByteArray × Int × Int) × Int × Int × List (Int × Int × Int × Int))) : Option (Bool) :=
  ((iterS (F88_l0 L) L (a0, 0, ())).bind fun v5 => (Sum.elim (fun v6 => (some (decide ((v6.1.length : Int) ≤ 16)))) (fun v7 => (some v7.1)) v5))
-- spec.l03Turn
def F172 (a0 : Int) : Option (Bool) :=
  ((F108 a0 0 7).bind fun r1 => (some r1))
-- spec.l11One
def F140 (a0 : Int × Int × Int × Int × Int) : Option (Bool) :=
  ((F108 a0.1 0 23).bind fun r1 => (if r1 = true then ((F108 a0.2.1 0 15).bind fun r2 => (if r2 = true then ((F108 a0.2.2.1 0 20000).bind fun r3 => (if r3 = true then ((F108 a0.2.2.2.1 0 20000).bind fun r4 => (if r4 = true then ((F172 a0.2.2.2.2).bind fun r5 => (some r5)) else (some false))) else (some false))) else (some false))) else (some false)))
-- spec.l11Ok
def F89_l0 (L : Nat) (v : (List (Int × Int × Int × Int × Int)) × Int × Unit) : Option (((List (Int × Int × Int × Int × Int)) × Int × Unit) ⊕ (((List (Int × Int × Int × Int × Int)) × Unit) ⊕ (Bool × Unit))) :=
  (if (decide (v.2.1 < (v.1.length : Int))) = true then ((getI v.1 v.2.1).bind fun y1 => ((F140 y1).bind fun r2 => (if (!r2) = true then (some (.inr (.inr (false, ())))) else (if (decide (v.2.1 > 0)) = true then ((getI v.1 (w64 (v.2.1 - 1))).bind fun y3 => ((getI v.1 v.2.1).bind fun y4 => (if (decide (y3.1 ≥ y4.1)) = true then (some (.inr (.inr (false, ())))) else (some (.inl (v.1, (w64 (v.2.1 + 1)), ())))))) else (some (.inl (v.1, (w64 (v.2.1 + 1)), ()))))))) else (some (.inr (.inl (v.1, ())))))
def F89 (L : Nat) (a0 : List (Int × Int × Int × Int × Int)) : Option (Bool) :=
  ((iterS (F89_l0 L) L (a0, 0, ())).bind fun v5 => (Sum.elim (fun v6 => (some (decide ((v6.1.length : Int) ≤ 24)))) (fun v7 => (some v7.1)) v5))
-- spec.l05Face
def F141 (a0 : Int × Int × (List (Int × Int)) × List (ByteArray × List Int)) (a1 : Int) : Option (Bool) :=
  ((F108 a1 0 (w64 ((a0.2.2.2.length : Int) - 1))).bind fun r1 => (some r1))
-- spec.l11Fits
def F90_l0 (L : Nat) (v : ((Int × Int × (List (Int × Int)) × List (ByteArray × List Int)) × List (ByteArray × Int × Int)) × (List (Int × Int × Int × Int × Int)) × Int × Unit) : Option ((((Int × Int × (List (Int × Int)) × List (ByteArray × List Int)) × List (ByteArray × Int × Int)) × (List (Int × Int × Int × Int × Int)) × Int × Unit) ⊕ ((Unit) ⊕ (Bool × Unit))) :=
  (if (decide (v.2.2.1 < (v.2.1.length : Int))) = true then ((getI v.2.1 v.2.2.1).bind fun y1 => ((F141 v.1.1 y1.1).bind fun r2 => (if (!r2) = true then (some (.inr (.inr (false, ())))) else (some (.inl (v.1, v.2.1, (w64 (v.2.2.1 + 1)), ())))))) else (some (.inr (.inl ()))))
def F90 (L : Nat) (a0 : (Int × Int × (List (Int × Int)) × List (ByteArray × List Int)) × List (ByteArray × Int × Int)) (a1 : List (Int × Int × Int × Int × Int)) : Option (Bool) :=
  ((iterS (F90_l0 L) L (a0, a1, 0, ())).bind fun v3 => (Sum.elim (fun v4 => (some true)) (fun v5 => (some v5.1)) v3))
-- spec.l11Rules
def F91 (a0 : Int × Int × Int × Int) : Option (Bool) :=
  ((F108 a0.1 0 500).bind fun r1 => (if r1 = true then ((F108 a0.2.1 0 500).bind fun r2 => (if r2 = true then ((F108 a0.2.2.1 0 90).bind fun r3 => (if r3 = true then ((F108 a0.2.2.2 0 100).bind fun r4 => (some r4)) else (some false))) else (some false))) else (some false)))
-- spec.l13Sheet
def F92 (a0 : Int) (a1 : Int) : Option (Bool) :=
  ((F108 a0 1 1000).bind fun r1 => (if r1 = true then ((F108 a1 0 200).bind fun r2 => (some r2)) else (some false)))
-- spec.l13Angle
def F93 (a0 : Int) : Option (Bool) :=
  ((F108 a0 0 30).bind fun r1 => (some r1))
-- spec.l13Tolerance
def F94 (a0 : Int) : Option (Bool) :=
  ((F108 a0 0 200).bind fun r1 => (some r1))
-- spec.l00Has
def F112_l0 (L : Nat) (v : (List Int) × Int × Int × Unit) : Option (((List Int) × Int × Int × Unit) ⊕ ((Unit) ⊕ (Bool × Unit))) :=
  (if (decide (v.2.2.1 < (v.1.length : Int))) = true then ((getI v.1 v.2.2.1).bind fun y1 => (if (y1 == v.2.1) = true then (some (.inr (.inr (true, ())))) else (some (.inl (v.1, v.2.1, (w64 (v.2.2.1 + 1)), ()))))) else (some (.inr (.inl ()))))
def F112 (L : Nat) (a0 : List Int) (a1 : Int) : Option (Bool) :=
  ((iterS (F112_l0 L) L (a0, a1, 0, ())).bind fun v2 => (Sum.elim (fun v3 => (some false)) (fun v4 => (some v4.1)) v2))
-- spec.l23Order
def F95_l0 (L : Nat) (v : (Int × Int × (List (Int × Int)) × List (ByteArray × List Int)) × (List Int) × Int × Unit) : Option (((Int × Int × (List (Int × Int)) × List (ByteArray × List Int)) × (List Int) × Int × Unit) ⊕ ((Unit) ⊕ (Bool × Unit))) :=
  (if (decide (v.2.2.1 < (v.2.1.length : Int))) = true then ((getI v.2.1 v.2.2.1).bind fun y1 => ((F141 v.1 y1).bind fun r2 => (if (!r2) = true then (some (.inr (.inr (false, ())))) else (if 0 ≤ v.2.2.1 then ((cutL v.2.1 0 (Int.toNat v.2.2.1)).bind fun c3 => ((getI v.2.1 v.2.2.1).bind fun y4 => ((F112 L c3 y4).bind fun r5 => (if r5 = true then (some (.inr (.inr (false, ())))) else (some (.inl (v.1, v.2.1, (w64 (v.2.2.1 + 1)), ()))))))) else none)))) else (some (.inr (.inl ()))))
def F95 (L : Nat) (a0 : Int × Int × (List (Int × Int)) × List (ByteArray × List Int)) (a1 : List Int) : Option (Bool) :=
  ((iterS (F95_l0 L) L (a0, a1, 0, ())).bind fun v6 => (Sum.elim (fun v7 => (some true)) (fun v8 => (some v8.1)) v6))
-- spec.l31Ok
def F39 (L : Nat) (a0 : ((Int × Int × (List (Int × Int)) × List (ByteArray × List Int)) × List (ByteArray × Int × Int)) × (List (ByteArray × ByteArray × Int × (ByteArray × Int × Int) × Int × Int × List (Int × Int × Int × Int))) × (List (Int × Int × Int × Int × Int)) × (Int × Int × Int × Int) × Int × Int × Int × Int × (List Int) × List Int) : Option (Bool) :=
  ((F87 L a0.1).bind fun r1 => (if (!r1) = true then (some false) else ((F88 L a0.2.1).bind fun r2 => (if (!r2) = true then (some false) else ((F89 L a0.2.2.1).bind fun r3 => (if (!r3) = true then (some false) else ((F90 L a0.1 a0.2.2.1).bind fun r4 => (if (!r4) = true then (some false) else ((F91 a0.2.2.2.1).bind fun r5 => (if (!r5) = true then (some false) else ((F92 a0.2.2.2.2.1 a0.2.2.2.2.2.1).bind fun r6 => (if r6 = true then ((F93 a0.2.2.2.2.2.2.1).bind fun r7 => (if r7 = true then ((F94 a0.2.2.2.2.2.2.2.1).bind fun r8 => (if r8 = true then ((F95 L a0.1.1 a0.2.2.2.2.2.2.2.2.1).bind fun r9 => (some r9)) else (some false))) else (some false))) else (some false)))))))))))))
-- spec.l24One
def F168 (L : Nat) (a0 : ByteArray × Int × Int × Int) : Option (Bool) :=
  ((F156 L a0.1).bind fun r1 => (if r1 = true then ((F108 a0.2.1 1 120).bind fun r2 => (if r2 = true then ((F108 a0.2.2.1 a0.2.1 240).bind fun r3 => (if r3 = true then ((F108 a0.2.2.2 1 1440).bind fun r4 => (some r4)) else (some false))) else (some false))) else (some false)))
-- spec.l24Ok
def F127_l0 (L : Nat) (v : (List (ByteArray × Int × Int × Int)) × Int × Unit) : Option (((List (ByteArray × Int × Int × Int)) × Int × Unit) ⊕ (((List (ByteArray × Int × Int × Int)) × Unit) ⊕ (Bool × Unit))) :=
  (if (decide (v.2.1 < (v.1.length : Int))) = true then ((getI v.1 v.2.1).bind fun y1 => ((F168 L y1).bind fun r2 => (if (!r2) = true then (some (.inr (.inr (false, ())))) else (if (decide (v.2.1 > 0)) = true then ((getI v.1 (w64 (v.2.1 - 1))).bind fun y3 => ((getI v.1 v.2.1).bind fun y4 => (if (!strLt y3.1 y4.1) = true then (some (.inr (.inr (false, ())))) else (some (.inl (v.1, (w64 (v.2.1 + 1)), ())))))) else (some (.inl (v.1, (w64 (v.2.1 + 1)), ()))))))) else (some (.inr (.inl (v.1, ())))))
def F127 (L : Nat) (a0 : List (ByteArray × Int × Int × Int)) : Option (Bool) :=
  ((iterS (F127_l0 L) L (a0, 0, ())).bind fun v5 => (Sum.elim (fun v6 => (some (decide ((v6.1.length : Int) ≤ 12)))) (fun v7 => (some v7.1)) v5))
-- spec.l22One
def F169 (L : Nat) (a0 : ByteArray × Int × Int × Int) : Option (Bool) :=
  ((F156 L a0.1).bind fun r1 => (if r1 = true then ((F108 a0.2.1 1 32).bind fun r2 => (if r2 = true then ((F108 a0.2.2.1 0 400).bind fun r3 => (if r3 = true then ((F108 a0.2.2.2 a0.2.2.1 800).bind fun r4 => (some r4)) else (some false))) else (some false))) else (some false)))
-- spec.l22Ok
def F128_l0 (L : Nat) (v : (List (ByteArray × Int × Int × Int)) × Int × Unit) : Option (((List (ByteArray × Int × Int × Int)) × Int × Unit) ⊕ (((List (ByteArray × Int × Int × Int)) × Unit) ⊕ (Bool × Unit))) :=
  (if (decide (v.2.1 < (v.1.length : Int))) = true then ((getI v.1 v.2.1).bind fun y1 => ((F169 L y1).bind fun r2 => (if (!r2) = true then (some (.inr (.inr (false, ())))) else (some (.inl (v.1, (w64 (v.2.1 + 1)), ())))))) else (some (.inr (.inl (v.1, ())))))
def F128 (L : Nat) (a0 : List (ByteArray × Int × Int × Int)) : Option (Bool) :=
  ((iterS (F128_l0 L) L (a0, 0, ())).bind fun v3 => (Sum.elim (fun v4 => (some (decide ((v4.1.length : Int) ≤ 8)))) (fun v5 => (some v5.1)) v3))
-- spec.l28Ok
def F129 (a0 : Int × Int × Int × Int × Int) : Option (Bool) :=
  ((F108 a0.1 0 100000).bind fun r1 => (if r1 = true then ((F108 a0.2.1 0 1000).bind fun r2 => (if r2 = true then ((F108 a0.2.2.1 0 1000).bind fun r3 => (if r3 = true then ((F108 a0.2.2.2.1 0 300).bind fun r4 => (if r4 = true then ((F108 a0.2.2.2.2 0 200).bind fun r5 => (some r5)) else (some false))) else (some false))) else (some false))) else (some false)))
-- spec.l32Ok
def F76 (L : Nat) (a0 : (((Int × Int × (List (Int × Int)) × List (ByteArray × List Int)) × List (ByteArray × Int × Int)) × (List (ByteArray × ByteArray × Int × (ByteArray × Int × Int) × Int × Int × List (Int × Int × Int × Int))) × (List (Int × Int × Int × Int × Int)) × (Int × Int × Int × Int) × Int × Int × Int × Int × (List Int) × List Int) × (List (ByteArray × Int × Int × Int)) × (List (ByteArray × Int × Int × Int)) × Int × Int × Int × Int × Int) : Option (Bool) :=
  ((F39 L a0.1).bind fun r1 => (if r1 = true then ((F127 L a0.2.1).bind fun r2 => (if r2 = true then ((F128 L a0.2.2.1).bind fun r3 => (if r3 = true then ((F129 a0.2.2.2).bind fun r4 => (some r4)) else (some false))) else (some false))) else (some false)))
-- spec.ValidDesk
def F31 (L : Nat) (a0 : (((Int × Int × (List (Int × Int)) × List (ByteArray × List Int)) × List (ByteArray × Int × Int)) × (List (ByteArray × ByteArray × Int × (ByteArray × Int × Int) × Int × Int × List (Int × Int × Int × Int))) × (List (Int × Int × Int × Int × Int)) × (Int × Int × Int × Int) × Int × Int × Int × Int × (List Int) × List Int) × (List (ByteArray × Int × Int × Int)) × (List (ByteArray × Int × Int × Int)) × Int × Int × Int × Int × Int) : Option (Bool) :=
  ((F76 L a0).bind fun r1 => (some r1))
-- impl.within
def F49 (a0 : Int) (a1 : Int) (a2 : Int) : Option (Bool) :=
  (if (decide (a0 ≥ a1)) = true then (some (decide (a0 ≤ a2))) else (some false))
-- slices.Index[[]impl.Point,impl.Point]
def F174_l0 (L : Nat) (v : (List (Int × Int)) × (Int × Int) × Int × Int × Unit) : Option (((List (Int × Int)) × (Int × Int) × Int × Int × Unit) ⊕ ((Unit) ⊕ (Int × Unit))) :=
  (if (decide (v.2.2.2.1 < v.2.2.1)) = true then ((getI v.1 v.2.2.2.1).bind fun y1 => (if ((v.2.1.1 == y1.1) && ((v.2.1.2 == y1.2) && true)) = true then (some (.inr (.inr (v.2.2.2.1, ())))) else (some (.inl (v.1, v.2.1, v.2.2.1, (w64 (v.2.2.2.1 + 1)), ()))))) else (some (.inr (.inl ()))))
def F174 (L : Nat) (a0 : List (Int × Int)) (a1 : Int × Int) : Option (Int) :=
  ((iterS (F174_l0 L) L (a0, a1, (a0.length : Int), 0, ())).bind fun v2 => (Sum.elim (fun v3 => (some (-1))) (fun v4 => (some v4.1)) v2))
-- slices.Contains[[]impl.Point,impl.Point]
def F143 (L : Nat) (a0 : List (Int × Int)) (a1 : Int × Int) : Option (Bool) :=
  ((F174 L a0 a1).bind fun r1 => (some (decide (r1 ≥ 0))))
-- impl.IsName
def F144_l0 (L : Nat) (v : ByteArray × Int × Unit) : Option ((ByteArray × Int × Unit) ⊕ ((Unit) ⊕ (Bool × Unit))) :=
  (if (decide (v.2.1 < (v.1.size : Int))) = true then ((byteAt v.1 v.2.1).bind fun c3 => (if (decide (c3 < 97)) = true then ((byteAt v.1 v.2.1).bind fun c4 => (if (decide (c4 < 48)) = true then (some (.inr (.inr (false, ())))) else ((byteAt v.1 v.2.1).bind fun c5 => (if (decide (c5 > 57)) = true then (some (.inr (.inr (false, ())))) else (some (.inl (v.1, (w64 (v.2.1 + 1)), ()))))))) else ((byteAt v.1 v.2.1).bind fun c6 => (if (decide (c6 > 122)) = true then ((byteAt v.1 v.2.1).bind fun c7 => (if (decide (c7 < 48)) = true then (some (.inr (.inr (false, ())))) else ((byteAt v.1 v.2.1).bind fun c8 => (if (decide (c8 > 57)) = true then (some (.inr (.inr (false, ())))) else (some (.inl (v.1, (w64 (v.2.1 + 1)), ()))))))) else (some (.inl (v.1, (w64 (v.2.1 + 1)), ()))))))) else (some (.inr (.inl ()))))
def F144 (L : Nat) (a0 : ByteArray) : Option (Bool) :=
  (if (decide ((a0.size : Int) < 1)) = true then (some false) else (if (decide ((a0.size : Int) > 10)) = true then (some false) else ((byteAt a0 0).bind fun c1 => (if (decide (c1 < 97)) = true then (some false) else ((byteAt a0 0).bind fun c2 => (if (decide (c2 > 122)) = true then (some false) else ((iterS (F144_l0 L) L (a0, 0, ())).bind fun v9 => (Sum.elim (fun v10 => (some true)) (fun v11 => (some v11.1)) v9))))))))
-- impl.ringPolygon
def F145_l0 (L : Nat) (v : (List (Int × Int)) × (List (Int × Int)) × (List Int) × Int × Int × Unit) : Option (((List (Int × Int)) × (List (Int × Int)) × (List Int) × Int × Int × Unit) ⊕ (((List (Int × Int)) × Unit) ⊕ ((List (Int × Int)) × Bool × Unit))) :=
  (if (decide (v.2.2.2.2.1 < v.2.2.2.1)) = true then ((getI v.2.2.1 v.2.2.2.2.1).bind fun y1 => ((F49 y1 0 (w64 ((v.1.length : Int) - 1))).bind fun r2 => (if (!r2) = true then (some (.inr (.inr ([], false, ())))) else ((getI v.1 y1).bind fun y3 => ((appL v.2.1 [y3]).bind fun z4 => (some (.inl (v.1, z4, v.2.2.1, v.2.2.2.1, (w64 (v.2.2.2.2.1 + 1)), ())))))))) else (some (.inr (.inl (v.2.1, ())))))
def F145 (L : Nat) (a0 : List (Int × Int)) (a1 : List Int) : Option ((List (Int × Int)) × Bool) :=
  ((iterS (F145_l0 L) L (a0, [], a1, (a1.length : Int), 0, ())).bind fun v5 => (Sum.elim (fun v6 => (some (v6.1, true))) (fun v7 => (some (v7.1, v7.2.1))) v5))
-- impl.ValidPoint
def F205 (a0 : Int × Int) : Option (Bool) :=
  ((F49 a0.1 0 20000).bind fun r1 => (if r1 = true then ((F49 a0.2 0 20000).bind fun r2 => (some r2)) else (some false)))
-- impl.validPoints
def F175_l0 (L : Nat) (v : (List (Int × Int)) × Int × Int × Unit) : Option (((List (Int × Int)) × Int × Int × Unit) ⊕ ((Unit) ⊕ (Bool × Unit))) :=
  (if (decide (v.2.2.1 < v.2.1)) = true then ((getI v.1 v.2.2.1).bind fun y1 => ((F205 y1).bind fun r2 => (if (!r2) = true then (some (.inr (.inr (false, ())))) else (some (.inl (v.1, v.2.1, (w64 (v.2.2.1 + 1)), ())))))) else (some (.inr (.inl ()))))
def F175 (L : Nat) (a0 : List (Int × Int)) : Option (Bool) :=
  ((iterS (F175_l0 L) L (a0, (a0.length : Int), 0, ())).bind fun v3 => (Sum.elim (fun v4 => (some true)) (fun v5 => (some v5.1)) v3))
-- impl.side
def F206 (a0 : Int × Int) (a1 : Int × Int) (a2 : Int × Int) : Option (Int) :=
  (if (decide ((w64 ((w64 ((w64 (a1.1 - a0.1)) * (w64 (a2.2 - a0.2)))) - (w64 ((w64 (a1.2 - a0.2)) * (w64 (a2.1 - a0.1)))))) > 0)) = true then (some 1) else (if (decide ((w64 ((w64 ((w64 (a1.1 - a0.1)) * (w64 (a2.2 - a0.2)))) - (w64 ((w64 (a1.2 - a0.2)) * (w64 (a2.1 - a0.1)))))) < 0)) = true then (some (-1)) else (some 0)))
-- impl.on
def F176 (a0 : Int × Int) (a1 : Int × Int) (a2 : Int × Int) : Option (Bool) :=
  ((F206 a0 a1 a2).bind fun r1 => (if (r1 == 0) = true then ((F49 a2.1 (mn a0.1 a1.1) (mx a0.1 a1.1)).bind fun r2 => (if r2 = true then ((F49 a2.2 (mn a0.2 a1.2) (mx a0.2 a1.2)).bind fun r3 => (some r3)) else (some false))) else (some false)))
-- impl.crossing
def F207 (a0 : Int × Int) (a1 : Int × Int) (a2 : Int × Int) (a3 : Int × Int) : Option (Bool) :=
  ((F206 a0 a1 a2).bind fun r1 => ((F206 a0 a1 a3).bind fun r2 => (if (decide ((w64 (r1 * r2)) < 0)) = true then ((F206 a2 a3 a0).bind fun r3 => ((F206 a2 a3 a1).bind fun r4 => (some (decide ((w64 (r3 * r4)) < 0))))) else (some false))))
-- impl.touching
def F177 (a0 : Int × Int) (a1 : Int × Int) (a2 : Int × Int) (a3 : Int × Int) : Option (Bool) :=
  ((F207 a0 a1 a2 a3).bind fun r1 => (if r1 = true then (some true) else ((F176 a0 a1 a2).bind fun r2 => (if r2 = true then (some true) else ((F176 a0 a1 a3).bind fun r3 => (if r3 = true then (some true) else ((F176 a2 a3 a0).bind fun r4 => (if r4 = true then (some true) else ((F176 a2 a3 a1).bind fun r5 => (some r5))))))))))
-- impl.doubled
def F178_l0 (L : Nat) (v : (List (Int × Int)) × Int × (List (Int × Int)) × Int × Int × Unit) : Option (((List (Int × Int)) × Int × (List (Int × Int)) × Int × Int × Unit) ⊕ ((Int × Unit))) :=
  (if (decide (v.2.2.2.2.1 < v.2.2.2.1)) = true then ((getI v.2.2.1 v.2.2.2.2.1).bind fun y1 => (if (v.1.length : Int) = 0 then none else ((getI v.1 (Int.tmod (w64 (v.2.2.2.2.1 + 1)) (v.1.length : Int))).bind fun y2 => (some (.inl (v.1, (w64 (v.2.1 + (w64 ((w64 (y1.1 * y2.2)) - (w64 (y1.2 * y2.1)))))), v.2.2.1, v.2.2.2.1, (w64 (v.2.2.2.2.1 + 1)), ())))))) else (some (.inr (v.2.1, ()))))
def F178 (L : Nat) (a0 : List (Int × Int)) : Option (Int) :=
  ((iterS (F178_l0 L) L (a0, 0, a0, (a0.length : Int), 0, ())).bind fun v3 => (some v3.1))
-- impl.ValidPolygon
def F146_l0 (L : Nat) (v : (List (Int × Int)) × Int × Int × Int × Int × Int × (Int × Int × Unit) × (Int × Int × Unit) × Unit) : Option (((List (Int × Int)) × Int × Int × Int × Int × Int × (Int × Int × Unit) × (Int × Int × Unit) × Unit) ⊕ (((List (Int × Int)) × Int × Int × Int × Unit) ⊕ (Bool × Unit))) :=
  (if (decide (v.2.2.2.1 < v.2.1)) = true then (if v.2.1 = 0 then none else (if ((Int.tmod (w64 (v.2.2.2.1 + 1)) v.2.1) != v.2.2.1) = true then ((getI v.1 v.2.2.2.1).bind fun y7 => (if v.2.1 = 0 then none else ((getI v.1 (Int.tmod (w64 (v.2.2.2.1 + 1)) v.2.1)).bind fun y8 => ((F177 (v.2.2.2.2.2.2.1.1, v.2.2.2.2.2.2.1.2.1) (v.2.2.2.2.2.2.2.1.1, v.2.2.2.2.2.2.2.1.2.1) y7 y8).bind fun r9 => (if r9 = true then (some (.inr (.inr (false, ())))) else (some (.inl (v.1, v.2.1, v.2.2.1, (w64 (v.2.2.2.1 + 1)), v.2.2.2.2.1, v.2.2.2.2.2.1, (v.2.2.2.2.2.2.1.1, v.2.2.2.2.2.2.1.2.1, ()), (v.2.2.2.2.2.2.2.1.1, v.2.2.2.2.2.2.2.1.2.1, ()), ())))))))) else (some (.inl (v.1, v.2.1, v.2.2.1, (w64 (v.2.2.2.1 + 1)), v.2.2.2.2.1, v.2.2.2.2.2.1, (v.2.2.2.2.2.2.1.1, v.2.2.2.2.2.2.1.2.1, ()), (v.2.2.2.2.2.2.2.1.1, v.2.2.2.2.2.2.2.1.2.1, ()), ()))))) else (some (.inr (.inl (v.1, v.2.1, v.2.2.2.2.1, v.2.2.2.2.2.1, ())))))
def F146_l1 (L : Nat) (v : (List (Int × Int)) × Int × Int × Int × Unit) : Option (((List (Int × Int)) × Int × Int × Int × Unit) ⊕ (((List (Int × Int)) × Unit) ⊕ (Bool × Unit))) :=
  (if (decide (v.2.2.2.1 < v.2.2.1)) = true then ((getI v.1 v.2.2.2.1).bind fun y2 => (if v.2.1 = 0 then none else ((getI v.1 (Int.tmod (w64 (v.2.2.2.1 + 1)) v.2.1)).bind fun y3 => (if v.2.1 = 0 then none else ((getI v.1 (Int.tmod (w64 (v.2.2.2.1 + 2)) v.2.1)).bind fun y4 => (if ((y2.1 == y3.1) && ((y2.2 == y3.2) && true)) = true then (some (.inr (.inr (false, ())))) else ((F176 y2 y3 y4).bind fun r5 => (if r5 = true then (some (.inr (.inr (false, ())))) else ((F176 y3 y4 y2).bind fun r6 => (if r6 = true then (some (.inr (.inr (false, ())))) else ((iterS (F146_l0 L) L (v.1, v.2.1, v.2.2.2.1, (w64 (v.2.2.2.1 + 2)), v.2.2.1, v.2.2.2.1, (y2.1, y2.2, ()), (y3.1, y3.2, ()), ())).bind fun v10 => (Sum.elim (fun v11 => (some (.inl (v11.1, v11.2.1, v11.2.2.1, (w64 (v11.2.2.2.1 + 1)), ())))) (fun v12 => (some (.inr (.inr (v12.1, ()))))) v10)))))))))))) else (some (.inr (.inl (v.1, ())))))
def F146 (L : Nat) (a0 : List (Int × Int)) : Option (Bool) :=
  (if (decide ((a0.length : Int) < 3)) = true then (some false) else (if (decide ((a0.length : Int) > 24)) = true then (some false) else ((F175 L a0).bind fun r1 => (if (!r1) = true then (some false) else ((iterS (F146_l1 L) L (a0, (a0.length : Int), (a0.length : Int), 0, ())).bind fun v13 => (Sum.elim (fun v14 => ((F178 L v14.1).bind fun r16 => (some (decide (r16 > 0))))) (fun v15 => (some v15.1)) v13))))))
-- impl.ValidDrawing
def F98_l0 (L : Nat) (v : (Int × Int × (List (Int × Int)) × List (ByteArray × List Int)) × (List (Int × Int)) × Int × Int × Unit) : Option (((Int × Int × (List (Int × Int)) × List (ByteArray × List Int)) × (List (Int × Int)) × Int × Int × Unit) ⊕ (((Int × Int × (List (Int × Int)) × List (ByteArray × List Int)) × Unit) ⊕ (Bool × Unit))) :=
  (if (decide (v.2.2.2.1 < v.2.2.1)) = true then ((getI v.2.1 v.2.2.2.1).bind fun y3 => ((F49 y3.1 0 v.1.1).bind fun r4 => (if (!r4) = true then (some (.inr (.inr (false, ())))) else ((F49 y3.2 0 v.1.2.1).bind fun r5 => (if (!r5) = true then (some (.inr (.inr (false, ())))) else (if 0 ≤ v.2.2.2.1 then ((cutL v.1.2.2.1 0 (Int.toNat v.2.2.2.1)).bind fun c6 => ((F143 L c6 y3).bind fun r7 => (if r7 = true then (some (.inr (.inr (false, ())))) else (some (.inl (v.1, v.2.1, v.2.2.1, (w64 (v.2.2.2.1 + 1)), ())))))) else none)))))) else (some (.inr (.inl (v.1, ())))))
def F98_l1 (L : Nat) (v : (Int × Int × (List (Int × Int)) × List (ByteArray × List Int)) × (List (ByteArray × List Int)) × Int × Int × Unit) : Option (((Int × Int × (List (Int × Int)) × List (ByteArray × List Int)) × (List (ByteArray × List Int)) × Int × Int × Unit) ⊕ ((Unit) ⊕ (Bool × Unit))) :=
  (if (decide (v.2.2.2.1 < v.2.2.1)) = true then ((getI v.2.1 v.2.2.2.1).bind fun y11 => ((((F144 L y11.1).bind fun r12 => (if (!r12) = true then (some (.inr (false, ()))) else (if (decide (v.2.2.2.1 > 0)) = true then ((getI v.1.2.2.2 (w64 (v.2.2.2.1 - 1))).bind fun y13 => (if (!strLt y13.1 y11.1) = true then (some (.inr (false, ()))) else (some (.inl (v.1, v.2.1, v.2.2.1, v.2.2.2.1, (y11.1, y11.2, ()), ()))))) else (some (.inl (v.1, v.2.1, v.2.2.1, v.2.2.2.1, (y11.1, y11.2, ()), ())))))) : Option (((Int × Int × (List (Int × Int)) × List (ByteArray × List Int)) × (List (ByteArray × List Int)) × Int × Int × (ByteArray × (List Int) × Unit) × Unit) ⊕ (Bool × Unit))).bind fun v14 => (Sum.elim (fun v15 => ((F145 L v15.1.2.2.1 v15.2.2.2.2.1.2.1).bind fun r17 => (if (!r17.2) = true then (some (.inr (.inr (false, ())))) else ((F146 L r17.1).bind fun r18 => (if (!r18) = true then (some (.inr (.inr (false, ())))) else (some (.inl (v15.1, v15.2.1, v15.2.2.1, (w64 (v15.2.2.2.1 + 1)), ())))))))) (fun v16 => (some (.inr (.inr (v16.1, ()))))) v14))) else (some (.inr (.inl ()))))
def F98 (L : Nat) (a0 : Int × Int × (List (Int × Int)) × List (ByteArray × List Int)) : Option (Bool) :=
  ((F49 a0.1 10 20000).bind fun r1 => (if (!r1) = true then (some false) else ((F49 a0.2.1 10 20000).bind fun r2 => (if (!r2) = true then (some false) else (if (decide ((a0.2.2.1.length : Int) > 48)) = true then (some false) else (if (decide ((a0.2.2.2.length : Int) > 24)) = true then (some false) else ((iterS (F98_l0 L) L (a0, a0.2.2.1, (a0.2.2.1.length : Int), 0, ())).bind fun v8 => (Sum.elim (fun v9 => ((iterS (F98_l1 L) L (v9.1, v9.1.2.2.2, (v9.1.2.2.2.length : Int), 0, ())).bind fun v19 => (Sum.elim (fun v20 => (some true)) (fun v21 => (some v21.1)) v19))) (fun v10 => (some v10.1)) v8))))))))
-- impl.SpeciesData
def F208 (a0 : ByteArray) : Option (Int × Int × Int × Int) :=
  (if (strEq a0 (⟨#[97, 115, 104]⟩ : ByteArray)) = true then (some (20, 40, 310, 0)) else (if (strEq a0 (⟨#[98, 101, 101, 99, 104]⟩ : ByteArray)) = true then (some (35, 45, 410, 0)) else (if (strEq a0 (⟨#[98, 105, 114, 99, 104]⟩ : ByteArray)) = true then (some (15, 33, 280, 0)) else (if (strEq a0 (⟨#[99, 104, 101, 114, 114, 121]⟩ : ByteArray)) = true then (some (50, 36, 240, 0)) else (if (strEq a0 (⟨#[101, 98, 111, 110, 121]⟩ : ByteArray)) = true then (some (95, 85, 270, 0)) else (if (strEq a0 (⟨#[104, 111, 108, 108, 121]⟩ : ByteArray)) = true then (some (5, 35, 370, 0)) else (if (strEq a0 (⟨#[109, 97, 112, 108, 101]⟩ : ByteArray)) = true then (some (10, 42, 290, 0)) else (if (strEq a0 (⟨#[111, 97, 107]⟩ : ByteArray)) = true then (some (40, 40, 330, 0)) else (if (strEq a0 (⟨#[114, 111, 115, 101, 119, 111, 111, 100]⟩ : ByteArray)) = true then (some (80, 60, 220, 0)) else (if (strEq a0 (⟨#[119, 97, 108, 110, 117, 116]⟩ : ByteArray)) = true then (some (70, 38, 260, 0)) else (some (0, 0, 0, 3))))))))))))
-- impl.speciesShade
def F180 (a0 : ByteArray) : Option (Int × Bool) :=
  ((F208 a0).bind fun r1 => (some (r1.1, (r1.2.2.2 == 0))))
-- impl.ValidVeneer
def F149 (a0 : ByteArray × Int × Int) : Option (Bool) :=
  ((F180 a0.1).bind fun r1 => (if r1.2 = true then ((F49 a0.2.1 0 100).bind fun r2 => (if r2 = true then ((F49 (w64 (a0.2.1 - r1.1)) (-15) 15).bind fun r3 => (if r3 = true then ((F49 a0.2.2 0 179).bind fun r4 => (some r4)) else (some false))) else (some false))) else (some false)))
-- impl.validVeneers$1
def F148 (a0 : ByteArray × Int × Int) : Option (Bool) :=
  ((F149 a0).bind fun r1 => (some (!r1)))
-- slices.IndexFunc[[]impl.Veneer,impl.Veneer]
def F179_l0 (L : Nat) (v : (List (ByteArray × Int × Int)) × Int × Int × Unit) : Option (((List (ByteArray × Int × Int)) × Int × Int × Unit) ⊕ ((Unit) ⊕ (Int × Unit))) :=
  (if (decide (v.2.2.1 < v.2.1)) = true then ((getI v.1 v.2.2.1).bind fun y1 => ((F148 y1).bind fun r2 => (if r2 = true then (some (.inr (.inr (v.2.2.1, ())))) else (some (.inl (v.1, v.2.1, (w64 (v.2.2.1 + 1)), ())))))) else (some (.inr (.inl ()))))
def F179 (L : Nat) (a0 : List (ByteArray × Int × Int)) : Option (Int) :=
  ((iterS (F179_l0 L) L (a0, (a0.length : Int), 0, ())).bind fun v3 => (Sum.elim (fun v4 => (some (-1))) (fun v5 => (some v5.1)) v3))
-- slices.ContainsFunc[[]impl.Veneer,impl.Veneer]
def F147 (L : Nat) (a0 : List (ByteArray × Int × Int)) : Option (Bool) :=
  ((F179 L a0).bind fun r1 => (some (decide (r1 ≥ 0))))
-- impl.validVeneers
def F99 (L : Nat) (a0 : List (ByteArray × Int × Int)) : Option (Bool) :=
  ((F147 L a0).bind fun r1 => (some (!r1)))
-- impl.ValidPicture
def F45 (L : Nat) (a0 : (Int × Int × (List (Int × Int)) × List (ByteArray × List Int)) × List (ByteArray × Int × Int)) : Option (Bool) :=
  ((F98 L a0.1).bind fun r1 => (if r1 = true then (if ((a0.2.length : Int) == (a0.1.2.2.2.length : Int)) = true then ((F99 L a0.2).bind fun r2 => (some r2)) else (some false)) else (some false)))
-- impl.boxWithin
def F152 (a0 : Int × Int × Int × Int) (a1 : Int) (a2 : Int) : Option (Bool) :=
  ((F49 a0.1 0 a1).bind fun r1 => (if r1 = true then ((F49 a0.2.1 0 a2).bind fun r2 => (if r2 = true then ((F49 a0.2.2.1 1 (w64 (a1 - a0.1))).bind fun r3 => (if r3 = true then ((F49 a0.2.2.2 1 (w64 (a2 - a0.2.1))).bind fun r4 => (some r4)) else (some false))) else (some false))) else (some false)))
-- impl.ValidLeaf$1
def F151 (a0 : Int × Int × Int × Int) (a1 : ByteArray × ByteArray × Int × ByteArray × Int × Int × Int × Int × List (Int × Int × Int × Int)) : Option (Bool) :=
  ((F152 a0 a1.2.2.2.2.2.2.1 a1.2.2.2.2.2.2.2.1).bind fun r1 => (some (!r1)))
-- slices.IndexFunc[[]impl.Box,impl.Box]
def F181_l0 (L : Nat) (v : (List (Int × Int × Int × Int)) × (ByteArray × ByteArray × Int × ByteArray × Int × Int × Int × Int × List (Int × Int × Int × Int)) × Int × Int × Unit) : Option (((List (Int × Int × Int × Int)) × (ByteArray × ByteArray × Int × ByteArray × Int × Int × Int × Int × List (Int × Int × Int × Int)) × Int × Int × Unit) ⊕ ((Unit) ⊕ (Int × Unit))) :=
  (if (decide (v.2.2.2.1 < v.2.2.1)) = true then ((getI v.1 v.2.2.2.1).bind fun y1 => ((F151 y1 v.2.1).bind fun r2 => (if r2 = true then (some (.inr (.inr (v.2.2.2.1, ())))) else (some (.inl (v.1, v.2.1, v.2.2.1, (w64 (v.2.2.2.1 + 1)), ())))))) else (some (.inr (.inl ()))))
def F181 (L : Nat) (a0 : List (Int × Int × Int × Int)) (a1 : ByteArray × ByteArray × Int × ByteArray × Int × Int × Int × Int × List (Int × Int × Int × Int)) : Option (Int) :=
  ((iterS (F181_l0 L) L (a0, a1, (a0.length : Int), 0, ())).bind fun v3 => (Sum.elim (fun v4 => (some (-1))) (fun v5 => (some v5.1)) v3))
-- slices.ContainsFunc[[]impl.Box,impl.Box]
def F150 (L : Nat) (a0 : List (Int × Int × Int × Int)) (a1 : ByteArray × ByteArray × Int × ByteArray × Int × Int × Int × Int × List (Int × Int × Int × Int)) : Option (Bool) :=
  ((F181 L a0 a1).bind fun r1 => (some (decide (r1 ≥ 0))))
-- impl.ValidLeaf
def F100 (L : Nat) (a0 : ByteArray × ByteArray × Int × (ByteArray × Int × Int) × Int × Int × List (Int × Int × Int × Int)) : Option (Bool) :=
  ((F144 L a0.1).bind fun r1 => (if (!r1) = true then (some false) else ((F144 L a0.2.1).bind fun r2 => (if (!r2) = true then (some false) else ((F49 a0.2.2.1 0 999).bind fun r3 => (if (!r3) = true then (some false) else ((F149 a0.2.2.2.1).bind fun r4 => (if (!r4) = true then (some false) else ((F49 a0.2.2.2.2.1 10 20000).bind fun r5 => (if (!r5) = true then (some false) else ((F49 a0.2.2.2.2.2.1 10 20000).bind fun r6 => (if (!r6) = true then (some false) else (if (decide ((a0.2.2.2.2.2.2.length : Int) > 6)) = true then (some false) else ((F150 L a0.2.2.2.2.2.2 (a0.1, a0.2.1, a0.2.2.1, a0.2.2.2.1.1, a0.2.2.2.1.2.1, a0.2.2.2.1.2.2, a0.2.2.2.2)).bind fun r7 => (some (!r7))))))))))))))))
-- impl.ValidLeaves
def F46_l0 (L : Nat) (v : (List (ByteArray × ByteArray × Int × (ByteArray × Int × Int) × Int × Int × List (Int × Int × Int × Int))) × (List (ByteArray × ByteArray × Int × (ByteArray × Int × Int) × Int × Int × List (Int × Int × Int × Int))) × Int × Int × Unit) : Option (((List (ByteArray × ByteArray × Int × (ByteArray × Int × Int) × Int × Int × List (Int × Int × Int × Int))) × (List (ByteArray × ByteArray × Int × (ByteArray × Int × Int) × Int × Int × List (Int × Int × Int × Int))) × Int × Int × Unit) ⊕ (((List (ByteArray × ByteArray × Int × (ByteArray × Int × Int) × Int × Int × List (Int × Int × Int × Int))) × Unit) ⊕ (Bool × Unit))) :=
  (if (decide (v.2.2.2.1 < v.2.2.1)) = true then ((getI v.2.1 v.2.2.2.1).bind fun y1 => ((F100 L y1).bind fun r2 => (if (!r2) = true then (some (.inr (.inr (false, ())))) else (if (decide (v.2.2.2.1 > 0)) = true then ((getI v.1 (w64 (v.2.2.2.1 - 1))).bind fun y3 => (if (!strLt y3.1 y1.1) = true then (some (.inr (.inr (false, ())))) else (some (.inl (v.1, v.2.1, v.2.2.1, (w64 (v.2.2.2.1 + 1)), ()))))) else (some (.inl (v.1, v.2.1, v.2.2.1, (w64 (v.2.2.2.1 + 1)), ()))))))) else (some (.inr (.inl (v.1, ())))))
def F46 (L : Nat) (a0 : List (ByteArray × ByteArray × Int × (ByteArray × Int × Int) × Int × Int × List (Int × Int × Int × Int))) : Option (Bool) :=
  ((iterS (F46_l0 L) L (a0, a0, (a0.length : Int), 0, ())).bind fun v4 => (Sum.elim (fun v5 => (some (decide ((v5.1.length : Int) ≤ 16)))) (fun v6 => (some v6.1)) v4))
-- impl.validPlacement
def F101 (a0 : Int × Int × Int × Int × Int) : Option (Bool) :=
  ((F49 a0.1 0 23).bind fun r1 => (if r1 = true then ((F49 a0.2.1 0 15).bind fun r2 => (if r2 = true then ((F49 a0.2.2.1 0 20000).bind fun r3 => (if r3 = true then ((F49 a0.2.2.2.1 0 20000).bind fun r4 => (if r4 = true then ((F49 a0.2.2.2.2 0 7).bind fun r5 => (some r5)) else (some false))) else (some false))) else (some false))) else (some false)))
-- impl.ValidPlacements
def F47_l0 (L : Nat) (v : (List (Int × Int × Int × Int × Int)) × (List (Int × Int × Int × Int × Int)) × Int × Int × Unit) : Option (((List (Int × Int × Int × Int × Int)) × (List (Int × Int × Int × Int × Int)) × Int × Int × Unit) ⊕ (((List (Int × Int × Int × Int × Int)) × Unit) ⊕ (Bool × Unit))) :=
  (if (decide (v.2.2.2.1 < v.2.2.1)) = true then ((getI v.2.1 v.2.2.2.1).bind fun y1 => ((F101 y1).bind fun r2 => (if (!r2) = true then (some (.inr (.inr (false, ())))) else (if (decide (v.2.2.2.1 > 0)) = true then ((getI v.1 (w64 (v.2.2.2.1 - 1))).bind fun y3 => (if (decide (y3.1 ≥ y1.1)) = true then (some (.inr (.inr (false, ())))) else (some (.inl (v.1, v.2.1, v.2.2.1, (w64 (v.2.2.2.1 + 1)), ()))))) else (some (.inl (v.1, v.2.1, v.2.2.1, (w64 (v.2.2.2.1 + 1)), ()))))))) else (some (.inr (.inl (v.1, ())))))
def F47 (L : Nat) (a0 : List (Int × Int × Int × Int × Int)) : Option (Bool) :=
  ((iterS (F47_l0 L) L (a0, a0, (a0.length : Int), 0, ())).bind fun v4 => (Sum.elim (fun v5 => (some (decide ((v5.1.length : Int) ≤ 24)))) (fun v6 => (some v6.1)) v4))
-- impl.ValidRules
def F48 (a0 : Int × Int × Int × Int) : Option (Bool) :=
  ((F49 a0.1 0 500).bind fun r1 => (if r1 = true then ((F49 a0.2.1 0 500).bind fun r2 => (if r2 = true then ((F49 a0.2.2.1 0 90).bind fun r3 => (if r3 = true then ((F49 a0.2.2.2 0 100).bind fun r4 => (some r4)) else (some false))) else (some false))) else (some false)))
-- slices.Index[[]int64,int64]
def F153_l0 (L : Nat) (v : (List Int) × Int × Int × Int × Unit) : Option (((List Int) × Int × Int × Int × Unit) ⊕ ((Unit) ⊕ (Int × Unit))) :=
  (if (decide (v.2.2.2.1 < v.2.2.1)) = true then ((getI v.1 v.2.2.2.1).bind fun y1 => (if (v.2.1 == y1) = true then (some (.inr (.inr (v.2.2.2.1, ())))) else (some (.inl (v.1, v.2.1, v.2.2.1, (w64 (v.2.2.2.1 + 1)), ()))))) else (some (.inr (.inl ()))))
def F153 (L : Nat) (a0 : List Int) (a1 : Int) : Option (Int) :=
  ((iterS (F153_l0 L) L (a0, a1, (a0.length : Int), 0, ())).bind fun v2 => (Sum.elim (fun v3 => (some (-1))) (fun v4 => (some v4.1)) v2))
-- slices.Contains[[]int64,int64]
def F102 (L : Nat) (a0 : List Int) (a1 : Int) : Option (Bool) :=
  ((F153 L a0 a1).bind fun r1 => (some (decide (r1 ≥ 0))))
-- impl.isFaceOrder
def F50_l0 (L : Nat) (v : (List Int) × Int × (List Int) × Int × Int × Unit) : Option (((List Int) × Int × (List Int) × Int × Int × Unit) ⊕ ((Unit) ⊕ (Bool × Unit))) :=
  (if (decide (v.2.2.2.2.1 < v.2.2.2.1)) = true then ((getI v.2.2.1 v.2.2.2.2.1).bind fun y1 => ((F49 y1 0 (w64 (v.2.1 - 1))).bind fun r2 => (if (!r2) = true then (some (.inr (.inr (false, ())))) else (if 0 ≤ v.2.2.2.2.1 then ((cutL v.1 0 (Int.toNat v.2.2.2.2.1)).bind fun c3 => ((F102 L c3 y1).bind fun r4 => (if r4 = true then (some (.inr (.inr (false, ())))) else (some (.inl (v.1, v.2.1, v.2.2.1, v.2.2.2.1, (w64 (v.2.2.2.2.1 + 1)), ())))))) else none)))) else (some (.inr (.inl ()))))
def F50 (L : Nat) (a0 : List Int) (a1 : Int) : Option (Bool) :=
  ((iterS (F50_l0 L) L (a0, a1, a0, (a0.length : Int), 0, ())).bind fun v5 => (Sum.elim (fun v6 => (some true)) (fun v7 => (some v7.1)) v5))
-- impl.ValidJob
def F11 (L : Nat) (a0 : ((Int × Int × (List (Int × Int)) × List (ByteArray × List Int)) × List (ByteArray × Int × Int)) × (List (ByteArray × ByteArray × Int × (ByteArray × Int × Int) × Int × Int × List (Int × Int × Int × Int))) × (List (Int × Int × Int × Int × Int)) × (Int × Int × Int × Int) × Int × Int × Int × Int × (List Int) × List Int) : Option (Bool) :=
  ((F45 L a0.1).bind fun r1 => (if (!r1) = true then (some false) else ((F46 L a0.2.1).bind fun r2 => (if (!r2) = true then (some false) else ((F47 L a0.2.2.1).bind fun r3 => (if (!r3) = true then (some false) else ((F48 a0.2.2.2.1).bind fun r4 => (if (!r4) = true then (some false) else (((if (decide ((a0.2.2.1.length : Int) > 0)) = true then ((getI a0.2.2.1 (w64 ((a0.2.2.1.length : Int) - 1))).bind fun y5 => (if (decide (y5.1 ≥ (a0.1.2.length : Int))) = true then (some (.inr (false, ()))) else (some (.inl (a0, (a0.1.2.length : Int), ()))))) else (some (.inl (a0, (a0.1.2.length : Int), ())))) : Option (((((Int × Int × (List (Int × Int)) × List (ByteArray × List Int)) × List (ByteArray × Int × Int)) × (List (ByteArray × ByteArray × Int × (ByteArray × Int × Int) × Int × Int × List (Int × Int × Int × Int))) × (List (Int × Int × Int × Int × Int)) × (Int × Int × Int × Int) × Int × Int × Int × Int × (List Int) × List Int) × Int × Unit) ⊕ (Bool × Unit))).bind fun v6 => (Sum.elim (fun v7 => ((F49 v7.1.2.2.2.2.1 1 1000).bind fun r9 => (if r9 = true then ((F49 v7.1.2.2.2.2.2.1 0 200).bind fun r10 => (if r10 = true then ((F49 v7.1.2.2.2.2.2.2.1 0 30).bind fun r11 => (if r11 = true then ((F49 v7.1.2.2.2.2.2.2.2.1 0 200).bind fun r12 => (if r12 = true then ((F50 L v7.1.2.2.2.2.2.2.2.2.1 v7.2.1).bind fun r13 => (some r13)) else (some false))) else (some false))) else (some false))) else (some false)))) (fun v8 => (some v8.1)) v6))))))))))
-- impl.ValidBond
def F132 (L : Nat) (a0 : ByteArray × Int × Int × Int) : Option (Bool) :=
  ((F144 L a0.1).bind fun r1 => (if r1 = true then ((F49 a0.2.1 1 120).bind fun r2 => (if r2 = true then ((F49 a0.2.2.1 a0.2.1 240).bind fun r3 => (if r3 = true then ((F49 a0.2.2.2 1 1440).bind fun r4 => (some r4)) else (some false))) else (some false))) else (some false)))
-- impl.ValidBonds
def F80_l0 (L : Nat) (v : (List (ByteArray × Int × Int × Int)) × (List (ByteArray × Int × Int × Int)) × Int × Int × Unit) : Option (((List (ByteArray × Int × Int × Int)) × (List (ByteArray × Int × Int × Int)) × Int × Int × Unit) ⊕ (((List (ByteArray × Int × Int × Int)) × Unit) ⊕ (Bool × Unit))) :=
  (if (decide (v.2.2.2.1 < v.2.2.1)) = true then ((getI v.2.1 v.2.2.2.1).bind fun y1 => ((F132 L y1).bind fun r2 => (if (!r2) = true then (some (.inr (.inr (false, ())))) else (if (decide (v.2.2.2.1 > 0)) = true then ((getI v.1 (w64 (v.2.2.2.1 - 1))).bind fun y3 => (if (!strLt y3.1 y1.1) = true then (some (.inr (.inr (false, ())))) else (some (.inl (v.1, v.2.1, v.2.2.1, (w64 (v.2.2.2.1 + 1)), ()))))) else (some (.inl (v.1, v.2.1, v.2.2.1, (w64 (v.2.2.2.1 + 1)), ()))))))) else (some (.inr (.inl (v.1, ())))))
def F80 (L : Nat) (a0 : List (ByteArray × Int × Int × Int)) : Option (Bool) :=
  ((iterS (F80_l0 L) L (a0, a0, (a0.length : Int), 0, ())).bind fun v4 => (Sum.elim (fun v5 => (some (decide ((v5.1.length : Int) ≤ 12)))) (fun v6 => (some v6.1)) v4))
-- impl.ValidCoat
def F135 (L : Nat) (a0 : ByteArray × Int × Int × Int) : Option (Bool) :=
  ((F144 L a0.1).bind fun r1 => (if r1 = true then ((F49 a0.2.1 1 32).bind fun r2 => (if r2 = true then ((F49 a0.2.2.1 0 400).bind fun r3 => (if r3 = true then ((F49 a0.2.2.2 a0.2.2.1 800).bind fun r4 => (some r4)) else (some false))) else (some false))) else (some false)))
-- impl.ValidCoats$1
def F134 (L : Nat) (a0 : ByteArray × Int × Int × Int) : Option (Bool) :=
  ((F135 L a0).bind fun r1 => (some (!r1)))
-- slices.IndexFunc[[]impl.Coat,impl.Coat]
def F170_l0 (L : Nat) (v : (List (ByteArray × Int × Int × Int)) × Int × Int × Unit) : Option (((List (ByteArray × Int × Int × Int)) × Int × Int × Unit) ⊕ ((Unit) ⊕ (Int × Unit))) :=
  (if (decide (v.2.2.1 < v.2.1)) = true then ((getI v.1 v.2.2.1).bind fun y1 => ((F134 L y1).bind fun r2 => (if r2 = true then (some (.inr (.inr (v.2.2.1, ())))) else (some (.inl (v.1, v.2.1, (w64 (v.2.2.1 + 1)), ())))))) else (some (.inr (.inl ()))))
def F170 (L : Nat) (a0 : List (ByteArray × Int × Int × Int)) : Option (Int) :=
  ((iterS (F170_l0 L) L (a0, (a0.length : Int), 0, ())).bind fun v3 => (Sum.elim (fun v4 => (some (-1))) (fun v5 => (some v5.1)) v3))
-- slices.ContainsFunc[[]impl.Coat,impl.Coat]
def F133 (L : Nat) (a0 : List (ByteArray × Int × Int × Int)) : Option (Bool) :=
  ((F170 L a0).bind fun r1 => (some (decide (r1 ≥ 0))))
-- impl.ValidCoats
def F81 (L : Nat) (a0 : List (ByteArray × Int × Int × Int)) : Option (Bool) :=
  (if (decide ((a0.length : Int) ≤ 8)) = true then ((F133 L a0).bind fun r1 => (some (!r1))) else (some false))
-- impl.ValidRates
def F82 (a0 : Int × Int × Int × Int × Int) : Option (Bool) :=
  ((F49 a0.1 0 100000).bind fun r1 => (if r1 = true then ((F49 a0.2.1 0 1000).bind fun r2 => (if r2 = true then ((F49 a0.2.2.1 0 1000).bind fun r3 => (if r3 = true then ((F49 a0.2.2.2.1 0 300).bind fun r4 => (if r4 = true then ((F49 a0.2.2.2.2 0 200).bind fun r5 => (some r5)) else (some false))) else (some false))) else (some false))) else (some false)))
-- impl.ValidDesk
def F33 (L : Nat) (a0 : (((Int × Int × (List (Int × Int)) × List (ByteArray × List Int)) × List (ByteArray × Int × Int)) × (List (ByteArray × ByteArray × Int × (ByteArray × Int × Int) × Int × Int × List (Int × Int × Int × Int))) × (List (Int × Int × Int × Int × Int)) × (Int × Int × Int × Int) × Int × Int × Int × Int × (List Int) × List Int) × (List (ByteArray × Int × Int × Int)) × (List (ByteArray × Int × Int × Int)) × Int × Int × Int × Int × Int) : Option (Bool) :=
  ((F11 L a0.1).bind fun r1 => (if r1 = true then ((F80 L a0.2.1).bind fun r2 => (if r2 = true then ((F81 L a0.2.2.1).bind fun r3 => (if r3 = true then ((F82 a0.2.2.2).bind fun r4 => (some r4)) else (some false))) else (some false))) else (some false)))
-- laws.eqPoint
def F123 (a0 : Int × Int) (a1 : Int × Int) : Option (Bool) :=
  (if (a0.1 != a1.1) = true then (some false) else (if (a0.2 != a1.2) = true then (some false) else (some true)))
-- laws.eqPointS
def F68_l0 (L : Nat) (v : (List (Int × Int)) × (List (Int × Int)) × Int × Unit) : Option (((List (Int × Int)) × (List (Int × Int)) × Int × Unit) ⊕ ((Unit) ⊕ (Bool × Unit))) :=
  (if (decide (v.2.2.1 < (v.1.length : Int))) = true then ((getI v.1 v.2.2.1).bind fun y1 => ((getI v.2.1 v.2.2.1).bind fun y2 => ((F123 y1 y2).bind fun r3 => (if (!r3) = true then (some (.inr (.inr (false, ())))) else (some (.inl (v.1, v.2.1, (w64 (v.2.2.1 + 1)), ()))))))) else (some (.inr (.inl ()))))
def F68 (L : Nat) (a0 : List (Int × Int)) (a1 : List (Int × Int)) : Option (Bool) :=
  (if ((a0.length : Int) != (a1.length : Int)) = true then (some false) else ((iterS (F68_l0 L) L (a0, a1, 0, ())).bind fun v4 => (Sum.elim (fun v5 => (some true)) (fun v6 => (some v6.1)) v4)))
-- laws.eqInt64S
def F19_l0 (L : Nat) (v : (List Int) × (List Int) × Int × Unit) : Option (((List Int) × (List Int) × Int × Unit) ⊕ ((Unit) ⊕ (Bool × Unit))) :=
  (if (decide (v.2.2.1 < (v.1.length : Int))) = true then ((getI v.1 v.2.2.1).bind fun y1 => ((getI v.2.1 v.2.2.1).bind fun y2 => (if (y1 != y2) = true then (some (.inr (.inr (false, ())))) else (some (.inl (v.1, v.2.1, (w64 (v.2.2.1 + 1)), ())))))) else (some (.inr (.inl ()))))
def F19 (L : Nat) (a0 : List Int) (a1 : List Int) : Option (Bool) :=
  (if ((a0.length : Int) != (a1.length : Int)) = true then (some false) else ((iterS (F19_l0 L) L (a0, a1, 0, ())).bind fun v3 => (Sum.elim (fun v4 => (some true)) (fun v5 => (some v5.1)) v3)))
-- laws.eqFace
def F124 (L : Nat) (a0 : ByteArray × List Int) (a1 : ByteArray × List Int) : Option (Bool) :=
  (if (!strEq a0.1 a1.1) = true then (some false) else ((F19 L a0.2 a1.2).bind fun r1 => (if (!r1) = true then (some false) else (some true))))
-- laws.eqFaceS
def F69_l0 (L : Nat) (v : (List (ByteArray × List Int)) × (List (ByteArray × List Int)) × Int × Unit) : Option (((List (ByteArray × List Int)) × (List (ByteArray × List Int)) × Int × Unit) ⊕ ((Unit) ⊕ (Bool × Unit))) :=
  (if (decide (v.2.2.1 < (v.1.length : Int))) = true then ((getI v.1 v.2.2.1).bind fun y1 => ((getI v.2.1 v.2.2.1).bind fun y2 => ((F124 L y1 y2).bind fun r3 => (if (!r3) = true then (some (.inr (.inr (false, ())))) else (some (.inl (v.1, v.2.1, (w64 (v.2.2.1 + 1)), ()))))))) else (some (.inr (.inl ()))))
def F69 (L : Nat) (a0 : List (ByteArray × List Int)) (a1 : List (ByteArray × List Int)) : Option (Bool) :=
  (if ((a0.length : Int) != (a1.length : Int)) = true then (some false) else ((iterS (F69_l0 L) L (a0, a1, 0, ())).bind fun v4 => (Sum.elim (fun v5 => (some true)) (fun v6 => (some v6.1)) v4)))
-- laws.eqDrawing
def F20 (L : Nat) (a0 : Int × Int × (List (Int × Int)) × List (ByteArray × List Int)) (a1 : Int × Int × (List (Int × Int)) × List (ByteArray × List Int)) : Option (Bool) :=
  (if (a0.1 != a1.1) = true then (some false) else (if (a0.2.1 != a1.2.1) = true then (some false) else ((F68 L a0.2.2.1 a1.2.2.1).bind fun r1 => (if (!r1) = true then (some false) else ((F69 L a0.2.2.2 a1.2.2.2).bind fun r2 => (if (!r2) = true then (some false) else (some true)))))))
-- laws.eqVeneer
def F70 (a0 : ByteArray × Int × Int) (a1 : ByteArray × Int × Int) : Option (Bool) :=
  (if (!strEq a0.1 a1.1) = true then (some false) else (if (a0.2.1 != a1.2.1) = true then (some false) else (if (a0.2.2 != a1.2.2) = true then (some false) else (some true))))
-- laws.eqVeneerS
def F21_l0 (L : Nat) (v : (List (ByteArray × Int × Int)) × (List (ByteArray × Int × Int)) × Int × Unit) : Option (((List (ByteArray × Int × Int)) × (List (ByteArray × Int × Int)) × Int × Unit) ⊕ ((Unit) ⊕ (Bool × Unit))) :=
  (if (decide (v.2.2.1 < (v.1.length : Int))) = true then ((getI v.1 v.2.2.1).bind fun y1 => ((getI v.2.1 v.2.2.1).bind fun y2 => ((F70 y1 y2).bind fun r3 => (if (!r3) = true then (some (.inr (.inr (false, ())))) else (some (.inl (v.1, v.2.1, (w64 (v.2.2.1 + 1)), ()))))))) else (some (.inr (.inl ()))))
def F21 (L : Nat) (a0 : List (ByteArray × Int × Int)) (a1 : List (ByteArray × Int × Int)) : Option (Bool) :=
  (if ((a0.length : Int) != (a1.length : Int)) = true then (some false) else ((iterS (F21_l0 L) L (a0, a1, 0, ())).bind fun v4 => (Sum.elim (fun v5 => (some true)) (fun v6 => (some v6.1)) v4)))
-- laws.eqPicture
def F51 (L : Nat) (a0 : (Int × Int × (List (Int × Int)) × List (ByteArray × List Int)) × List (ByteArray × Int × Int)) (a1 : (Int × Int × (List (Int × Int)) × List (ByteArray × List Int)) × List (ByteArray × Int × Int)) : Option (Bool) :=
  ((F20 L a0.1 a1.1).bind fun r1 => (if (!r1) = true then (some false) else ((F21 L a0.2 a1.2).bind fun r2 => (if (!r2) = true then (some false) else (some true)))))
-- laws.eqBox
def F182 (a0 : Int × Int × Int × Int) (a1 : Int × Int × Int × Int) : Option (Bool) :=
  (if (a0.1 != a1.1) = true then (some false) else (if (a0.2.1 != a1.2.1) = true then (some false) else (if (a0.2.2.1 != a1.2.2.1) = true then (some false) else (if (a0.2.2.2 != a1.2.2.2) = true then (some false) else (some true)))))
-- laws.eqBoxS
def F154_l0 (L : Nat) (v : (List (Int × Int × Int × Int)) × (List (Int × Int × Int × Int)) × Int × Unit) : Option (((List (Int × Int × Int × Int)) × (List (Int × Int × Int × Int)) × Int × Unit) ⊕ ((Unit) ⊕ (Bool × Unit))) :=
  (if (decide (v.2.2.1 < (v.1.length : Int))) = true then ((getI v.1 v.2.2.1).bind fun y1 => ((getI v.2.1 v.2.2.1).bind fun y2 => ((F182 y1 y2).bind fun r3 => (if (!r3) = true then (some (.inr (.inr (false, ())))) else (some (.inl (v.1, v.2.1, (w64 (v.2.2.1 + 1)), ()))))))) else (some (.inr (.inl ()))))
def F154 (L : Nat) (a0 : List (Int × Int × Int × Int)) (a1 : List (Int × Int × Int × Int)) : Option (Bool) :=
  (if ((a0.length : Int) != (a1.length : Int)) = true then (some false) else ((iterS (F154_l0 L) L (a0, a1, 0, ())).bind fun v4 => (Sum.elim (fun v5 => (some true)) (fun v6 => (some v6.1)) v4)))
-- laws.eqLeaf
def F103 (L : Nat) (a0 : ByteArray × ByteArray × Int × (ByteArray × Int × Int) × Int × Int × List (Int × Int × Int × Int)) (a1 : ByteArray × ByteArray × Int × (ByteArray × Int × Int) × Int × Int × List (Int × Int × Int × Int)) : Option (Bool) :=
  (if (!strEq a0.1 a1.1) = true then (some false) else (if (!strEq a0.2.1 a1.2.1) = true then (some false) else (if (a0.2.2.1 != a1.2.2.1) = true then (some false) else ((F70 a0.2.2.2.1 a1.2.2.2.1).bind fun r1 => (if (!r1) = true then (some false) else (if (a0.2.2.2.2.1 != a1.2.2.2.2.1) = true then (some false) else (if (a0.2.2.2.2.2.1 != a1.2.2.2.2.2.1) = true then (some false) else ((F154 L a0.2.2.2.2.2.2 a1.2.2.2.2.2.2).bind fun r2 => (if (!r2) = true then (some false) else (some true))))))))))
-- laws.eqLeafS
def F52_l0 (L : Nat) (v : (List (ByteArray × ByteArray × Int × (ByteArray × Int × Int) × Int × Int × List (Int × Int × Int × Int))) × (List (ByteArray × ByteArray × Int × (ByteArray × Int × Int) × Int × Int × List (Int × Int × Int × Int))) × Int × Unit) : Option (((List (ByteArray × ByteArray × Int × (ByteArray × Int × Int) × Int × Int × List (Int × Int × Int × Int))) × (List (ByteArray × ByteArray × Int × (ByteArray × Int × Int) × Int × Int × List (Int × Int × Int × Int))) × Int × Unit) ⊕ ((Unit) ⊕ (Bool × Unit))) :=
  (if (decide (v.2.2.1 < (v.1.length : Int))) = true then ((getI v.1 v.2.2.1).bind fun y1 => ((getI v.2.1 v.2.2.1).bind fun y2 => ((F103 L y1 y2).bind fun r3 => (if (!r3) = true then (some (.inr (.inr (false, ())))) else (some (.inl (v.1, v.2.1, (w64 (v.2.2.1 + 1)), ()))))))) else (some (.inr (.inl ()))))
def F52 (L : Nat) (a0 : List (ByteArray × ByteArray × Int × (ByteArray × Int × Int) × Int × Int × List (Int × Int × Int × Int))) (a1 : List (ByteArray × ByteArray × Int × (ByteArray × Int × Int) × Int × Int × List (Int × Int × Int × Int))) : Option (Bool) :=
  (if ((a0.length : Int) != (a1.length : Int)) = true then (some false) else ((iterS (F52_l0 L) L (a0, a1, 0, ())).bind fun v4 => (Sum.elim (fun v5 => (some true)) (fun v6 => (some v6.1)) v4)))
-- laws.eqPlacement
def F104 (a0 : Int × Int × Int × Int × Int) (a1 : Int × Int × Int × Int × Int) : Option (Bool) :=
  (if (a0.1 != a1.1) = true then (some false) else (if (a0.2.1 != a1.2.1) = true then (some false) else (if (a0.2.2.1 != a1.2.2.1) = true then (some false) else (if (a0.2.2.2.1 != a1.2.2.2.1) = true then (some false) else (if (a0.2.2.2.2 != a1.2.2.2.2) = true then (some false) else (some true))))))
-- laws.eqPlacementS
def F53_l0 (L : Nat) (v : (List (Int × Int × Int × Int × Int)) × (List (Int × Int × Int × Int × Int)) × Int × Unit) : Option (((List (Int × Int × Int × Int × Int)) × (List (Int × Int × Int × Int × Int)) × Int × Unit) ⊕ ((Unit) ⊕ (Bool × Unit))) :=
  (if (decide (v.2.2.1 < (v.1.length : Int))) = true then ((getI v.1 v.2.2.1).bind fun y1 => ((getI v.2.1 v.2.2.1).bind fun y2 => ((F104 y1 y2).bind fun r3 => (if (!r3) = true then (some (.inr (.inr (false, ())))) else (some (.inl (v.1, v.2.1, (w64 (v.2.2.1 + 1)), ()))))))) else (some (.inr (.inl ()))))
def F53 (L : Nat) (a0 : List (Int × Int × Int × Int × Int)) (a1 : List (Int × Int × Int × Int × Int)) : Option (Bool) :=
  (if ((a0.length : Int) != (a1.length : Int)) = true then (some false) else ((iterS (F53_l0 L) L (a0, a1, 0, ())).bind fun v4 => (Sum.elim (fun v5 => (some true)) (fun v6 => (some v6.1)) v4)))
-- laws.eqRules
def F54 (a0 : Int × Int × Int × Int) (a1 : Int × Int × Int × Int) : Option (Bool) :=
  (if (a0.1 != a1.1) = true then (some false) else (if (a0.2.1 != a1.2.1) = true then (some false) else (if (a0.2.2.1 != a1.2.2.1) = true then (some false) else (if (a0.2.2.2 != a1.2.2.2) = true then (some false) else (some true)))))
-- laws.eqJob
def F12 (L : Nat) (a0 : ((Int × Int × (List (Int × Int)) × List (ByteArray × List Int)) × List (ByteArray × Int × Int)) × (List (ByteArray × ByteArray × Int × (ByteArray × Int × Int) × Int × Int × List (Int × Int × Int × Int))) × (List (Int × Int × Int × Int × Int)) × (Int × Int × Int × Int) × Int × Int × Int × Int × (List Int) × List Int) (a1 : ((Int × Int × (List (Int × Int)) × List (ByteArray × List Int)) × List (ByteArray × Int × Int)) × (List (ByteArray × ByteArray × Int × (ByteArray × Int × Int) × Int × Int × List (Int × Int × Int × Int))) × (List (Int × Int × Int × Int × Int)) × (Int × Int × Int × Int) × Int × Int × Int × Int × (List Int) × List Int) : Option (Bool) :=
  ((F51 L a0.1 a1.1).bind fun r1 => (if (!r1) = true then (some false) else ((F52 L a0.2.1 a1.2.1).bind fun r2 => (if (!r2) = true then (some false) else ((F53 L a0.2.2.1 a1.2.2.1).bind fun r3 => (if (!r3) = true then (some false) else ((F54 a0.2.2.2.1 a1.2.2.2.1).bind fun r4 => (if (!r4) = true then (some false) else (if (a0.2.2.2.2.1 != a1.2.2.2.2.1) = true then (some false) else (if (a0.2.2.2.2.2.1 != a1.2.2.2.2.2.1) = true then (some false) else (if (a0.2.2.2.2.2.2.1 != a1.2.2.2.2.2.2.1) = true then (some false) else (if (a0.2.2.2.2.2.2.2.1 != a1.2.2.2.2.2.2.2.1) = true then (some false) else ((F19 L a0.2.2.2.2.2.2.2.2.1 a1.2.2.2.2.2.2.2.2.1).bind fun r5 => (if (!r5) = true then (some false) else ((F19 L a0.2.2.2.2.2.2.2.2.2 a1.2.2.2.2.2.2.2.2.2).bind fun r6 => (if (!r6) = true then (some false) else (some true)))))))))))))))))
-- laws.eqBond
def F136 (a0 : ByteArray × Int × Int × Int) (a1 : ByteArray × Int × Int × Int) : Option (Bool) :=
  (if (!strEq a0.1 a1.1) = true then (some false) else (if (a0.2.1 != a1.2.1) = true then (some false) else (if (a0.2.2.1 != a1.2.2.1) = true then (some false) else (if (a0.2.2.2 != a1.2.2.2) = true then (some false) else (some true)))))
-- laws.eqBondS
def F83_l0 (L : Nat) (v : (List (ByteArray × Int × Int × Int)) × (List (ByteArray × Int × Int × Int)) × Int × Unit) : Option (((List (ByteArray × Int × Int × Int)) × (List (ByteArray × Int × Int × Int)) × Int × Unit) ⊕ ((Unit) ⊕ (Bool × Unit))) :=
  (if (decide (v.2.2.1 < (v.1.length : Int))) = true then ((getI v.1 v.2.2.1).bind fun y1 => ((getI v.2.1 v.2.2.1).bind fun y2 => ((F136 y1 y2).bind fun r3 => (if (!r3) = true then (some (.inr (.inr (false, ())))) else (some (.inl (v.1, v.2.1, (w64 (v.2.2.1 + 1)), ()))))))) else (some (.inr (.inl ()))))
def F83 (L : Nat) (a0 : List (ByteArray × Int × Int × Int)) (a1 : List (ByteArray × Int × Int × Int)) : Option (Bool) :=
  (if ((a0.length : Int) != (a1.length : Int)) = true then (some false) else ((iterS (F83_l0 L) L (a0, a1, 0, ())).bind fun v4 => (Sum.elim (fun v5 => (some true)) (fun v6 => (some v6.1)) v4)))
-- laws.eqCoat
def F137 (a0 : ByteArray × Int × Int × Int) (a1 : ByteArray × Int × Int × Int) : Option (Bool) :=
  (if (!strEq a0.1 a1.1) = true then (some false) else (if (a0.2.1 != a1.2.1) = true then (some false) else (if (a0.2.2.1 != a1.2.2.1) = true then (some false) else (if (a0.2.2.2 != a1.2.2.2) = true then (some false) else (some true)))))
-- laws.eqCoatS
def F84_l0 (L : Nat) (v : (List (ByteArray × Int × Int × Int)) × (List (ByteArray × Int × Int × Int)) × Int × Unit) : Option (((List (ByteArray × Int × Int × Int)) × (List (ByteArray × Int × Int × Int)) × Int × Unit) ⊕ ((Unit) ⊕ (Bool × Unit))) :=
  (if (decide (v.2.2.1 < (v.1.length : Int))) = true then ((getI v.1 v.2.2.1).bind fun y1 => ((getI v.2.1 v.2.2.1).bind fun y2 => ((F137 y1 y2).bind fun r3 => (if (!r3) = true then (some (.inr (.inr (false, ())))) else (some (.inl (v.1, v.2.1, (w64 (v.2.2.1 + 1)), ()))))))) else (some (.inr (.inl ()))))
def F84 (L : Nat) (a0 : List (ByteArray × Int × Int × Int)) (a1 : List (ByteArray × Int × Int × Int)) : Option (Bool) :=
  (if ((a0.length : Int) != (a1.length : Int)) = true then (some false) else ((iterS (F84_l0 L) L (a0, a1, 0, ())).bind fun v4 => (Sum.elim (fun v5 => (some true)) (fun v6 => (some v6.1)) v4)))
-- laws.eqRates
def F85 (a0 : Int × Int × Int × Int × Int) (a1 : Int × Int × Int × Int × Int) : Option (Bool) :=
  (if (a0.1 != a1.1) = true then (some false) else (if (a0.2.1 != a1.2.1) = true then (some false) else (if (a0.2.2.1 != a1.2.2.1) = true then (some false) else (if (a0.2.2.2.1 != a1.2.2.2.1) = true then (some false) else (if (a0.2.2.2.2 != a1.2.2.2.2) = true then (some false) else (some true))))))
-- laws.eqDesk
def F34 (L : Nat) (a0 : (((Int × Int × (List (Int × Int)) × List (ByteArray × List Int)) × List (ByteArray × Int × Int)) × (List (ByteArray × ByteArray × Int × (ByteArray × Int × Int) × Int × Int × List (Int × Int × Int × Int))) × (List (Int × Int × Int × Int × Int)) × (Int × Int × Int × Int) × Int × Int × Int × Int × (List Int) × List Int) × (List (ByteArray × Int × Int × Int)) × (List (ByteArray × Int × Int × Int)) × Int × Int × Int × Int × Int) (a1 : (((Int × Int × (List (Int × Int)) × List (ByteArray × List Int)) × List (ByteArray × Int × Int)) × (List (ByteArray × ByteArray × Int × (ByteArray × Int × Int) × Int × Int × List (Int × Int × Int × Int))) × (List (Int × Int × Int × Int × Int)) × (Int × Int × Int × Int) × Int × Int × Int × Int × (List Int) × List Int) × (List (ByteArray × Int × Int × Int)) × (List (ByteArray × Int × Int × Int)) × Int × Int × Int × Int × Int) : Option (Bool) :=
  ((F12 L a0.1 a1.1).bind fun r1 => (if (!r1) = true then (some false) else ((F83 L a0.2.1 a1.2.1).bind fun r2 => (if (!r2) = true then (some false) else ((F84 L a0.2.2.1 a1.2.2.1).bind fun r3 => (if (!r3) = true then (some false) else ((F85 a0.2.2.2 a1.2.2.2).bind fun r4 => (if (!r4) = true then (some false) else (some true)))))))))
-- laws.FnExactValidDesk
def F7 (L : Nat) (a0 : (((Int × Int × (List (Int × Int)) × List (ByteArray × List Int)) × List (ByteArray × Int × Int)) × (List (ByteArray × ByteArray × Int × (ByteArray × Int × Int) × Int × Int × List (Int × Int × Int × Int))) × (List (Int × Int × Int × Int × Int)) × (Int × Int × Int × Int) × Int × Int × Int × Int × (List Int) × List Int) × (List (ByteArray × Int × Int × Int)) × (List (ByteArray × Int × Int × Int)) × Int × Int × Int × Int × Int) : Option (Bool) :=
  ((F30 L a0 1048576).bind fun r1 => (if (decide (r1 < 0)) = true then (some true) else ((F32 L a0).bind fun r2 => ((F31 L r2).bind fun r3 => ((F32 L a0).bind fun r4 => ((F33 L r4).bind fun r5 => (if (!(r5 == r3)) = true then (some false) else ((F32 L a0).bind fun r6 => ((F34 L r4 r6).bind fun r7 => (if (!r7) = true then (some false) else (some true)))))))))))
end Go.Proofs.YtnglcmfgkcdgcaaGreat
