/-
  WALKS: console.fault, Cell, Answer; moneyerref39.Cell, Answer.
-/
import Derived.Test.YtgokkbocboonnaaDoorSD
import Derived.Test.YtgokkbocboonnaaDoorSB
import Derived.Test.YtgokkbocboonnaaDoorWC
namespace Go.Proofs.YtgokkbocboonnaaDoor
open Go.RowKit Go.Lib

theorem lit_ret {l : List UInt8} {t : List UInt8} (h : t = l) : Ending.returned (.string ⟨l.toArray⟩) = .returned (.string (tx t)) := by rw [h]; rfl
theorem isZero_eq (d : CellD) : isZero d = cellEq d ⟨0, [], 0, 0, 0⟩ := by
  unfold isZero cellEq
  rw [Bool.eq_iff_iff]
  simp [and_assoc]
section
variable {kind lo hi va : Int} {data : List UInt8} {n : Nat}
theorem isZero_no1 (h : ((kind : Int) == 0) = false) : isZero ⟨kind, data, lo, hi, va⟩ = false := by
  simp at h
  simp [isZero, h]
theorem isZero_no2 (hn : n = data.length) (h : ((n : Int) == 0) = false) : isZero ⟨kind, data, lo, hi, va⟩ = false := by
  have hne : data ≠ [] := by
    rintro rfl
    simp at h hn
    omega
  simp [isZero, hne]
theorem isZero_no3 (h : ((lo : Int) == 0) = false) : isZero ⟨kind, data, lo, hi, va⟩ = false := by
  simp at h
  simp [isZero, h]
theorem isZero_no4 (h : ((hi : Int) == 0) = false) : isZero ⟨kind, data, lo, hi, va⟩ = false := by
  simp at h
  simp [isZero, h]
theorem isZero_no5 (h : ((va : Int) == 0) = false) : isZero ⟨kind, data, lo, hi, va⟩ = false := by
  simp at h
  simp [isZero, h]
theorem isZero_yes (hn : n = data.length) (e1 : ((kind : Int) == 0) = true) (e2 : ((n : Int) == 0) = true) (e3 : ((lo : Int) == 0) = true) (e4 : ((hi : Int) == 0) = true) (e5 : ((va : Int) == 0) = true) : isZero ⟨kind, data, lo, hi, va⟩ = true := by
  simp at e1 e2 e3 e4 e5
  have hd : data = [] := List.eq_nil_of_length_eq_zero (by omega)
  simp [isZero, e1, e3, e4, e5, hd]
end
theorem bytes_nil (w : World) (B : Nat) : BytesAt w B (.slice none 0 0) [] := ⟨none, 0, 0, rfl, Nat.le_refl _, Nat.zero_le _, rfl, fun _ => rfl, Reads.none_⟩
end Go.Proofs.YtgokkbocboonnaaDoor
