/-
  NUMBERS AS TEXT: strconv.Itoa through the program's own names, and moneyerref31.Num.
-/
import Derived.Test.YtgokkbocboonnaaDoorProg
import Derived.Test.YtgokkbocboonnaaDoorShelf
import Derived.Test.YtgokkbocboonnaaDoorMem
import Derived.Lib.AppendIntMem
import Derived.Lib.SmallJoins
import Derived.Lib.ItoaLen
import Derived.Deep.DeepCutAuto
import Derived.WalkSpells
namespace Go.Proofs.YtgokkbocboonnaaDoor
open Go.RowKit Go.Lib

/-- The library's table of powers lies as its text lays it. -/
def PTab (w : World) : Prop := Lib.TabIs Tryd.prog w "internal/strconv.uint64pow10" .u64 Lib.pow10Tab
theorem PTab.below {w w' : World} (h : PTab w) (hb : Below w.heap.size w w') : PTab w' := Lib.tabBelow_of_tabIs h w' hb
/-- A text of these bytes. -/
def tx (l : List UInt8) : ByteArray := ⟨l.toArray⟩
theorem tx_append (a b : List UInt8) : tx a ++ tx b = tx (a ++ b) := by
  apply ByteArray.ext
  simp [tx]
theorem tx_data (a : List UInt8) : (tx a).data.toList = a := by simp [tx]
theorem tx_size (a : List UInt8) : (tx a).size = a.length := by simp [tx, ByteArray.size]
theorem tx_of (k : ByteArray) : tx k.data.toList = k := rfl
theorem tx_lit (l : List UInt8) : (⟨l.toArray⟩ : ByteArray) = tx l := rfl
theorem ret_tx {s : ByteArray} {l : List UInt8} (h : s.data.toList = l) : Ending.returned (.string s) = .returned (.string (tx l)) := by
  subst h
  rfl
/-- Some text: a letter for it. -/
theorem text_of (l : List UInt8) : ∃ s : ByteArray, Hid (tx l = s) ∧ s.size = l.length := ⟨_, rfl, tx_size l⟩

theorem anumber_any (n : Int) (w : World) (h0 : -9223372036854775808 ≤ n) (h1 : n ≤ 9223372036854775807) (ht : PTab w) :
    Calls Tryd.prog 30 #[.int .i64 n] w fun e w' => e = .returned (.string (tx (Lib.itoa n))) ∧ Below w.heap.size w w' := by
  go_enter Tryd.func30, Tryd.ntmps30
  go_wp2_with (go_at_call 48; refine (Tryd.strconv_Itoa n h0 h1 w ht).mono ?_; rintro e w1 ⟨rfl, k, os, rfl⟩)
  go_ret
  exact ⟨rfl, Lib.below_grow _ _ (Nat.le_refl _) _ _⟩
theorem itoa_len (n : Int) (h0 : -9223372036854775808 ≤ n) (h1 : n ≤ 9223372036854775807) : (Lib.itoa n).length ≤ 21 := Lib.itoa_length_le n h0 h1

theorem ajoin_any (g : Nat) (xs : List ByteArray) (t : TypeId) (w : World) (k : Blk w g t (xs.map Value.string).toArray) (hN : xs.length ≤ 1000) (hlen : (Lib.join (xs.map (·.data.toList)) [32]).length ≤ 1000000) :
    Calls Tryd.prog 29 #[.slice (some ⟨g, 0, none⟩) xs.length xs.length] w fun e w' => e = .returned (.string (tx (Lib.join (xs.map (·.data.toList)) [32]))) ∧ Below w.heap.size w w' := by
  have HJ := hide (Tryd.strings_Join g 0 xs.length xs ⟨#[32]⟩ w (fun j x hx => by rw [Nat.zero_add, k.cell]; simp [hx]) k.lt (by omega) (Nat.le_refl _) (by show (Lib.join _ [32]).length ≤ _; omega))
  clear hlen
  go_enter Tryd.func29, Tryd.ntmps29
  go_wp2_with (go_at_call 47; refine HJ.out.mono ?_; rintro e w1 ⟨rfl, hb⟩)
  go_ret
  exact ⟨rfl, hb⟩
end Go.Proofs.YtgokkbocboonnaaDoor
