/-
  Kinds of macroblocks: codes and parts. Plain.
-/
import Derived.Test.YtheihohojmcbiaaBackSpec
namespace Go.Mine
open Go.RowKit
def kcodes : List (List UInt8) := [[48, 48, 48, 49], [48, 48, 48, 48, 48, 48, 49], [49], [48, 48, 48, 48, 49], [48, 48, 48, 48, 48, 48, 48, 48, 49], [48, 48, 48, 48, 48, 48, 48, 49], [48, 48, 48, 48, 48, 48, 48, 48, 48, 49], [48, 48, 49], [48, 49], [48, 48, 48, 48, 48, 49]]
def knums : List Int := [1, 2, 3, 4, 5, 6, 7, 8, 9, 10]
/-- Intra, Quant, Vector, Filter, Coded. -/
def kc (k : Nat) : List UInt8 := kcodes.getD k []
def kparts : List (List Bool) := [[true, false, false, false, false], [true, true, false, false, false], [false, false, false, false, true], [false, true, false, false, true], [false, false, true, false, false], [false, false, true, false, true], [false, true, true, false, true], [false, false, true, true, false], [false, false, true, true, true], [false, true, true, true, true]]
def kpart (k j : Nat) : Bool := (kparts.getD k []).getD j false
/-- The cells of a row. -/
def krow (k : Nat) : List Value := [.string (str (kc k)), .bool (kpart k 0), .bool (kpart k 1), .bool (kpart k 2), .bool (kpart k 3), .bool (kpart k 4)]
def ktable : List Value := krow 0 ++ krow 1 ++ krow 2 ++ krow 3 ++ krow 4 ++ krow 5 ++ krow 6 ++ krow 7 ++ krow 8 ++ krow 9
def kz : List (List UInt8 × Int) := kcodes.zip knums
def KT : List TNode := (build [TNode.mt] (kvOf kz)).getD []
theorem kbuild : build [TNode.mt] (kvOf (kcodes.zip knums)) = some KT := by decide +kernel
theorem kcodes_ok : kcodes.all codeB = true := by decide +kernel
/-- What a kind has. -/
def kOf (n : Int) (j : Nat) : Bool := if 1 ≤ n ∧ n ≤ 10 then kpart (n - 1).toNat j else false
def kErr (n : Int) : Int := if 1 ≤ n ∧ n ≤ 10 then 0 else 18
end Go.Mine
