/-
  Differences of vectors: codes. Plain.
-/
import Derived.Test.YtheihohojmcbiaaTreeSpec
namespace Go.Mine
open Go.RowKit
def vcodes : List (List UInt8) := [[48, 48, 48, 48, 48, 48, 49, 49, 48, 48, 49], [48, 48, 48, 48, 48, 48, 49, 49, 48, 49, 49], [48, 48, 48, 48, 48, 48, 49, 49, 49, 48, 49], [48, 48, 48, 48, 48, 48, 49, 49, 49, 49, 49], [48, 48, 48, 48, 48, 49, 48, 48, 48, 48, 49], [48, 48, 48, 48, 48, 49, 48, 48, 48, 49, 49], [48, 48, 48, 48, 48, 49, 48, 48, 49, 49], [48, 48, 48, 48, 48, 49, 48, 49, 48, 49], [48, 48, 48, 48, 48, 49, 48, 49, 49, 49], [48, 48, 48, 48, 48, 49, 49, 49], [48, 48, 48, 48, 49, 48, 48, 49], [48, 48, 48, 48, 49, 48, 49, 49], [48, 48, 48, 48, 49, 49, 49], [48, 48, 48, 49, 49], [48, 48, 49, 49], [48, 49, 49], [49], [48, 49, 48], [48, 48, 49, 48], [48, 48, 48, 49, 48], [48, 48, 48, 48, 49, 49, 48], [48, 48, 48, 48, 49, 48, 49, 48], [48, 48, 48, 48, 49, 48, 48, 48], [48, 48, 48, 48, 48, 49, 49, 48], [48, 48, 48, 48, 48, 49, 48, 49, 49, 48], [48, 48, 48, 48, 48, 49, 48, 49, 48, 48], [48, 48, 48, 48, 48, 49, 48, 48, 49, 48], [48, 48, 48, 48, 48, 49, 48, 48, 48, 49, 48], [48, 48, 48, 48, 48, 49, 48, 48, 48, 48, 48], [48, 48, 48, 48, 48, 48, 49, 49, 49, 49, 48], [48, 48, 48, 48, 48, 48, 49, 49, 49, 48, 48], [48, 48, 48, 48, 48, 48, 49, 49, 48, 49, 48]]
def vnums : List Int := [-16, -15, -14, -13, -12, -11, -10, -9, -8, -7, -6, -5, -4, -3, -2, -1, 0, 1, 2, 3, 4, 5, 6, 7, 8, 9, 10, 11, 12, 13, 14, 15]
def VT : List TNode := (build [TNode.mt] (kvOf (vcodes.zip vnums))).getD []
theorem vbuild : build [TNode.mt] (kvOf (vcodes.zip vnums)) = some VT := by decide +kernel
theorem vcodes_ok : vcodes.all codeB = true := by decide +kernel
/-- The code of how far a difference is, without its last bit. -/
def vbaseL (n : Nat) : List UInt8 := (vcodes.getD (16 + n) []).dropLast
def vbase (n : Nat) : List UInt8 := if n = 16 then [48, 48, 48, 48, 48, 48, 49, 49, 48, 48] else vbaseL n
/-- The code of a difference. -/
def vc (d : Int) : List UInt8 := vcodes.getD (d + 16).toNat []
theorem vc_split {d : Int} (h1 : -16 ≤ d) (h2 : d ≤ 15) : vc d = if d = 0 then [49] else if d < 0 then vbase (-d).toNat ++ [49] else vbase d.toNat ++ [48] := by
  obtain ⟨k, hk⟩ : ∃ k : Nat, d + 16 = (k : Int) := Int.eq_ofNat_of_zero_le (by omega)
  have hd : d = (k : Int) - 16 := by omega
  have hk32 : k < 32 := by omega
  subst hd
  clear hk h1 h2
  revert k
  decide
end Go.Mine
