/-
  Digests by a key and derived keys that are known (RFC 4231, RFC 5869), by the kernel.
-/
import Derived.Test.YtnkahfpinkgimaaDoorMacPlain
namespace Go.Proofs.YtnkahfpinkgimaaDoor
set_option linter.unusedSimpArgs false
set_option linter.unusedVariables false
open Go.RowKit
def vecK : List Int := [74, 101, 102, 101]
def vecA : List Int := [119, 104, 97, 116, 32, 100, 111, 32, 121, 97, 32, 119, 97, 110, 116, 32]
def vecB : List Int := [102, 111, 114, 32, 110, 111, 116, 104, 105, 110, 103, 63]
def upK (i : Nat) : List Int := List.replicate i 11
def upS (i : Nat) : List Int := (List.range i).map fun (j : Nat) => (j : Int)
def upI (i : Nat) : List Int := (List.range i).map fun (j : Nat) => 240 + (j : Int)
theorem upK_succ (i : Nat) : upK i ++ [11] = upK (i + 1) := by simp [upK, List.replicate_succ']
theorem upS_succ (i : Nat) : upS i ++ [(i : Int)] = upS (i + 1) := by simp [upS, List.range_succ]
theorem upI_succ (i : Nat) : upI i ++ [240 + (i : Int)] = upI (i + 1) := by simp [upI, List.range_succ]
theorem vec_mac : let d := macL vecK (vecA ++ vecB); (d.getD 0 0 = 91 ∧ d.getD 1 0 = 220 ∧ d.getD 2 0 = 193 ∧ d.getD 3 0 = 70 ∧ d.getD 30 0 = 56 ∧ d.getD 31 0 = 67) := by decide +kernel
theorem vec_der : let d := deriveL (upS 13) (upK 22) (upI 10) 42; (d.getD 0 0 = 60 ∧ d.getD 1 0 = 178 ∧ d.getD 2 0 = 95 ∧ d.getD 3 0 = 37 ∧ d.getD 40 0 = 88 ∧ d.getD 41 0 = 101) := by decide +kernel

end Go.Proofs.YtnkahfpinkgimaaDoor
