/-
  Digests by a key, and keys derived, as plain functions on lists of numbers. No memory in it.
-/
import Derived.Test.YtnkahfpinkgimaaDoorMany
namespace Go.Proofs.YtnkahfpinkgimaaDoor
set_option linter.unusedSimpArgs false
set_option linter.unusedVariables false
open Go.RowKit

def xorK (k : List Int) (c : Int) : List Int := k.map fun x => bits .xor .u8 x c
/-- What a key longer than a block is. -/
def fitK (k : List Int) : List Int := if 64 < k.length then digest k else k
def fillK (k : List Int) : List Int := k ++ List.replicate (64 - k.length) 0
def padK (k : List Int) : List Int := fillK (fitK k)
/-- HMAC. -/
def macL (k m : List Int) : List Int := digest (xorK (padK k) 92 ++ digest (xorK (padK k) 54 ++ m))
theorem macL_eq (k m : List Int) : macL k m = digest (xorK (padK k) 92 ++ digest (xorK (padK k) 54 ++ m)) := rfl
theorem fitK_len (k : List Int) : (fitK k).length ≤ 64 := by
  unfold fitK
  split
  · rw [digest_len]; omega
  · omega
theorem fillK_len (k : List Int) (h : k.length ≤ 64) : (fillK k).length = 64 := by simp [fillK]; omega
theorem padK_len (k : List Int) : (padK k).length = 64 := fillK_len _ (fitK_len k)
theorem xorK_len (k : List Int) (c : Int) : (xorK k c).length = k.length := by simp [xorK]
theorem macL_len (k m : List Int) : (macL k m).length = 32 := digest_len _
theorem macL_bytes (k m : List Int) : AreB (macL k m) := digest_bytes _
theorem bits_u8 (op : BinOp) (a b : Int) : 0 ≤ bits op .u8 a b ∧ bits op .u8 a b < 256 := by
  unfold bits
  split <;> (rw [IntKind.wrap_u8]; omega)
theorem xorK_bytes (k : List Int) (c : Int) : AreB (xorK k c) := fun x hx => by
  obtain ⟨y, _, rfl⟩ := List.mem_map.1 hx
  exact bits_u8 _ _ _
theorem fitK_bytes {k : List Int} (h : AreB k) : AreB (fitK k) := by
  unfold fitK
  split
  · exact digest_bytes _
  · exact h
theorem padK_bytes {k : List Int} (h : AreB k) : AreB (padK k) := areB_append (fitK_bytes h) (areB_zeros _)

/-- xor on its way. -/
def xorUp (l : List Int) (c : Int) (i : Nat) : List Int := xorK (l.take i) c ++ l.drop i
theorem xorUp_zero (l : List Int) (c : Int) : xorUp l c 0 = l := by simp [xorUp, xorK]
theorem xorUp_full (l : List Int) (c : Int) (h : l.length = 64) : xorUp l c 64 = xorK l c := by
  unfold xorUp
  rw [List.take_of_length_le (by omega), List.drop_of_length_le (by omega), List.append_nil]
theorem xorUp_len (l : List Int) (c : Int) (i : Nat) : (xorUp l c i).length = l.length := by simp [xorUp, xorK]; omega
theorem xorUp_at (l : List Int) (c : Int) (i : Nat) (h : i < l.length) : (xorUp l c i).getD i 0 = l.getD i 0 := by
  unfold xorUp
  simp only [List.getD]
  rw [List.getElem?_append_right (by simp [xorK]; omega)]
  simp [xorK, List.getElem?_drop, show min i l.length = i by omega]
theorem xorUp_succ (l : List Int) (c : Int) (i : Nat) (h : i < l.length) : (xorUp l c i).set i (bits .xor .u8 (l.getD i 0) c) = xorUp l c (i + 1) := by
  unfold xorUp
  have hlen : (xorK (l.take i) c).length = i := by simp [xorK]; omega
  rw [List.set_append_right _ _ (by omega), hlen, Nat.sub_self, List.drop_eq_getElem_cons h, List.set_cons_zero, List.take_succ_eq_append_getElem h]
  simp only [xorK, List.map_append, List.map_cons, List.map_nil, List.getD, List.getElem?_eq_getElem h, Option.getD_some, List.append_assoc, List.cons_append, List.nil_append]

/-- The digests that are strung together. -/
def stepL (root info : List Int) : Nat → List Int
  | 0 => []
  | i + 1 => macL root (stepL root info i ++ info ++ [((i + 1 : Nat) : Int) % 256])
def outL (root info : List Int) : Nat → List Int
  | 0 => []
  | i + 1 => outL root info i ++ stepL root info (i + 1)
theorem stepL_succ (root info : List Int) (i : Nat) : stepL root info (i + 1) = macL root (stepL root info i ++ info ++ [((i + 1 : Nat) : Int) % 256]) := rfl
theorem outL_succ (root info : List Int) (i : Nat) : outL root info (i + 1) = outL root info i ++ stepL root info (i + 1) := rfl
theorem stepL_len (root info : List Int) (i : Nat) : (stepL root info (i + 1)).length = 32 := macL_len _ _
theorem stepL_le (root info : List Int) : ∀ i, (stepL root info i).length ≤ 32
  | 0 => by simp [stepL]
  | i + 1 => by rw [stepL_len]; omega
theorem stepL_bytes (root info : List Int) : ∀ i, AreB (stepL root info i)
  | 0 => fun x hx => by simp [stepL] at hx
  | i + 1 => macL_bytes _ _
theorem outL_len (root info : List Int) : ∀ i, (outL root info i).length = 32 * i
  | 0 => rfl
  | i + 1 => by rw [outL_succ, List.length_append, outL_len root info i, stepL_len]; omega
theorem outL_bytes (root info : List Int) : ∀ i, AreB (outL root info i)
  | 0 => fun x hx => by simp [outL] at hx
  | i + 1 => areB_append (outL_bytes root info i) (stepL_bytes _ _ _)
/-- HKDF. -/
def deriveL (salt key info : List Int) (n : Nat) : List Int := (outL (macL salt key) info ((n + 31) / 32)).take n
theorem deriveL_len (salt key info : List Int) (n : Nat) : (deriveL salt key info n).length = n := by
  unfold deriveL
  rw [List.length_take, outL_len]; omega
theorem deriveL_bytes (salt key info : List Int) (n : Nat) : AreB (deriveL salt key info n) := fun x hx => outL_bytes _ _ _ x (List.mem_of_mem_take hx)
theorem outL_prefix (root info : List Int) (i : Nat) : ∀ d, (outL root info (i + d)).take (32 * i) = outL root info i
  | 0 => by rw [Nat.add_zero, List.take_of_length_le (by rw [outL_len]; omega)]
  | d + 1 => by
    rw [← Nat.add_assoc, outL_succ, List.take_append_of_le_length (by rw [outL_len]; omega), outL_prefix root info i d]
theorem deriveL_prefix (salt key info : List Int) {n m : Nat} (h : n ≤ m) : (deriveL salt key info m).take n = deriveL salt key info n := by
  unfold deriveL
  obtain ⟨d, hd⟩ : ∃ d, (m + 31) / 32 = (n + 31) / 32 + d := ⟨(m + 31) / 32 - (n + 31) / 32, by omega⟩
  rw [hd, List.take_take, show min n m = n by omega]
  have := outL_prefix (macL salt key) info ((n + 31) / 32) d
  rw [← this, List.take_take, show min n (32 * ((n + 31) / 32)) = n by omega]
/-- No key is a block of zeros. -/
theorem macL_zeros (m : List Int) : macL (List.replicate 32 0) m = macL [] m := by
  have : padK (List.replicate 32 0) = padK [] := by decide
  unfold macL
  rw [this]
theorem macL_long {k : List Int} (h : 64 < k.length) (m : List Int) : macL (digest k) m = macL k m := by
  have : padK (digest k) = padK k := by
    have h1 : fitK k = digest k := by unfold fitK; rw [if_pos h]
    have h2 : fitK (digest k) = digest k := by unfold fitK; rw [if_neg (by rw [digest_len]; omega)]
    unfold padK
    rw [h1, h2]
  unfold macL
  rw [this]
theorem macL_fill {k : List Int} {n : Nat} (h : k.length + n ≤ 64) (m : List Int) : macL (k ++ List.replicate n 0) m = macL k m := by
  have : padK (k ++ List.replicate n 0) = padK k := by
    have h1 : fitK k = k := by unfold fitK; rw [if_neg (by omega)]
    have h2 : fitK (k ++ List.replicate n 0) = k ++ List.replicate n 0 := by unfold fitK; rw [if_neg (by rw [List.length_append, List.length_replicate]; omega)]
    unfold padK fillK
    rw [h1, h2, List.append_assoc, List.replicate_append_replicate, List.length_append, List.length_replicate]
    congr 2
    omega
  unfold macL
  rw [this]
end Go.Proofs.YtnkahfpinkgimaaDoor
