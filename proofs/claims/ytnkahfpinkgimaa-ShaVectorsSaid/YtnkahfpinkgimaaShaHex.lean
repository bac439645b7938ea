/-
  courierlaw3.hex: bytes as digits.
-/
import Derived.Test.YtnkahfpinkgimaaShaFirst
import Derived.Test.YtnkahfpinkgimaaNumber
import Derived.Laws.IdiomStrings
import Derived.Laws.Concat
namespace Go.Proofs.Ytnkahfpinkgimaa
open Go.RowKit

def digS : ByteArray := ⟨#[48, 49, 50, 51, 52, 53, 54, 55, 56, 57, 97, 98, 99, 100, 101, 102]⟩
def hexU (n : Int) : UInt8 := digS.data.getD n.toNat 0
def hexL (l : List Int) : List UInt8 := l.flatMap fun x => [hexU (x / 16), hexU (x % 16)]
def hexB (l : List Int) : ByteArray := ⟨(hexL l).toArray⟩
theorem hexU_at (n : Int) (h : n.toNat < (ByteArray.mk #[48, 49, 50, 51, 52, 53, 54, 55, 56, 57, 97, 98, 99, 100, 101, 102]).size) : (ByteArray.mk #[48, 49, 50, 51, 52, 53, 54, 55, 56, 57, 97, 98, 99, 100, 101, 102])[n.toNat]'h = hexU n := by
  unfold hexU digS
  rw [Array.getD_eq_getD_getElem?, Array.getElem?_eq_getElem h]
  rfl
theorem hexB_len (l : List Int) : (hexB l).size = 2 * l.length := by
  have : ∀ l : List Int, (hexL l).length = 2 * l.length := fun l => by
    induction l with
    | nil => rfl
    | cons x l ih =>
      have e : hexL (x :: l) = [hexU (x / 16), hexU (x % 16)] ++ hexL l := rfl
      rw [e, List.length_append, ih]; simp; omega
  unfold hexB ByteArray.size
  simp [this]
theorem hexB_succ (l : List Int) (i : Nat) (h : i < l.length) : hexB (l.take i) ++ ⟨#[hexU (l.getD i 0 / 16), hexU (l.getD i 0 % 16)]⟩ = hexB (l.take (i + 1)) := by
  have e : hexL (l.take (i + 1)) = hexL (l.take i) ++ [hexU (l.getD i 0 / 16), hexU (l.getD i 0 % 16)] := by
    rw [List.take_succ_eq_append_getElem h]
    unfold hexL
    rw [List.flatMap_append]
    simp [List.getD, h]
  unfold hexB
  rw [e, ByteArray.mk_append_mk]
theorem Try.convBS (W : World) (g : Nat) (u v : UInt8) (h0 : W.cell? ⟨g, 0, none⟩ = some (.int .u8 (u.toNat : Int))) (h1 : W.cell? ⟨g, 1, none⟩ = some (.int .u8 (v.toNat : Int))) :
    (convert 22 9 (.slice (some ⟨g, 0, none⟩) 2 2)).run Try.prog W = .ok (.string ⟨#[u, v]⟩) W :=
  run_convert_bytes_back W 22 9 5 ⟨g, 0, none⟩ 2 [u, v] (by kernel_rfl) (by kernel_rfl) (by kernel_rfl) (fun j hj => by
    match j, hj with
    | 0, _ => exact h0
    | 1, _ => exact h1)

set_option maxRecDepth 20000 in
set_option maxHeartbeats 1600000 in
theorem hex_walk {w : World} {a : Option Addr} {n cap : Nat} {l : List Int} (hrow : Row .u8 w a n l) (hl : n ≤ 64) :
    Calls Try.prog 14 #[.slice a n cap] w fun e w' => e = .returned (.string (hexB l)) ∧ Keeps Nil w w' := by
  have hll := hrow.llen
  have HROW := Lib.hid hrow
  clear hrow
  go_enter Try.func14, Try.ntmps14
  go_wp2_with fail
  go_loopw [4, 5] (fun v v5 wr => ∃ i : Nat, i ≤ n ∧ v = .string (hexB (l.take i)) ∧ v5 = .int .i64 i ∧ Hid (Keeps Nil w wr)) (fun _ v5 _ => n - (intOf v5).toNat)
  case atStart => exact ⟨0, by omega, by simp [hexB, hexL], rfl, Lib.hid (Keeps.refl _ _)⟩
  case round =>
    obtain ⟨i, hi, rfl, rfl, hk⟩ := hrel
    by_cases hin : i < n
    · obtain ⟨b, off, rfl, _, hc⟩ := (HROW.out.keep hk.out).cell (by omega)
      have hci := hc i hin
      have hxw := u8_wf (HROW.out.wf _ (HROW.out.at_ hin))
      have hsu := hexB_succ l i (by omega)
      have hsz := hexB_len (l.take i)
      rw [List.length_take] at hsz
      generalize l.getD i 0 = x at *
      have hi0 : (0 : Int) ≤ i := by omega
      have hi1 : (i : Int) < n := by omega
      have hp0 : 0 ≤ x / 16 := by omega
      have hp1 : x / 16 < 16 := by omega
      have hq0 : 0 ≤ x % 16 := by omega
      have hq1 : x % 16 < 16 := by omega
      have hcv := fun (W : World) (g : Nat) => Try.convBS W g (hexU (x / 16)) (hexU (x % 16))
      have hua := hexU_at
      have hs2 : (hexB (l.take i)).size ≤ 128 := by omega
      have HSU := Lib.hid hsu
      generalize hexB (l.take i) = hb at *
      clear hc hsu hsz
      go_wp2_with fail
      go_region
      rw [HSU.out]
      have hkn : Keeps Nil w (wr.alloc (Obj.cells #[Value.int .u8 ↑(hexU (x / 16)).toNat, Value.int .u8 ↑(hexU (x % 16)).toNat] 5)).drew := (hk.out.alloc _).drew
      clear hcv hua HSU
      go_wp2_with fail
      go_roundw
      case rel => first | exact ⟨i + 1, by omega, rfl, by go_num, Lib.hid hkn⟩ | ((repeat apply Exists.intro); exact ⟨⟨i + 1, by omega, rfl, by go_num, Lib.hid hkn⟩, rfl⟩)
      case measure => simp [intOf]; omega
    · obtain rfl : i = n := by omega
      rw [List.take_of_length_le (by omega)]
      go_wp2_with fail
      go_ret
      exact ⟨by first | rfl | simp, hk.out⟩
end Go.Proofs.Ytnkahfpinkgimaa
