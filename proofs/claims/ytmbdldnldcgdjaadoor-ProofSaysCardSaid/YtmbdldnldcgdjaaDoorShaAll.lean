/-
  sha.Sum: the digest of lists, one behind the other.
-/
import Derived.Test.YtmbdldnldcgdjaaDoorShaSum
namespace Go.Proofs.YtmbdldnldcgdjaaDoor
set_option linter.unusedSimpArgs false
set_option linter.unusedVariables false
open Go.RowKit

/-- A slice of slices of bytes. -/
structure ManyB (w : World) (a : Option Addr) (n : Nat) (L : List (List Int)) : Prop where
  len : L.length = n
  most : n ≤ 1000000
  lies : 0 < n → ∃ b off, a = some ⟨b, off, none⟩ ∧ ∀ i, i < n → ∃ ai ni ci, w.cell? ⟨b, off + i, none⟩ = some (.slice ai ni ci) ∧ Row .u8 w ai ni (L.getD i []) ∧ (ai = none → ci = 0 ∧ ni = 0)
theorem ManyB.keep {w w' : World} {a : Option Addr} {n : Nat} {L : List (List Int)} (h : ManyB w a n L) (hk : Keeps Nil w w') : ManyB w' a n L :=
  ⟨h.len, h.most, fun h0 => by
    obtain ⟨b, off, ha, hc⟩ := h.lies h0
    refine ⟨b, off, ha, fun i hi => ?_⟩
    obtain ⟨ai, ni, ci, h1, h2, h3⟩ := hc i hi
    exact ⟨ai, ni, ci, hk.cell h1 (fun h => h), h2.keep hk, h3⟩⟩
theorem ManyB.nil (w : World) : ManyB w none 0 [] := ⟨rfl, by omega, fun h => by omega⟩
theorem ManyB.one {w : World} {g n c : Nat} {a : Option Addr} {l : List Int} {T : TypeId} (hb : Blk w g [.slice a n c] T) (hr : Row .u8 w a n l) (hn : a = none → c = 0 ∧ n = 0) : ManyB w (some ⟨g, 0, none⟩) 1 [l] :=
  ⟨rfl, by omega, fun _ => ⟨g, 0, rfl, fun i hi => by
    obtain rfl : i = 0 := by omega
    exact ⟨a, n, c, hb.cell 0 rfl, hr, hn⟩⟩⟩
theorem flat_take_succ (L : List (List Int)) (i : Nat) (h : i < L.length) : (L.take i).flatten ++ L.getD i [] = (L.take (i + 1)).flatten := by
  rw [List.take_succ_eq_append_getElem h, List.flatten_append]
  simp [List.getD, h]
theorem flat_take_le (L : List (List Int)) (i : Nat) : (L.take i).flatten.length ≤ L.flatten.length := by
  have h : L.flatten = (L.take i).flatten ++ (L.drop i).flatten := by rw [← List.flatten_append, List.take_append_drop]
  rw [h, List.length_append]; omega

/-- A digest on its way, new since a world. -/
def NewHash (w : World) (g : Nat) (P : List Int) (wr : World) : Prop := ∃ a cap, IsHash wr g a cap P ∧ Keeps Nil w wr ∧ (∀ k, midOf a cap k → w.heap.size ≤ k)
theorem Tryd.undSls : Tryd.prog.underlying 86 = some (.slice 65) := Tryd.underlying86

set_option maxRecDepth 20000 in
set_option maxHeartbeats 1600000 in
theorem shaSum_walk {w : World} {a : Option Addr} {n cap : Nat} {L : List (List Int)} (h : ManyB w a n L) (hl : L.flatten.length ≤ 900000) :
    Calls Tryd.prog 37 #[.slice a n cap] w fun e w' => e = .returned (.agg (byteV (digest L.flatten)).toArray) ∧ Keeps Nil w w' := by
  have hzv := Tryd.zeroH32
  have hbR := Blk.new w (byteV z32) 26
  have hkA := (Keeps.refl Nil w).alloc (.cells (byteV z32).toArray 26)
  have hszA : (w.alloc (.cells (byteV z32).toArray 26)).heap.size = w.heap.size + 1 := Array.size_push _
  have hm := h.keep hkA
  have hlen := h.len
  have hmost := h.most
  have hzz : (byteV z32).length = 32 := by rw [byteV_len, z32_len]
  have HZ := Lib.hid hzz
  clear hzz h
  generalize byteV z32 = Z at *
  go_enter Tryd.func37, Tryd.ntmps37
  go_wp2_with fail
  generalize w.alloc (.cells Z.toArray 26) = wA at *
  refine (new_walk wA).mono ?_
  rintro e w1 ⟨g, rfl, hI, hk1, hg⟩
  have hN : NewHash wA g (L.take 0).flatten w1 := ⟨none, 0, by simpa using hI, hk1, fun k hk => by have := hk.1; omega⟩
  have HN := Lib.hid hN
  have HLN := Lib.hid hlen
  clear hI hk1 hN hlen
  go_wp2_with fail
  go_loopw [9] (fun v wr => ∃ i : Nat, i ≤ n ∧ v = .int .i64 i ∧ Hid (NewHash wA g (L.take i).flatten wr)) (fun v _ => n - (intOf v).toNat)
  case atStart => exact ⟨0, by omega, rfl, HN.out⟩
  case round =>
    obtain ⟨i, hi, rfl, hNi⟩ := hrel
    clear HN
    obtain ⟨a2, cap2, hI, hkr, hfr⟩ := hNi.out
    by_cases hin : i < n
    · obtain ⟨b, off, rfl, hc⟩ := (hm.keep hkr).lies (by omega)
      obtain ⟨ai, ni, ci, hcell, hrow, hnil⟩ := hc i hin
      have hfs := flat_take_succ L i (by have := HLN.out; omega)
      have hfl := flat_take_le L (i + 1)
      have hrl := hrow.llen
      have hbb : ∀ k, blkOf ai k → 0 < ni → k ≠ g := fun k hk h0 e => by
        obtain ⟨b0, off0, ha0, hc0⟩ := hm.lies (by omega)
        cases ha0
        obtain ⟨ai0, ni0, ci0, hcell0, hrow0, _⟩ := hc0 i hin
        have hcell1 := hkr.cell hcell0 (fun h => h)
        rw [hcell] at hcell1
        cases hcell1
        obtain ⟨b3, o3, hb3, hl3, _⟩ := hrow0.cell h0
        rw [hb3] at hk
        have := (blkOf_some _ _ _ _).1 hk
        omega
      have hw := write_walk hI hrow (capb := ci) hnil hbb (by rw [← hrl, ← List.length_append, hfs]; omega)
      rw [hfs] at hw
      have HW := Lib.hid hw
      clear hw hfs hfl hrl hrow hnil hI hNi hc hbb
      have hi0 : (0 : Int) ≤ i := by omega
      have hi1 : (i : Int) < n := by omega
      go_wp2_with fail
      refine HW.out.mono ?_
      rintro e w3 ⟨rfl, a3, cap3, h3, hk3, hf3⟩
      have hN3 : NewHash wA g (L.take (i + 1)).flatten w3 := ⟨a3, cap3, h3, hkr.step hk3 (fun k hk => by
        rcases hk with rfl | hk
        · exact .inr hg
        · exact .inr (hfr k hk)), fun k hk => by
          rcases hf3 k hk with h' | h'
          · exact hfr k h'
          · have := hkr.size; omega⟩
      clear hcell HW h3 hk3 hf3
      go_wp2_with fail
      go_roundw
      case rel => first | exact ⟨i + 1, by omega, by go_num, hN3⟩ | ((repeat apply Exists.intro); exact ⟨⟨i + 1, by omega, by go_num, hN3⟩, rfl⟩)
      case measure => simp [intOf]; omega
    · obtain rfl : i = n := by omega
      have hfull : L.take i = L := List.take_of_length_le (by have := HLN.out; omega)
      rw [hfull] at hI
      have HS := Lib.hid (sum_walk hI hl)
      have hbr := hbR.keep0 hkr
      have hKr := hkA.trans hkr
      have hDl : (byteV (digest L.flatten)).length = 32 := by rw [byteV_len, digest_len]
      have hDo := byteV_one (digest L.flatten)
      have HDl := Lib.hid hDl
      clear hfull hI hNi hfr hDl
      generalize hDD : digest L.flatten = D at *
      have HDX := Lib.hid hDD
      clear hDD
      go_wp2_with fail
      refine HS.out.mono ?_
      rintro e w4 ⟨rfl, hk4⟩
      have hbr4 := hbr.keep0 hk4
      have hK4 := hKr.trans hk4
      clear HS hbr hKr hk4
      go_wp2_with (refine wpl_store rfl 26 _ _ rfl w.heap.size rfl (byteV D) rfl hbr4 (by rw [HDl.out, HZ.out]) (by rw [HDl.out]; exact Tryd.infoH) hDo ?_)
      intro w5 hb5 hk5 hs5
      go_wp2_with fail
      refine ret_blk Tryd.results37 w.heap.size rfl hb5 _ Tryd.undH rfl (by rw [HDl.out]; exact Tryd.infoH) rfl ⟨by rw [HDX.out], hK4.step hk5 (fun i hi => .inr (by rw [show i = w.heap.size from hi]; exact Nat.le_refl _))⟩
end Go.Proofs.YtmbdldnldcgdjaaDoor
