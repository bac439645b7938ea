/-
  The program's disk: Image, New; sectors of one byte.
-/
import Derived.Test.YtkefbgkdkmkghaaDoorDiskOps2
namespace Go.Proofs.YtkefbgkdkmkghaaDoor
set_option linter.unusedSimpArgs false
set_option linter.unusedVariables false
open Go.RowKit

def imgTo (vs : List (List (List Int))) (j : Nat) : List Int := ((vs.take j).map fun l => l.getD 0 []).flatten
theorem imgTo_zero (vs : List (List (List Int))) : imgTo vs 0 = [] := by simp [imgTo]
theorem imgTo_all (vs : List (List (List Int))) : imgTo vs vs.length = (vs.map fun l => l.getD 0 []).flatten := by simp [imgTo]
theorem imgTo_succ {vs : List (List (List Int))} {j : Nat} (h : j < vs.length) : imgTo vs (j + 1) = imgTo vs j ++ (vs.getD j []).getD 0 [] := by
  unfold imgTo
  rw [List.take_succ_eq_append_getElem h, List.map_append, List.flatten_append]
  have : vs.getD j [] = vs[j] := by simp [List.getD, h]
  rw [this]
  simp only [List.map_cons, List.map_nil, List.flatten_cons, List.flatten_nil, List.append_nil]
theorem imgTo_len {vs : List (List (List Int))} (hv : ∀ l ∈ vs, (l.getD 0 []).length = 128) : ∀ j, j ≤ vs.length → (imgTo vs j).length = 128 * j
  | 0, _ => by rw [imgTo_zero]; rfl
  | j + 1, h => by
    rw [imgTo_succ (by omega), List.length_append, imgTo_len hv j (by omega)]
    have := hv (vs.getD j []) (by rw [List.getD_eq_getElem?_getD, List.getElem?_eq_getElem (by omega)]; exact List.getElem_mem (by omega))
    omega
theorem Dk.Ok.fast {m : Nat} {d : Dk} (h : d.Ok m) : ∀ l ∈ d.vs, (l.getD 0 []).length = 128 ∧ AreB (l.getD 0 []) := fun l hl => h.each l hl _ (getD_mem' (List.length_pos_iff.2 (h.some l hl)))
theorem Dk.Ok.image_len {m : Nat} {d : Dk} (h : d.Ok m) : d.image.length = 128 * d.vs.length := by
  unfold Dk.image
  rw [← imgTo_all, imgTo_len (fun l hl => (h.fast l hl).1) _ (Nat.le_refl _)]
theorem Dk.Ok.image_bytes {m : Nat} {d : Dk} (h : d.Ok m) : AreB d.image := fun x hx => by
  obtain ⟨y, hy, hxy⟩ := List.mem_flatten.1 hx
  obtain ⟨l, hl, rfl⟩ := List.mem_map.1 hy
  exact (h.fast l hl).2 x hxy
set_option maxRecDepth 20000 in
set_option maxHeartbeats 800000 in
theorem image_walk {w : World} {p : Nat} {R : Roles} {d : Dk} (h : IsDisk w p R d) {m : Nat} (hok : d.Ok m) :
    Calls Tryd.prog 20 #[.pointer (some ⟨p, 0, none⟩)] w fun e w' => FreshB w w' d.image e := by
  obtain ⟨a, cap, tab, hA⟩ := h
  have c0 := hA.obj.cell 0 rfl
  have HD := Lib.hid hA
  have HOK := Lib.hid hok
  have hvx := hok.size
  clear hA hok
  generalize hvn : d.vs.length = vn at *
  have HVN := Lib.hid hvn
  clear hvn
  go_enter Tryd.func20, Tryd.ntmps20
  go_wp2_with fail
  go_loopw [3, 5, 11] (fun o _ x wr => ∃ (j : Nat) (ao : Option Addr) (co no : Nat), o = .slice ao no co ∧ x = .int .i64 j ∧ j ≤ vn ∧ Hid (no = 128 * j) ∧ Hid (Own wr 5 1 ao co no (byteV (imgTo d.vs j))) ∧ Hid (Keeps Nil w wr) ∧ Hid (∀ k, blkOf ao k → w.heap.size ≤ k)) (fun _ _ x _ => vn - (intOf x).toNat)
  case atStart => exact ⟨0, none, 0, 0, rfl, rfl, Nat.zero_le _, Lib.hid rfl, Lib.hid (by rw [imgTo_zero]; exact Own.nil _ _ _), Lib.hid (Keeps.refl _ _), Lib.hid (fun k hk => (blkOf_none k hk).elim)⟩
  case round =>
    obtain ⟨j, ao, co, no, rfl, rfl, hj, hno, hO, hkj, hf⟩ := hrel
    by_cases hjn : j < vn
    · have hnoB := hno.out
      have hno3 : no + 128 ≤ 1000000000 := by have := HOK.out.size; have := HVN.out; omega
      clear hnoB
      have hdj := HD.out.keep0 hkj.out
      obtain ⟨g, ha, t1, t2, hgl, hcn, hcx⟩ := hdj.tabAt (i := j) (by rw [HVN.out]; exact hjn)
      obtain ⟨hfv, hlv⟩ := hdj.secs j (by rw [HVN.out]; exact hjn)
      have hsucc := imgTo_succ (vs := d.vs) (j := j) (by rw [HVN.out]; exact hjn)
      rw [HVN.out] at hcn
      subst ha
      have hat : (d.at_ j).getD 0 [] = (d.vs.getD j []).getD 0 [] := rfl
      rw [hat] at hfv
      generalize (d.vs.getD j []).getD 0 [] = b at *
      obtain ⟨la, lc, pv, hle, _⟩ := hlv
      rw [hle] at t2
      generalize (d.at_ j).length - 1 = ln at *
      obtain ⟨g1, o1, cc, hfe, hrow, _, _⟩ := hfv
      rw [hfe] at t1
      have HSC := Lib.hid hsucc
      have hbN := Blk.new wr [.slice none 0 0, .slice none 0 0] 85
      have hka := (Keeps.refl Nil wr).alloc (.cells #[.slice none 0 0, .slice none 0 0] 85)
      obtain ⟨fs, hus⟩ := Tryd.undSec
      have hzs := Tryd.zeroSec
      have hrg : wr.rangeAt g (j * 2) [.slice (some ⟨g1, o1, none⟩) 128 cc, .slice la ln lc] := fun q v hv => by
        match q, hv with
        | 0, hv => simp at hv; rw [← hv]; exact t1
        | 1, hv => simp at hv; rw [← hv]; exact t2
        | q + 2, hv => simp at hv
      have hone : ∀ v ∈ [Value.slice (some ⟨g1, o1, none⟩) 128 cc, Value.slice la ln lc], v.oneCell' = true := fun v hv => by
        rcases List.mem_cons.1 hv with rfl | hv
        · rfl
        · rw [List.mem_singleton.1 hv]; rfl
      have HUS := Lib.hid hus
      have HB := Lib.hid (And.intro hrow (And.intro hO.out hka))
      have hj0 : (0 : Int) ≤ j := by omega
      have hj1 : (j : Int) < vn := by omega
      clear hus hdj hat hle hfe hsucc hrow hka t1 t2
      go_wp2_with (first | (refine wpl_load_at rfl 85 _ rfl g (j * 2) rfl [.slice (some ⟨g1, o1, none⟩) 128 cc, .slice la ln lc] hrg _ HUS.out rfl Tryd.infoSec ?_) | (refine wpl_store rfl 85 _ _ rfl wr.heap.size rfl [.slice (some ⟨g1, o1, none⟩) 128 cc, .slice la ln lc] rfl hbN rfl Tryd.infoSec hone ?_))
      intro w2 hb2 hk2 _
      have hk12 := HB.out.2.2.step hk2 (fun i hi => .inr (by rw [show i = wr.heap.size from hi]; exact Nat.le_refl _))
      have hO2 := HB.out.2.1.keep0 hk12
      have hsrc2 := (HB.out.1.keep hk12).src (cap := cc) (fun h => by cases h)
      have d0 := hb2.cell 0 rfl
      have HK2 := Lib.hid (hkj.out.trans hk12)
      clear hk2 hk12 hbN hrg hb2 HB
      go_wp2_with (at_builtin; go_must (refine wpl_append rfl _ _ 25 rfl 5 1 1 Tryd.underlying25 Tryd.info8s (by omega) ao co no _ rfl hO2 (some ⟨g1, o1, none⟩) 128 cc (byteV b) rfl hsrc2 (by unfold maxLen; omega) (by omega) ?_))
      intro a5 c5 w5 hO5 hk5 hf5 _
      have hf6 : ∀ k, blkOf a5 k → w.heap.size ≤ k := fun k hk => by
        rcases hf5 k hk with h1 | h1
        · exact hf.out k h1
        · have := hkj.out.size; have := HK2.out.size; omega
      have HX := Lib.hid (And.intro (show Own w5 5 1 a5 c5 (no + 128) (byteV (imgTo d.vs (j + 1))) by rw [HSC.out, byteV_append]; exact hO5) (And.intro (HK2.out.step hk5 (fun k hk => .inr (hf.out k hk))) hf6))
      clear hO5 hk5 hf5 hf6 hO2 hsrc2 d0
      go_wp2_with fail
      exact ⟨⟨j + 1, a5, c5, no + 128, rfl, by go_num, by omega, Lib.hid (by have := hno.out; omega), Lib.hid HX.out.1, Lib.hid HX.out.2.1, Lib.hid HX.out.2.2⟩, by first | (simp [intOf]; done) | (simp [intOf]; omega)⟩
    · obtain rfl : j = vn := by omega
      have hl := HOK.out.image_len
      have hall : imgTo d.vs j = d.image := by rw [← HVN.out, imgTo_all]; rfl
      have hln : no = d.image.length := by rw [hl, HVN.out]; exact hno.out
      have HF := Lib.hid (And.intro hall (And.intro hln (And.intro hO.out (And.intro hkj.out hf.out))))
      clear hl hall hln hO hkj hf hno
      go_wp2_with fail
      go_ret
      have hn := HF.out.2.1
      have ho := HF.out.2.2.1
      rw [HF.out.1] at ho
      subst hn
      exact ⟨ao, co, rfl, ho, HF.out.2.2.2.1, HF.out.2.2.2.2⟩
end Go.Proofs.YtkefbgkdkmkghaaDoor
