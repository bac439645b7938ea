/-
  Chapter 9: a sector of one byte; the first examples; a disk that the law made.
-/
import Derived.Test.YtkefbgkdkmkghaaDoorDiskNew
import Derived.Test.YtkefbgkdkmkghaaDoorNumber
namespace Go.Proofs.YtkefbgkdkmkghaaDoor
set_option linter.unusedSimpArgs false
set_option linter.unusedVariables false
open Go.RowKit

/-- A disk that the law made: nothing of it is older than the law's call. -/
structure Mine (w0 w : World) (p : Nat) (R : Roles) (d : Dk) : Prop where
  is : IsDisk w p R d
  keeps : Keeps Nil w0 w
  far : ∀ k, R k ≠ 0 → w0.heap.size ≤ k
section
variable {w0 w w' : World} {p : Nat} {R R' : Roles} {d d' : Dk} {pe : Nat → Addr}
theorem Mine.wr (h : Mine w0 w p R d) (hk : Keeps (Wr R) w w') : Keeps Nil w0 w' := h.keeps.step hk (fun k hk => .inr (h.far k (by unfold Wr at hk; omega)))
theorem Mine.errs (h : Mine w0 w p R d) (hE : Err2 w0 pe) : ∀ w', Keeps (Wr R) w w' → Err2 w' pe := fun _ hk => hE.keep (h.wr hk)
theorem Mine.err (h : Mine w0 w p R d) (hE : Err2 w0 pe) : Err2 w pe := hE.keep h.keeps
theorem Mine.grew (h : Mine w0 w p R d) (hD : IsDisk w' p R' d') (hG : Grew w w' R R') : Mine w0 w' p R' d' :=
  ⟨hD, h.wr hG.keeps, fun k hk => by
    rcases Nat.lt_or_ge k w.heap.size with h1 | h1
    · rw [hG.same k h1] at hk; exact h.far k hk
    · exact Nat.le_trans h.keeps.size h1⟩
theorem Mine.wrote (h : Mine w0 w p R d) (hD : IsDisk w' p R d') (hk : Keeps (Wr R) w w') : Mine w0 w' p R d' := ⟨hD, h.wr hk, h.far⟩
theorem Mine.nil (h : Mine w0 w p R d) (hk : Keeps Nil w w') : Mine w0 w' p R d := ⟨h.is.keep0 hk, h.keeps.trans hk, h.far⟩
/-- A block that is none of it is written. -/
theorem Mine.other (h : Mine w0 w p R d) {g : Nat} (hk : Keeps (One g) w w') (hR : R g = 0) (hg : w0.heap.size ≤ g) : Mine w0 w' p R d :=
  ⟨h.is.keep hk (fun k h1 h2 => h1 (by rw [show k = g from h2]; exact hR)), h.keeps.step hk (fun k h2 => .inr (by rw [show k = g from h2]; exact hg)), h.far⟩
/-- What is made later is none of it. -/
theorem Mine.later (h : Mine w0 w p R d) {g : Nat} (hg : w.heap.size ≤ g) : R g = 0 := by
  rcases Nat.eq_zero_or_pos (R g) with h1 | h1
  · exact h1
  · have := h.is.lt g (by omega); omega
end
theorem NewP.mine {w w' : World} {d : Dk} {e : Ending} (h : NewP w d e w') : ∃ p R, e = .returned (.pointer (some ⟨p, 0, none⟩)) ∧ Mine w w' p R d := by
  obtain ⟨p, R, he, hD, hk, hf⟩ := h
  exact ⟨p, R, he, ⟨hD, hk, hf⟩⟩
/-- A sector of one byte. -/
def fillL (n : Int) : List Int := List.replicate 128 (n % 256)
theorem fillL_len (n : Int) : (fillL n).length = 128 := by simp [fillL]
theorem fillL_bytes (n : Int) : AreB (fillL n) := fun x hx => by rw [(List.mem_replicate.1 hx).2]; omega
def fillTo (n : Int) (j : Nat) : List Int := List.replicate j (n % 256) ++ List.replicate (128 - j) 0
theorem fillTo_zero (n : Int) : fillTo n 0 = zsec := by simp [fillTo, zsec]
theorem fillTo_all (n : Int) : fillTo n 128 = fillL n := by simp [fillTo, fillL]
theorem fillTo_len {n : Int} {j : Nat} (h : j ≤ 128) : (fillTo n j).length = 128 := by simp [fillTo]; omega
theorem fillTo_succ {n : Int} {j : Nat} (h : j < 128) : (fillTo n j).set j (n % 256) = fillTo n (j + 1) := by
  unfold fillTo
  rw [List.set_append_right _ _ (by simp), List.length_replicate, Nat.sub_self, show 128 - j = (128 - (j + 1)) + 1 by omega, List.replicate_succ, List.set_cons_zero, List.replicate_succ', List.append_assoc]
  rfl
/-- make([]byte, 128). -/
theorem wpl_make128 {P : Program} {ops : Array Oper} {rest : List Oper} {o : Oper} {A : Act} {w : World} {Q : Exit → Act → World → Prop} (hg : o.guard = none) (l c : Operand) (t : TypeId) (hop : o.op = Op.makeSlice t l c) (e : TypeId) (h1 : P.underlying t = some (.slice e))
    (hi : (P.info? e).map (fun i => (i.zero, i.size, i.bytes)) = some (some (.int .u8 0), 1, 1)) (hl : A.eval l = .int .i64 128) (hc : A.eval c = .int .i64 128)
    (h : ∀ g w', g = w.heap.size → Blk w' g (byteV zsec) e → Keeps Nil w w' → wpList P ops Q rest (A.put o.dst (.slice (some ⟨g, 0, none⟩) 128 128)) w') : wpList P ops Q (o :: rest) A w :=
  wpl_make hg l c t hop e (.int .u8 0) 1 h1 hi rfl .i64 .i64 128 128 128 128 hl hc rfl rfl (by decide) (by decide) (by unfold maxLen; decide) (fun w' _ hb hk => h _ w' rfl (by rw [byteV_zsec]; exact hb) hk)
def FilledP (w : World) (l : List Int) (e : Ending) (w' : World) : Prop := ∃ g, e = .returned (.slice (some ⟨g, 0, none⟩) 128 128) ∧ w.heap.size ≤ g ∧ Blk w' g (byteV l) 5 ∧ Keeps Nil w w'
set_option maxRecDepth 20000 in
theorem filled_walk (w : World) (n : Int) : Calls Tryd.prog 15 #[.int .i64 n] w (FilledP w (fillL n)) := by
  go_enter Tryd.func15, Tryd.ntmps15
  go_wp2_with (at_make; refine wpl_make128 rfl _ _ 25 rfl 5 Tryd.underlying25 Tryd.infoU8z rfl rfl ?_)
  intro g w1 hg hb1 hk1
  rw [← fillTo_zero n] at hb1
  have HB := Lib.hid hb1
  have HK := Lib.hid hk1
  have HG : Hid (w.heap.size ≤ g) := Lib.hid (Nat.le_of_eq hg.symm)
  clear hb1 hk1 hg
  go_wp2_with fail
  go_loopw [4] (fun x wr => ∃ (j : Nat), x = .int .i64 j ∧ j ≤ 128 ∧ Hid (Blk wr g (byteV (fillTo n j)) 5) ∧ Hid (Keeps Nil w wr)) (fun x _ => 128 - (intOf x).toNat)
  case atStart => exact ⟨0, rfl, by omega, HB, HK⟩
  case round =>
    obtain ⟨j, rfl, hj, hB, hkj⟩ := hrel
    by_cases hjn : j < 128
    · have hj0 : (0 : Int) ≤ j := by omega
      have hj1 : (j : Int) < 128 := by omega
      have hcl : wr.cell? ⟨g, j, none⟩ = some (.int .u8 ((fillTo n j).getD j 0)) := hB.out.cell j (by unfold byteV; rw [List.getElem?_map]; exact getD_cell (fillTo_len hj) hjn)
      have hfz := hB.out.frozen j
      have HX : Hid (Blk (wr.setCell ⟨g, j, none⟩ (.int .u8 (n % 256))) g (byteV (fillTo n (j + 1))) 5 ∧ Keeps Nil w (wr.setCell ⟨g, j, none⟩ (.int .u8 (n % 256)))) := Lib.hid ⟨by rw [← fillTo_succ hjn, byteV_set]; exact hB.out.set j _, hkj.out.step ((Keeps.refl (One g) wr).setOne j _) (fun k hk => .inr (by rw [show k = g from hk]; exact HG.out))⟩
      go_wp2_with fail
      exact ⟨⟨j + 1, by go_num, by omega, Lib.hid HX.out.1, Lib.hid HX.out.2⟩, by first | (simp [intOf]; done) | (simp [intOf]; omega)⟩
    · obtain rfl : j = 128 := by omega
      rw [fillTo_all] at hB
      go_wp2_with fail
      go_ret
      exact ⟨g, rfl, HG.out, hB.out, hkj.out⟩
theorem Dk.new_readE {n : Nat} {i : Int} (h : 0 ≤ i ∧ i < n) : (Dk.new n).readE i = none := by
  unfold Dk.readE
  rw [Dk.new_len, if_neg (by simp [Dk.new]), if_neg (by omega)]
theorem Dk.new_readV {n : Nat} {i : Int} (h : 0 ≤ i ∧ i < n) : (Dk.new n).readV i = zsec := by
  unfold Dk.readV
  rw [Dk.new_readE h, if_pos rfl]
  have h2 : (Dk.new n).at_ i.toNat = [zsec] := by
    unfold Dk.at_ Dk.new
    rw [List.getD_eq_getElem?_getD, List.getElem?_replicate, if_pos (by omega)]
    rfl
  rw [h2]
  rfl
theorem Dk.new_image_len {n : Nat} (h : n ≤ 400) : (Dk.new n).image.length = 128 * n := by rw [(Dk.new_ok h).image_len, Dk.new_len]
set_option maxRecDepth 20000 in
set_option maxHeartbeats 800000 in
theorem diskfirst_walk {w : World} {pe : Nat → Addr} (hE : Err2 w pe) : Calls Tryd.prog 13 #[] w fun e w' => e = .returned (.bool true) ∧ Keeps Nil w w' := by
  have hn := new_walk w 2
  rw [show newN 2 = 2 by decide] at hn
  have HNW := Lib.hid hn
  have HE := Lib.hid hE
  clear hn hE
  go_enter Tryd.func13, Tryd.ntmps13
  go_wp2_with fail
  refine HNW.out.mono ?_
  rintro e w1 hN
  obtain ⟨p, R, rfl, hM⟩ := hN.mine
  have hr := read_walk (hM.err HE.out) hM.is (Dk.new_ok (by omega)) 0
  rw [Dk.new_readE (by omega), Dk.new_readV (by omega)] at hr
  have HR := Lib.hid hr
  have HM := Lib.hid hM
  clear hN hM hr HNW
  go_wp2_with fail
  refine HR.out.mono ?_
  rintro e w2 ⟨a, n, cap, rfl, ho, hl, hk, _⟩
  obtain rfl : n = 128 := by rw [← hl]; exact zsec_len
  have hM2 := HM.out.nil hk
  have hs := size_walk hM2.is
  have hi := image_walk hM2.is (Dk.new_ok (by omega))
  rw [Dk.new_len] at hs
  obtain ⟨g, ha, hgl, hrg⟩ := ho.some (by omega)
  subst ha
  have hc0 : w2.cell? ⟨g, 0, none⟩ = some (.int .u8 0) := hrg 0 (.int .u8 0) rfl
  have HX := Lib.hid (And.intro hs (And.intro hi hM2))
  have hlen : (Dk.new 2).image.length = 256 := Dk.new_image_len (by omega)
  have HL := Lib.hid hlen
  rw [show errO pe none = Value.nilIface from rfl]
  clear HR ho hl hk hM2 hs hi hrg hgl HM hlen
  go_wp2_with fail
  refine HX.out.1.mono ?_
  rintro e w3 ⟨rfl, rfl⟩
  go_wp2_with fail
  refine HX.out.2.1.mono ?_
  rintro e w4 ⟨ai, ci, rfl, _, hki, _⟩
  rw [HL.out]
  have HF := Lib.hid (HX.out.2.2.keeps.trans hki)
  clear hki
  go_wp2_with fail
  go_ret
  exact ⟨rfl, HF.out⟩
end Go.Proofs.YtkefbgkdkmkghaaDoor
