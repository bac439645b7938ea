/-
  The law BitsOf's walk.
-/
import Derived.Test.YtokminiendnhoaaDoorBitsOf
import Derived.Test.YtokminiendnhoaaDoorBitsFirst
import Derived.Deep.RegionHeld3
namespace Go.Proofs.YtokminiendnhoaaDoor
open Go.RowKit

theorem sameL_refl (l : List Int) : sameL l l = true := by simp [sameL]

set_option maxRecDepth 100000 in
set_option maxHeartbeats 2000000 in
theorem bitsOf_walk (a0 : Int) (a1 : Option Addr) (len1 cap1 : Nat) (z1 : List Int) (w : World) (w0 : (Lit.int .i64 a0).wf = true) (w1 : IsRow .u8 w a1 len1 cap1 z1) {p : Nat → Addr} (hE : Errs w p) :
    Calls Tryd.prog 3 #[.int .i64 a0, .slice a1 len1 cap1] w (True_ w) := by
  have hr0 := i64_wf w0
  have hrow := Row.of_isRow w1
  have hnil := w1.nil
  have hmost := hrow.most
  clear w1
  generalize z1.take len1 = bs at *
  have hb0 : 0 ≤ a0 % 60 := Int.emod_nonneg _ (by omega)
  have hb1 : a0 % 60 < 60 := Int.emod_lt_of_pos _ (by omega)
  have HN := Lib.hid hnil
  clear hnil
  go_enter Tryd.func3, Tryd.ntmps3
  go_wp2_with fail
  refine (bitsfirst_walk _).mono ?_
  rintro e wa ⟨rfl, hka⟩
  by_cases hlen : 150 < len1
  · go_wp2_with fail
    go_ret
    exact ⟨rfl, hka⟩
  · go_wp2_with fail
    refine (number_walk a0 60 _ (by omega) (by omega) (by omega) (by omega)).mono ?_
    rintro e wb ⟨rfl, rfl⟩
    generalize a0 % 60 = nn at *
    by_cases hgood : bs.length = bytesOf (capN (nn - 3)) ∧ Clean (capN (nn - 3)) bs
    · go_wp2_with fail
      refine (of_good (nn - 3) (hrow.keep hka) HN.out hgood.1 hgood.2).mono ?_
      rintro e w2 ⟨g, a, cap, rfl, hm, hk2, hg, hf⟩
      go_wp2_with fail
      refine (mapOf_good (nn - 3) ((hrow.keep hka).keep hk2) hgood.1 hgood.2).mono ?_
      rintro e w3 ⟨g2, b2, rfl, hd, hk3, hg2, hb2⟩
      have hm3 := hm.keep0 hk3
      have c0 := hd.cell0
      have hrow3 := ((hrow.keep hka).keep hk2).keep hk3
      have hk0 := (hka.trans hk2).trans hk3
      clear hm hgood hrow hk2 hk3 hka
      go_wp2_with fail
      go_region_held3 (fun w' => w'.cell? ⟨g2, 0, none⟩ = some (.slice (some ⟨b2, 0, none⟩) (capN (nn - 3)) (capN (nn - 3)))) (first | go_keep | exact hkC.cell c0 (fun h => h) | exact hkB.cell c0 (fun h => h)) (first | (go_at_call 11; refine (size_walk _ (hm3.keep0 ?_)).mono ?_; exact ((Keeps.refl Nil w3).drew); rintro e w4 ⟨rfl, rfl⟩) | (go_at_call 13; refine (mapBytes_walk _ (hm3.keep0 ?_)).mono ?_; exact ((Keeps.refl Nil w3).drew); rintro e w5 ⟨a5, c5, rfl, hown5, hk5, hf5⟩; have hkB := (Keeps.refl Nil w3).drew.trans hk5) | (go_at_call 12; refine (sameBytes_walk (l := bs) (hown5.row ?_) (hrow3.keep hkB)).mono ?_; exact hrow3.wf; rintro e w6 ⟨rfl, hdr⟩; have hkC := hkB.trans (hdr.keeps Nil)))
      go_wp2
      go_ret
      refine ⟨?_, hk0.trans hkC⟩
      rw [sameL_refl]
      simp
    · go_wp2_with fail
      refine (of_bad (hE.keep hka) (nn - 3) (hrow.keep hka) hgood).mono ?_
      rintro e w2 ⟨rfl, hk2⟩
      go_wp2_with fail
      refine (mapOf_bad (nn - 3) ((hrow.keep hka).keep hk2) (by omega) hgood).mono ?_
      rintro e w3 ⟨rfl, hk3⟩
      have hk0 := (hka.trans hk2).trans hk3
      have hiv : isV 105 false 0 105 = true := by decide
      clear hgood hrow hk2 hk3 hka
      unfold errV
      go_wp2_with fail
      refine (is_walk (hE.keep hk0) (.inr (.inl ⟨4, by decide, rfl, rfl, rfl, rfl⟩)) 105).mono ?_
      rintro e w4 ⟨rfl, hk4⟩
      go_wp2_with fail
      go_quiet (fail)
      go_wp2_with fail
      go_ret
      exact ⟨rfl, (hk0.trans hk4).drewN _⟩
end Go.Proofs.YtokminiendnhoaaDoor
