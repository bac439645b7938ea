/-
  Floats as text: the table of powers, prescale, uscale.
-/
import Derived.Test.YtmlfekcnpmlfkaaDoorFt1
import Derived.Test.YtmlfekcnpmlfkaaDoorRegion
import GoSem.PinnedTables
import Derived.KernelRfl
import Derived.Deep.DeepCutAuto
import Derived.Deep.CutRange
import Derived.Deep.CutBlock
namespace Go.Proofs.YtmlfekcnpmlfkaaDoor
set_option linter.unusedSimpArgs false
set_option linter.unusedVariables false
open Go.RowKit

def powHi (i : Nat) : Nat := (Go.Pinned.pow10Rows.getD i (0, 0)).1
def powLo (i : Nat) : Nat := (Go.Pinned.pow10Rows.getD i (0, 0)).2
theorem pow_all : ((List.range 696).all fun i => decide (powHi i < 18446744073709551616) && decide (powLo i < 18446744073709551616)) = true := by kernel_rfl
theorem pow_lt {i : Nat} (h : i < 696) : powHi i < W64 ∧ powLo i < W64 := by
  have := List.all_eq_true.1 pow_all i (List.mem_range.2 h)
  simpa using this
/-- The tables, as the program lays them. -/
structure Tabs (w : World) : Prop where
  pow : ∀ i, i < 696 → w.cell? ⟨3, i * 2, none⟩ = some (.int .u64 (powHi i)) ∧ w.cell? ⟨3, i * 2 + 1, none⟩ = some (.int .u64 (powLo i))
  ten : ∀ i, i < 20 → w.cell? ⟨2, i, none⟩ = some (.int .u64 ((10 ^ i : Nat) : Int))
theorem Tabs.keep {w w' : World} (h : Tabs w) (hk : Keeps Nil w w') : Tabs w' := ⟨fun i hi => ⟨hk.cell (h.pow i hi).1 (fun h => h), hk.cell (h.pow i hi).2 (fun h => h)⟩, fun i hi => hk.cell (h.ten i hi) (fun h => h)⟩
theorem Tabs.keepS {S : Nat → Prop} {w w' : World} (h : Tabs w) (hk : Keeps S w w') (h3 : ¬ S 3) (h2 : ¬ S 2) : Tabs w' := ⟨fun i hi => ⟨hk.cell (h.pow i hi).1 h3, hk.cell (h.pow i hi).2 h3⟩, fun i hi => hk.cell (h.ten i hi) h2⟩
theorem Tabs.lt {w : World} (h : Tabs w) : 3 < w.heap.size ∧ 2 < w.heap.size :=
  ⟨World.block_lt_of_cell? w _ (h.pow 0 (by decide)).1, World.block_lt_of_cell? w _ (h.ten 0 (by decide))⟩
/-- A scaler. -/
def ScAt (w : World) (g : Nat) (H L : Nat) (s : Int) : Prop := Blk w g [.int .u64 H, .int .u64 L, .int .i64 s] 79
set_option maxHeartbeats 800000 in
theorem prescale_walk {w : World} {g : Nat} (hb : ScAt w g 0 0 0) (ht : Tabs w) (hg : g ≠ 3) (e p lp : Int) (i : Nat) (hi : p + 348 = i) (hi2 : i < 696) (he : -100000 ≤ e ∧ e ≤ 100000) (hl : -100000 ≤ lp ∧ lp ≤ 100000) :
    Calls Tryd.prog 63 #[.pointer (some ⟨g, 0, none⟩), .int .i64 e, .int .i64 p, .int .i64 lp] w fun r w' => r = .returned (.tuple #[]) ∧ ScAt w' g (powHi i) (powLo i) (-(e + lp + 3)) ∧ Keeps (One g) w w' := by
  have b0 := Blk.cell hb 0 rfl
  have b1 := Blk.cell hb 1 rfl
  have b2 := Blk.cell hb 2 rfl
  have z0 := Blk.frozen hb 0
  have z1 := Blk.frozen hb 1
  have z2 := Blk.frozen hb 2
  have t0 := (ht.pow i hi2).1
  have t1 := (ht.pow i hi2).2
  obtain ⟨he1, he2⟩ := he
  obtain ⟨hl1, hl2⟩ := hl
  have hp : IntKind.i64.wrap (p - -348) = (i : Int) := by rw [IntKind.wrap_i64]; omega
  have hp2 : p - -348 = (i : Int) := by omega
  have hi3 : (i : Int) < 696 := by omega
  have hi0 : (0 : Int) ≤ i := by omega
  have HF : Hid (ScAt (((w.setCell ⟨g, 0, none⟩ (.int .u64 (powHi i))).setCell ⟨g, 1, none⟩ (.int .u64 (powLo i))).setCell ⟨g, 2, none⟩ (.int .i64 (-(e + lp + 3)))) g (powHi i) (powLo i) (-(e + lp + 3)) ∧ Keeps (One g) w (((w.setCell ⟨g, 0, none⟩ (.int .u64 (powHi i))).setCell ⟨g, 1, none⟩ (.int .u64 (powLo i))).setCell ⟨g, 2, none⟩ (.int .i64 (-(e + lp + 3))))) :=
    Lib.hid ⟨((Blk.set hb 0 (.int .u64 (powHi i))).set 1 (.int .u64 (powLo i))).set 2 (.int .i64 (-(e + lp + 3))), (((Keeps.refl _ _).setOne _ _).setOne _ _).setOne _ _⟩
  clear hb ht hi hi2
  generalize powHi i = H at *
  generalize powLo i = L at *
  go_enter Tryd.func63, Tryd.ntmps63
  go_wp2_with fail
  go_end0
  exact ⟨rfl, HF.out⟩
theorem i64_and63 (n : Int) : bits .and .i64 n 63 = n % 64 := by
  have h127 : (BitVec.ofInt 64 63).toNat = 2 ^ 6 - 1 := by decide
  have key : (BitVec.ofInt 64 n &&& BitVec.ofInt 64 63).toNat = (n % ((2 ^ 64 : Nat) : Int)).toNat % 2 ^ 6 := by
    rw [BitVec.toNat_and, BitVec.toNat_ofInt, h127, Nat.and_two_pow_sub_one_eq_mod]
  show IntKind.i64.wrap ((BitVec.ofInt 64 n &&& BitVec.ofInt 64 63).toNat : Nat) = n % 64
  rw [key, IntKind.wrap_i64]
  omega
def usHi (x H s : Nat) : Nat := x * H / W64 / 2 ^ s
def uscaleN (x H L s : Nat) : Nat :=
  if x * H / W64 / 2 ^ s * 2 ^ s % W64 ≠ x * H / W64 then (x * H / W64 / 2 ^ s) ||| 1
  else ((x * H / W64 + W64 - (decide (x * H % W64 < x * L / W64)).toNat) % W64 / 2 ^ s) ||| (decide (1 < (x * H % W64 + W64 - x * L / W64) % W64)).toNat
theorem uscale_lt (x H L s : Nat) (hx : x < W64) (hH : H < W64) : uscaleN x H L s < W64 := by
  have h1 : x * H / W64 < W64 := by
    have : x * H < W64 * W64 := Nat.mul_lt_mul'' hx hH
    exact Nat.div_lt_of_lt_mul this
  have h2 : ∀ y, y < W64 → y / 2 ^ s < 2 ^ 64 := fun y hy => Nat.lt_of_le_of_lt (Nat.div_le_self _ _) hy
  unfold uscaleN
  split
  · exact Nat.or_lt_two_pow (h2 _ h1) (by decide)
  · refine Nat.or_lt_two_pow (h2 _ (Nat.mod_lt _ (by decide))) ?_
    cases decide (1 < (x * H % W64 + W64 - x * L / W64) % W64) <;> decide
set_option maxHeartbeats 1600000 in
theorem uscale_walk {w : World} {g : Nat} {H L : Nat} {S : Int} (hb : ScAt w g H L S) (x : Nat) (hx : x < W64) (hH : H < W64) (hL : L < W64) :
    Calls Tryd.prog 65 #[.int .u64 x, .pointer (some ⟨g, 0, none⟩)] w fun e w' => e = .returned (.int .u64 (uscaleN x H L (S % 64).toNat)) ∧ Keeps Nil w w' := by
  have b0 := Blk.cell hb 0 rfl
  have b1 := Blk.cell hb 1 rfl
  have b2 := Blk.cell hb 2 rfl
  have hs := i64_and63 S
  obtain ⟨s, hss⟩ : ∃ s : Nat, S % 64 = (s : Int) := ⟨(S % 64).toNat, by omega⟩
  have hs63 : s ≤ 63 := by omega
  have HM1 := Lib.hid (fun w => mul64_walk x H hx hH w)
  have HM2 := Lib.hid (fun w => mul64_walk x L hx hL w)
  have HU : Hid (uscaleN x H L s = if x * H / W64 / 2 ^ s * 2 ^ s % W64 ≠ x * H / W64 then (x * H / W64 / 2 ^ s) ||| 1
  else ((x * H / W64 + W64 - (decide (x * H % W64 < x * L / W64)).toNat) % W64 / 2 ^ s) ||| (decide (1 < (x * H % W64 + W64 - x * L / W64) % W64)).toNat) := Lib.hid rfl
  rw [hss] at hs ⊢
  have hhi : x * H / W64 < W64 := Nat.div_lt_of_lt_mul (Nat.mul_lt_mul'' hx hH)
  have hlo : x * H % W64 < W64 := Nat.mod_lt _ (by decide)
  have hm2 : x * L / W64 < W64 := Nat.div_lt_of_lt_mul (Nat.mul_lt_mul'' hx hL)
  rw [show ((s : Int)).toNat = s from rfl]
  generalize uscaleN x H L s = U at *
  unfold W64 at *
  generalize x * H / 18446744073709551616 = hi at *
  generalize x * H % 18446744073709551616 = mid at *
  generalize x * L / 18446744073709551616 = mid2 at *
  generalize x * L % 18446744073709551616 = low2 at *
  obtain ⟨q, hq⟩ : ∃ q, q = hi / 2 ^ s := ⟨_, rfl⟩
  have hqi : (hi : Int) / 2 ^ s = (q : Int) := by rw [hq]; simp
  have hwq : IntKind.u64.wrap ((q : Int) * 2 ^ s) = ((q * 2 ^ s % 18446744073709551616 : Nat) : Int) := by
    rw [IntKind.wrap_u64, show (q : Int) * 2 ^ s = ((q * 2 ^ s : Nat) : Int) by simp]
    omega
  rw [← hq] at HU
  have hql : q ≤ hi := by rw [hq]; exact Nat.div_le_self _ _
  obtain ⟨r, hr⟩ : ∃ r, r = q * 2 ^ s % 18446744073709551616 := ⟨_, rfl⟩
  rw [← hr] at HU hwq
  clear hss hb hr hq
  by_cases hc : r = hi
  · rw [if_neg (by rw [hc]; simp)] at HU
    subst hc
    obtain ⟨d1, hb1⟩ : ∃ b1, b1 = decide (mid < mid2) := ⟨_, rfl⟩
    have hbi : decide (mid < mid2) = d1 := hb1.symm
    rw [← hb1] at HU
    obtain ⟨h2, hh2⟩ : ∃ h2, h2 = (r + 18446744073709551616 - d1.toNat) % 18446744073709551616 := ⟨_, rfl⟩
    have hbl : d1.toNat ≤ 1 := by cases d1 <;> decide
    have hw2 : IntKind.u64.wrap ((r : Int) - (d1.toNat : Nat)) = (h2 : Int) := by rw [IntKind.wrap_u64, hh2]; omega
    obtain ⟨m3, hm3⟩ : ∃ m3, m3 = (mid + 18446744073709551616 - mid2) % 18446744073709551616 := ⟨_, rfl⟩
    have hw3 : IntKind.u64.wrap ((mid : Int) - (mid2 : Int)) = (m3 : Int) := by rw [IntKind.wrap_u64, hm3]; omega
    rw [← hh2, ← hm3] at HU
    obtain ⟨q2, hq2⟩ : ∃ q2, q2 = h2 / 2 ^ s := ⟨_, rfl⟩
    have hq2i : (h2 : Int) / 2 ^ s = (q2 : Int) := by rw [hq2]; simp
    rw [← hq2] at HU
    have hq2l : q2 < 18446744073709551616 := by
      have : q2 ≤ h2 := by rw [hq2]; exact Nat.div_le_self _ _
      have : h2 < 18446744073709551616 := by rw [hh2]; exact Nat.mod_lt _ (by decide)
      omega
    obtain ⟨b3, hb3⟩ : ∃ b3, b3 = decide (1 < m3) := ⟨_, rfl⟩
    have hb3n : decide (1 < m3) = b3 := hb3.symm
    have hb3i : decide ((1 : Int) < (m3 : Int)) = b3 := by rw [hb3]; exact decide_eq_decide.2 (by omega)
    rw [← hb3] at HU
    have hor := bits_or_u64_nat q2 b3.toNat hq2l (by cases b3 <;> decide)
    have HL2 : h2 ≤ 18446744073709551615 := by rw [hh2]; omega
    have HM3 : m3 ≤ 18446744073709551615 := by rw [hm3]; omega
    clear hb1 hh2 hm3 hq2 hb3
    go_enter Tryd.func65, Tryd.ntmps65
    go_wp2_with fail
    refine (HM1.out w).mono ?_
    rintro e w1 ⟨rfl, rfl⟩
    go_wp2_with fail
    refine (HM2.out w1).mono ?_
    rintro e w2 ⟨rfl, rfl⟩
    go_wp2_with fail
    refine (boolU_walk d1 w2).mono ?_
    rintro e w3 ⟨rfl, rfl⟩
    go_wp2_with fail
    refine wp_region_held_drew (S := fun _ => True) (by kernel_rfl) trivial (fun hHeld => ?_)
    have hkd : Keeps Nil w2 w2.drew := (Keeps.refl Nil w2).drew
    generalize w2.drew = v0 at *
    refine takeL (i := 0) (v := _) rfl (by kernel_rfl) (by kernel_rfl) (by kernel_rfl) (fun _ _ _ h => h) (Or.inl ⟨by rfl, by intro w hSw; (try dsimp only at hSw); go_simp; try with_reducible rfl⟩) (by assumption) ?_
    try simp only [Act.put, List.setIfInBounds_toArray, List.set_cons_zero, List.set_cons_succ]
    refine takeL (i := 1) (v := _) rfl (by kernel_rfl) (by kernel_rfl) (by kernel_rfl) (fun _ _ _ h => h) (Or.inl ⟨by rfl, by intro w hSw; (try dsimp only at hSw); go_simp; try with_reducible rfl⟩) (by assumption) ?_
    try simp only [Act.put, List.setIfInBounds_toArray, List.set_cons_zero, List.set_cons_succ]
    refine takeL (i := 2) (v := _) rfl (by kernel_rfl) (by kernel_rfl) (by kernel_rfl) (fun _ _ _ h => h) (Or.inl ⟨by rfl, by intro w hSw; (try dsimp only at hSw); go_simp; try with_reducible rfl⟩) (by assumption) ?_
    try simp only [Act.put, List.setIfInBounds_toArray, List.set_cons_zero, List.set_cons_succ]
    refine takeL (i := 3) (v := _) rfl (by kernel_rfl) (by kernel_rfl) (by kernel_rfl) (fun _ _ _ h => h) (Or.inl ⟨by rfl, by intro w hSw; (try dsimp only at hSw); go_simp; try with_reducible rfl⟩) (by assumption) ?_
    try simp only [Act.put, List.setIfInBounds_toArray, List.set_cons_zero, List.set_cons_succ]
    refine takeL (i := 4) (v := _) rfl (by kernel_rfl) (by kernel_rfl) (by kernel_rfl) (fun _ _ _ h => h) (Or.inl ⟨by rfl, by intro w hSw; (try dsimp only at hSw); go_simp; try with_reducible rfl⟩) (by assumption) ?_
    try simp only [Act.put, List.setIfInBounds_toArray, List.set_cons_zero, List.set_cons_succ]
    refine takeL (i := 5) (v := _) rfl (by kernel_rfl) (by kernel_rfl) (by kernel_rfl) (fun _ _ _ h => h) (Or.inl ⟨by rfl, by intro w hSw; (try dsimp only at hSw); go_simp; try with_reducible rfl⟩) (by assumption) ?_
    try simp only [Act.put, List.setIfInBounds_toArray, List.set_cons_zero, List.set_cons_succ]
    refine takeL (i := 6) (v := _) rfl (by kernel_rfl) (by kernel_rfl) (by kernel_rfl) (fun _ _ _ h => h) (Or.inl ⟨by rfl, by intro w hSw; (try dsimp only at hSw); go_simp; try with_reducible rfl⟩) (by assumption) ?_
    try simp only [Act.put, List.setIfInBounds_toArray, List.set_cons_zero, List.set_cons_succ]
    refine onlyL (i := 7) rfl (by kernel_rfl) (fun K hK => ?_)
    go_simp
    refine (boolU_walk b3 v0).mono ?_
    rintro e w4 ⟨rfl, rfl⟩
    refine (fun hHeld => hK _ _ hHeld ?_) (trivial)
    clear hK
    try simp only [Act.put, List.setIfInBounds_toArray, List.set_cons_zero, List.set_cons_succ]
    refine takeL (i := 8) (v := _) rfl (by kernel_rfl) (by kernel_rfl) (by kernel_rfl) (fun _ _ _ h => h) (Or.inl ⟨by rfl, by intro w hSw; (try dsimp only at hSw); go_simp; try with_reducible rfl⟩) (by assumption) ?_
    try simp only [Act.put, List.setIfInBounds_toArray, List.set_cons_zero, List.set_cons_succ]
    refine takeL (i := 9) (v := _) rfl (by kernel_rfl) (by kernel_rfl) (by kernel_rfl) (fun _ _ _ h => h) (Or.inl ⟨by rfl, by intro w hSw; (try dsimp only at hSw); go_simp; try with_reducible rfl⟩) (by assumption) ?_
    try simp only [Act.put, List.setIfInBounds_toArray, List.set_cons_zero, List.set_cons_succ]
    refine wpAnyH_done (by kernel_rfl) ?_ _
    go_wp2_with fail
    go_ret
    exact ⟨by rw [HU.out]; rfl, hkd⟩
  · rw [if_pos hc] at HU
    have hci : ((r : Int) != (hi : Int)) = true := by rw [bne_iff_ne]; omega
    have hor : bits .or .u64 (q : Int) 1 = ((q ||| 1 : Nat) : Int) := bits_or_u64_nat q 1 (by omega) (by decide)
    go_enter Tryd.func65, Tryd.ntmps65
    go_wp2_with fail
    refine (HM1.out w).mono ?_
    rintro e w1 ⟨rfl, rfl⟩
    go_wp2_with fail
    go_ret
    exact ⟨by rw [HU.out]; rfl, Keeps.refl _ _⟩
end Go.Proofs.YtmlfekcnpmlfkaaDoor
