/-
  Floats as text: ftoa64.
-/
import Derived.Test.YtmlfekcnpmlfkaaDoorFt7
import Derived.BigQuiet
namespace Go.Proofs.YtmlfekcnpmlfkaaDoor
set_option linter.unusedSimpArgs false
set_option linter.unusedVariables false
open Go.RowKit

theorem shortR_lt (m : Nat) (e P : Int) (mn mx : Nat) (od : Int) : (shortR m e P mn mx od).1 < W64 := by
  unfold shortR
  have h1 : ∀ u, floorN (nudgeN u (-od)) < W64 := fun u => by unfold floorN nudgeN W64; omega
  have h2 : ∀ u, ceilN u < W64 := fun u => by unfold ceilN W64; omega
  have h3 : ∀ u, roundN u < W64 := fun u => by unfold roundN W64; omega
  split
  · exact Nat.lt_of_le_of_lt (Nat.div_le_self _ _) (h1 _)
  · split
    · exact h3 _
    · exact h2 _
theorem shortR_p (m : Nat) (e P : Int) (mn mx : Nat) (od : Int) : (shortR m e P mn mx od).2 = -P ∨ (shortR m e P mn mx od).2 = -(P - 1) := by
  unfold shortR
  split
  · exact .inr rfl
  · split <;> exact .inl rfl
theorem shortF_lt (m : Nat) (e : Int) : (shortF m e).1 < W64 := by unfold shortF; split <;> exact shortR_lt _ _ _ _ _ _
theorem shortF_p (m : Nat) (e : Int) (he : -1137 ≤ e ∧ e ≤ 1000) : -400 ≤ (shortF m e).2 ∧ (shortF m e).2 ≤ 400 := by
  unfold shortF shortZ
  split
  · rcases shortR_p m e (-(((e + 11) * 631305 - 261663) / 2097152)) ((m + W64 - 512) % W64) ((m + 1024) % W64) ((m / 2048 : Nat) % 2) with h | h <;> rw [h] <;> omega
  · generalize hz : (if -1085 ≤ e then 11 else (11 + (-1085 - e)).toNat) = Z
    have hZ : -1074 ≤ e + (Z : Int) ∧ e + (Z : Int) ≤ 1011 := by split at hz <;> omega
    rcases shortR_p m e (-((e + (Z : Nat)) * 78913 / 262144)) ((m + W64 - 2 ^ (Z - 1)) % W64) ((m + 2 ^ (Z - 1)) % W64) ((m / 2 ^ Z : Nat) % 2) with h | h <;> rw [h] <;> omega
def exB (b : Nat) : Nat := b / 4503599627370496 % 2048
def expB (b : Nat) : Int := if exB b = 0 then -1022 else (exB b : Int) - 1023
def manB (b : Nat) : Nat := if exB b = 0 then b % 4503599627370496 else b % 4503599627370496 + 4503599627370496
def shB (b : Nat) : Nat := 64 - Lib.bitLen (manB b)
def decB (b : Nat) : Nat × Int := shortF (manB b * 2 ^ shB b % W64) (expB b - shB b - 52)
def zero32 : List Int := List.replicate 32 0
def digB (b : Nat) : List Int := fb10 (nDig (decB b).1) zero32 (decB b).1
def textB (b : Nat) : List Int := textG (decide (b / 9223372036854775808 ≠ 0)) (digB b) (trimZ (digB b) (nDig (decB b).1)) (nDig (decB b).1 + (decB b).2)

theorem i64_and2047 (n : Int) : bits .and .i64 n 2047 = n % 2048 := by
  have h127 : (BitVec.ofInt 64 2047).toNat = 2 ^ 11 - 1 := by decide
  have key : (BitVec.ofInt 64 n &&& BitVec.ofInt 64 2047).toNat = (n % ((2 ^ 64 : Nat) : Int)).toNat % 2 ^ 11 := by
    rw [BitVec.toNat_and, BitVec.toNat_ofInt, h127, Nat.and_two_pow_sub_one_eq_mod]
  show IntKind.i64.wrap ((BitVec.ofInt 64 n &&& BitVec.ofInt 64 2047).toNat : Nat) = n % 2048
  rw [key, IntKind.wrap_i64]
  omega
theorem u64_andM (n : Int) : bits .and .u64 n 4503599627370495 = n % 4503599627370496 := by
  have h127 : (BitVec.ofInt 64 4503599627370495).toNat = 2 ^ 52 - 1 := by decide
  have key : (BitVec.ofInt 64 n &&& BitVec.ofInt 64 4503599627370495).toNat = (n % ((2 ^ 64 : Nat) : Int)).toNat % 2 ^ 52 := by
    rw [BitVec.toNat_and, BitVec.toNat_ofInt, h127, Nat.and_two_pow_sub_one_eq_mod]
  show IntKind.u64.wrap ((BitVec.ofInt 64 n &&& BitVec.ofInt 64 4503599627370495).toNat : Nat) = n % 4503599627370496
  rw [key, IntKind.wrap_u64]
  omega
theorem u64_orM (x : Nat) (h : x < 4503599627370496) : bits .or .u64 (x : Int) 4503599627370496 = ((x + 4503599627370496 : Nat) : Int) := by
  have h1 : bits .or .u64 (x : Int) 4503599627370496 = ((x ||| 4503599627370496 : Nat) : Int) := bits_or_u64_nat x 4503599627370496 (by omega) (by decide)
  have h2 : x + 4503599627370496 = x ||| 4503599627370496 := by
    have := Nat.two_pow_add_eq_or_of_lt (i := 52) (b := x) (by simpa using h) 1
    rw [Nat.or_comm]
    simp at this
    omega
  rw [h1, h2]
theorem bitLen_pos {d : Nat} (h : d ≠ 0) : 1 ≤ Lib.bitLen d := by
  unfold Lib.bitLen Lib.bitLenAux
  rw [if_neg h]
  omega
theorem u64_wrapN (x : Nat) : IntKind.u64.wrap (x : Int) = ((x % W64 : Nat) : Int) := by rw [IntKind.wrap_u64]; unfold W64; omega
theorem fmtG_walk {w0 w : World} {g : Nat} {L : List Int} {T : TypeId} {a : Option Addr} {c n : Nat} {X : List Int} (h : Buf w0 w g L T a c n X) (hL : L.length = 32) (hn : n ≤ 1000) (neg : Bool) (nd : Nat) (hnd : nd ≤ 20) (dp : Int) (hdp : -900 < dp ∧ dp < 900) :
    Calls Tryd.prog 47 #[.slice a n c, .bool neg, .slice (some ⟨g, 0, none⟩) 32 32, .int .i64 dp, .int .i64 nd, .int .i64 nd, .int .u8 103, .bool true] w (FmtP w0 X (textG neg L nd dp) n) := by
  unfold textG
  by_cases hE : dp - 1 < -4 ∨ 6 ≤ dp - 1
  · rw [if_pos hE]; exact fmtE_walk h hL hn neg nd hnd dp hdp hE
  · rw [if_neg hE]; exact fmtF_walk h hL hn neg nd hnd dp (by omega) (by omega)
theorem bits_run (b : Nat) (w : World) : (callFunc 44 #[.float .f64 b]).run Tryd.prog w = .ok (.value (.int .u64 b)) w := by
  rw [run_callFunc_extern (fn := Tryd.f44) (e := Go.Extern.MathFloatBits.float64bits) (by kernel_rfl) (by kernel_rfl) (by kernel_rfl) (by kernel_rfl) (by kernel_rfl)]
  rfl
set_option maxRecDepth 20000 in
set_option maxHeartbeats 3200000 in
theorem ftoa_walk {w0 w : World} {a : Option Addr} {c n : Nat} {X : List Int} (ht : Tabs w) (ho : Own w 5 1 a c n (byteV X)) (hfr : ∀ k, blkOf a k → w0.heap.size ≤ k) (hk : Keeps Nil w0 w) (hn : n ≤ 1000)
    (b : Nat) (hb : b < W64) (hfin : exB b ≠ 2047) (hz : manB b ≠ 0) :
    Calls Tryd.prog 40 #[.slice a n c, .float .f64 b, .int .u8 103, .int .i64 (-1)] w (FmtP w0 X (textB b) n) := by
  have hbr := bits_run b
  obtain ⟨ng, hng⟩ : ∃ ng, ((b : Int) / 9223372036854775808 != 0) = ng := ⟨_, rfl⟩
  obtain ⟨Q, hQ⟩ : ∃ Q : Nat, b / 4503599627370496 = Q := ⟨_, rfl⟩
  obtain ⟨EX, hEX⟩ : ∃ E : Nat, exB b = E := ⟨_, rfl⟩
  obtain ⟨MT, hMT⟩ : ∃ M : Nat, b % 4503599627370496 = M := ⟨_, rfl⟩
  have hQi : (b : Int) / 4503599627370496 = (Q : Int) := by omega
  have hQw : IntKind.i64.wrap (Q : Int) = (Q : Int) := by rw [IntKind.wrap_i64]; unfold W64 at hb; omega
  have hQe : bits .and .i64 (Q : Int) 2047 = (EX : Int) := by rw [i64_and2047]; unfold exB at hEX; omega
  have hMe : bits .and .u64 (b : Int) 4503599627370495 = (MT : Int) := by rw [u64_andM]; omega
  have hor := u64_orM MT (by omega)
  have hEb : EX < 2048 := by unfold exB at hEX; omega
  have hMb : MT < 4503599627370496 := by omega
  rw [hEX] at hfin
  have hf1 : ((EX : Int) == 2047) = false := by rw [beq_eq_false_iff_ne]; omega
  by_cases h0 : EX = 0
  · subst h0
    have HM : manB b = MT := by unfold manB; rw [if_pos hEX]; exact hMT
    have HE : expB b = -1022 := by unfold expB; rw [if_pos hEX]
    have hmz : ((MT : Int) == 0) = false := by rw [beq_eq_false_iff_ne]; rw [HM] at hz; omega
    go_enter Tryd.func40, Tryd.ntmps40
    go_wp2_with fail
    go_quiet (fail)
    go_wp2_with fail
    obtain ⟨E0, hE0⟩ : ∃ E : Int, -1022 = E := ⟨_, rfl⟩
    obtain ⟨MN, hMN⟩ : ∃ M : Nat, MT = M := ⟨_, rfl⟩
    have hE0b : -1022 ≤ E0 ∧ E0 ≤ 1023 := by omega
    rw [hE0] at HE ⊢
    rw [hMN] at HM hmz ⊢
    have hMNb : MN < 9007199254740992 := by omega
    have hkq : Keeps Nil w (w.drewN nq) := (Keeps.refl _ _).drewN nq
    have hsz : (w.drewN nq).heap.size = w.heap.size := rfl
    generalize w.drewN nq = wq at *
    obtain ⟨g, hg⟩ : ∃ g, w.heap.size = g := ⟨_, rfl⟩
    rw [hg] at hsz ⊢
    refine (len64_walk (MN : Int) _ (by omega) (by omega)).mono ?_
    rintro r wA ⟨rfl, hwA⟩
    have hbA : Blk wA g (byteV zero32) 57 := by rw [hwA]; exact Blk.new' wq (byteV zero32) _ hsz.symm
    have hkA : Keeps Nil w wA := by rw [hwA]; exact hkq.alloc _
    rw [show ((MN : Int)).toNat = MN from rfl]
    have hbl := bitLen_le53 hMNb
    have hbp := bitLen_pos (d := MN) (by rw [← HM]; exact hz)
    obtain ⟨BL, hBL⟩ : ∃ B, Lib.bitLen MN = B := ⟨_, rfl⟩
    rw [hBL] at hbl hbp ⊢
    obtain ⟨S, hSe⟩ : ∃ S, 64 - BL = S := ⟨_, rfl⟩
    have hS : (64 : Int) - (BL : Int) = (S : Int) := by omega
    have hSb : 11 ≤ S ∧ S ≤ 63 := by omega
    have hSw : IntKind.i64.wrap (S : Int) = (S : Int) := by rw [IntKind.wrap_i64]; omega
    have HS : Hid (shB b = S) := Lib.hid (by unfold shB; rw [HM, hBL, hSe])
    have hES : IntKind.i64.wrap (E0 - (S : Int)) = E0 - (S : Int) := by rw [IntKind.wrap_i64]; omega
    have hES2 : IntKind.i64.wrap (E0 - (S : Int) - 52) = E0 - (S : Int) - 52 := by rw [IntKind.wrap_i64]; omega
    have hEb2 : -1137 ≤ E0 - (S : Int) - 52 ∧ E0 - (S : Int) - 52 ≤ 1000 := by omega
    have HMH := Lib.hid HM
    have HEH := Lib.hid HE
    have HBA := Lib.hid hbA
    have HKA := Lib.hid hkA
    have HTA := Lib.hid (ht.keep hkA)
    have hgl := ht.lt
    have hgne : ¬ One g 3 ∧ ¬ One g 2 := by constructor <;> (intro h; have h' : _ = g := h; omega)
    have HON := Lib.hid (ho.keep0 hkA)
    have HNE := Lib.hid (show ∀ k, blkOf a k → k ≠ g from fun k hk' => by have := ho.lt k hk'; omega)
    have HKW := Lib.hid (hk.trans hkA)
    have HGW := Lib.hid (show w0.heap.size ≤ g by have := hk.size; omega)
    have HNG := Lib.hid (show decide (b / 9223372036854775808 ≠ 0) = ng by rw [← hng, Bool.eq_iff_iff, decide_eq_true_iff, bne_iff_ne]; constructor <;> (intro h; omega))
    clear hwA hkq hsz hbA hkA HM HE hSe hBL ht ho hk hgl hg hng
    go_wp2_with fail
    obtain ⟨MM, hMM⟩ : ∃ m, MN * 2 ^ S % W64 = m := ⟨_, rfl⟩
    have hMMw : IntKind.u64.wrap ((MN : Int) * 2 ^ S) = (MM : Int) := by rw [show (MN : Int) * 2 ^ S = ((MN * 2 ^ S : Nat) : Int) by push_cast; rfl, u64_wrapN, hMM]
    have hMMl : MM < W64 := by rw [← hMM]; exact Nat.mod_lt _ (by decide)
    rw [hMMw]
    refine (short_walk HTA.out MM (E0 - (S : Int) - 52) hMMl hEb2).mono ?_
    rintro r wB ⟨rfl, hkB⟩
    have hDl := shortF_lt MM (E0 - (S : Int) - 52)
    have hPb := shortF_p MM (E0 - (S : Int) - 52) hEb2
    obtain ⟨D, hD⟩ : ∃ D, (shortF MM (E0 - (S : Int) - 52)).1 = D := ⟨_, rfl⟩
    obtain ⟨P, hP⟩ : ∃ P, (shortF MM (E0 - (S : Int) - 52)).2 = P := ⟨_, rfl⟩
    have HDC : Hid ((decB b).1 = D ∧ (decB b).2 = P) := Lib.hid (by unfold decB; rw [HMH.out, HS.out, HEH.out, hMM]; exact ⟨hD, hP⟩)
    rw [hD] at hDl ⊢
    rw [hP] at hPb ⊢
    have HKB := Lib.hid hkB
    clear hMM hMMw hD hP hkB
    go_wp2_with fail
    refine wp_region_held_drew (S := fun _ => True) (by kernel_rfl) trivial (fun hHeld => ?_)
    have hkd : Keeps Nil wA wB.drew := HKB.out.drew
    have HKD := Lib.hid hkd
    clear hkd HKB
    generalize wB.drew = v0 at *
    have HTv := Lib.hid (HTA.out.keep HKD.out)
    have HBv := Lib.hid (HBA.out.keep HKD.out (fun h => h))
    refine takeL (i := 0) (v := _) rfl (by kernel_rfl) (by kernel_rfl) (by kernel_rfl) (fun _ _ _ h => h) (Or.inl ⟨by rfl, by intro w hSw; (try dsimp only at hSw); go_simp; try with_reducible rfl⟩) (by assumption) ?_
    try simp only [Act.put, List.setIfInBounds_toArray, List.set_cons_zero, List.set_cons_succ]
    refine takeL (i := 1) (v := _) rfl (by kernel_rfl) (by kernel_rfl) (by kernel_rfl) (fun _ _ _ h => h) (Or.inl ⟨by rfl, by intro w hSw; (try dsimp only at hSw); go_simp; try with_reducible rfl⟩) (by assumption) ?_
    try simp only [Act.put, List.setIfInBounds_toArray, List.set_cons_zero, List.set_cons_succ]
    refine takeL (i := 2) (v := _) rfl (by kernel_rfl) (by kernel_rfl) (by kernel_rfl) (fun _ _ _ h => h) (Or.inl ⟨by rfl, by intro w hSw; (try dsimp only at hSw); go_simp; try with_reducible rfl⟩) (by assumption) ?_
    try simp only [Act.put, List.setIfInBounds_toArray, List.set_cons_zero, List.set_cons_succ]
    refine takeL (i := 3) (v := _) rfl (by kernel_rfl) (by kernel_rfl) (by kernel_rfl) (fun _ _ _ h => h) (Or.inl ⟨by rfl, by intro w hSw; (try dsimp only at hSw); go_simp; try with_reducible rfl⟩) (by assumption) ?_
    try simp only [Act.put, List.setIfInBounds_toArray, List.set_cons_zero, List.set_cons_succ]
    refine onlyL (i := 4) rfl (by kernel_rfl) (fun K hK => ?_)
    go_simp
    refine (nDig_walk HTv.out D hDl).mono ?_
    rintro e y1 ⟨rfl, rfl⟩
    refine (fun hHeld => hK _ _ hHeld ?_) (hHeld)
    clear hK
    try simp only [Act.put, List.setIfInBounds_toArray, List.set_cons_zero, List.set_cons_succ]
    refine onlyL (i := 5) rfl (by kernel_rfl) (fun K hK => ?_)
    go_simp
    refine (setDigits_walk HBv.out rfl D hDl P (by omega) (nDig D) (nDig_le hDl)).mono ?_
    rintro e y2 ⟨rfl, hb2, hk2⟩
    refine (fun hHeld => hK _ _ hHeld ?_) (trivial)
    clear hK
    try simp only [Act.put, List.setIfInBounds_toArray, List.set_cons_zero, List.set_cons_succ]
    refine takeL (i := 6) (v := _) rfl (by kernel_rfl) (by kernel_rfl) (by kernel_rfl) (fun _ _ _ h => h) (Or.inl ⟨by rfl, by intro w hSw; (try dsimp only at hSw); go_simp; try with_reducible rfl⟩) (by assumption) ?_
    try simp only [Act.put, List.setIfInBounds_toArray, List.set_cons_zero, List.set_cons_succ]
    refine takeL (i := 7) (v := _) rfl (by kernel_rfl) (by kernel_rfl) (by kernel_rfl) (fun _ _ _ h => h) (Or.inl ⟨by rfl, by intro w hSw; (try dsimp only at hSw); go_simp; try with_reducible rfl⟩) (by assumption) ?_
    try simp only [Act.put, List.setIfInBounds_toArray, List.set_cons_zero, List.set_cons_succ]
    refine takeL (i := 8) (v := _) rfl (by kernel_rfl) (by kernel_rfl) (by kernel_rfl) (fun _ _ _ h => h) (Or.inl ⟨by rfl, by intro w hSw; (try dsimp only at hSw); go_simp; try with_reducible rfl⟩) (by assumption) ?_
    try simp only [Act.put, List.setIfInBounds_toArray, List.set_cons_zero, List.set_cons_succ]
    refine takeL (i := 9) (v := _) rfl (by kernel_rfl) (by kernel_rfl) (by kernel_rfl) (fun _ _ _ h => h) (Or.inl ⟨by rfl, by intro w hSw; (try dsimp only at hSw); go_simp; try with_reducible rfl⟩) (by assumption) ?_
    try simp only [Act.put, List.setIfInBounds_toArray, List.set_cons_zero, List.set_cons_succ]
    refine takeL (i := 10) (v := _) rfl (by kernel_rfl) (by kernel_rfl) (by kernel_rfl) (fun _ _ _ h => h) (Or.inl ⟨by rfl, by intro w hSw; (try dsimp only at hSw); go_simp; try with_reducible rfl⟩) (by assumption) ?_
    try simp only [Act.put, List.setIfInBounds_toArray, List.set_cons_zero, List.set_cons_succ]
    refine wpAnyH_done (by kernel_rfl) ?_ _
    have hL := fb10_len (nDig D) zero32 D rfl
    have hNl := trimZ_le (fb10 (nDig D) zero32 D) (nDig D)
    have hN20 := nDig_le hDl
    have HTX : Hid (textB b = textG ng (fb10 (nDig D) zero32 D) (trimZ (fb10 (nDig D) zero32 D) (nDig D)) ((nDig D : Nat) + P)) := Lib.hid (by unfold textB digB; rw [HDC.out.1, HDC.out.2, HNG.out])
    obtain ⟨DP, hDP⟩ : ∃ x : Int, ((nDig D : Nat) : Int) + P = x := ⟨_, rfl⟩
    have hDPb : -900 < DP ∧ DP < 900 := by omega
    rw [hDP] at HTX ⊢
    obtain ⟨ND, hND⟩ : ∃ x, trimZ (fb10 (nDig D) zero32 D) (nDig D) = x := ⟨_, rfl⟩
    rw [hND] at HTX hNl ⊢
    have hNDb : ND ≤ 20 := by omega
    generalize fb10 (nDig D) zero32 D = L at *
    have HBF := Lib.hid (show Buf w0 y2 g L 57 a c n X from ⟨(HON.out.keep0 HKD.out).keep hk2 (fun k hk h => HNE.out k hk h), hfr, (HKW.out.trans HKD.out).step hk2 (fun k hk => .inr (by rw [show k = g from hk]; exact HGW.out)), hb2, HNE.out⟩)
    have HL := Lib.hid hL
    clear hDP hND hHeld hb2 hk2 hL
    go_wp2_with fail
    refine (fmtG_walk HBF.out HL.out hn ng ND hNDb DP hDPb).mono ?_
    rintro e w9 ⟨a9, c9, rfl, ho9, hk9, hf9⟩
    have HFN : Hid (FmtP w0 X (textB b) n (.returned (.slice a9 (n + (textB b).length) c9)) w9) := Lib.hid (by rw [HTX.out]; exact ⟨a9, c9, rfl, ho9, hk9, hf9⟩)
    rw [← HTX.out]
    clear ho9 hk9 hf9
    go_wp2_with fail
    go_ret
    exact HFN.out
  · have HM : manB b = MT + 4503599627370496 := by unfold manB; rw [if_neg (by omega), hMT]
    have HE : expB b = (EX : Int) + -1023 := by unfold expB; rw [if_neg (by omega), hEX]; omega
    have he0 : ((EX : Int) == 0) = false := by rw [beq_eq_false_iff_ne]; omega
    have hmz : (((MT + 4503599627370496 : Nat) : Int) == 0) = false := by rw [beq_eq_false_iff_ne]; omega
    have hew : IntKind.i64.wrap ((EX : Int) + -1023) = (EX : Int) + -1023 := by rw [IntKind.wrap_i64]; omega
    go_enter Tryd.func40, Tryd.ntmps40
    go_wp2_with fail
    go_quiet (fail)
    go_wp2_with fail
    obtain ⟨E0, hE0⟩ : ∃ E : Int, (EX : Int) + -1023 = E := ⟨_, rfl⟩
    obtain ⟨MN, hMN⟩ : ∃ M : Nat, MT + 4503599627370496 = M := ⟨_, rfl⟩
    have hE0b : -1022 ≤ E0 ∧ E0 ≤ 1023 := by omega
    rw [hE0] at HE ⊢
    have hMNi : (MT : Int) + 4503599627370496 = (MN : Int) := by omega
    rw [hMN] at HM hmz
    rw [hMNi]
    have hMNb : MN < 9007199254740992 := by omega
    have hkq : Keeps Nil w (w.drewN nq) := (Keeps.refl _ _).drewN nq
    have hsz : (w.drewN nq).heap.size = w.heap.size := rfl
    generalize w.drewN nq = wq at *
    obtain ⟨g, hg⟩ : ∃ g, w.heap.size = g := ⟨_, rfl⟩
    rw [hg] at hsz ⊢
    refine (len64_walk (MN : Int) _ (by omega) (by omega)).mono ?_
    rintro r wA ⟨rfl, hwA⟩
    have hbA : Blk wA g (byteV zero32) 57 := by rw [hwA]; exact Blk.new' wq (byteV zero32) _ hsz.symm
    have hkA : Keeps Nil w wA := by rw [hwA]; exact hkq.alloc _
    rw [show ((MN : Int)).toNat = MN from rfl]
    have hbl := bitLen_le53 hMNb
    have hbp := bitLen_pos (d := MN) (by rw [← HM]; exact hz)
    obtain ⟨BL, hBL⟩ : ∃ B, Lib.bitLen MN = B := ⟨_, rfl⟩
    rw [hBL] at hbl hbp ⊢
    obtain ⟨S, hSe⟩ : ∃ S, 64 - BL = S := ⟨_, rfl⟩
    have hS : (64 : Int) - (BL : Int) = (S : Int) := by omega
    have hSb : 11 ≤ S ∧ S ≤ 63 := by omega
    have hSw : IntKind.i64.wrap (S : Int) = (S : Int) := by rw [IntKind.wrap_i64]; omega
    have HS : Hid (shB b = S) := Lib.hid (by unfold shB; rw [HM, hBL, hSe])
    have hES : IntKind.i64.wrap (E0 - (S : Int)) = E0 - (S : Int) := by rw [IntKind.wrap_i64]; omega
    have hES2 : IntKind.i64.wrap (E0 - (S : Int) - 52) = E0 - (S : Int) - 52 := by rw [IntKind.wrap_i64]; omega
    have hEb2 : -1137 ≤ E0 - (S : Int) - 52 ∧ E0 - (S : Int) - 52 ≤ 1000 := by omega
    have HMH := Lib.hid HM
    have HEH := Lib.hid HE
    have HBA := Lib.hid hbA
    have HKA := Lib.hid hkA
    have HTA := Lib.hid (ht.keep hkA)
    have hgl := ht.lt
    have hgne : ¬ One g 3 ∧ ¬ One g 2 := by constructor <;> (intro h; have h' : _ = g := h; omega)
    have HON := Lib.hid (ho.keep0 hkA)
    have HNE := Lib.hid (show ∀ k, blkOf a k → k ≠ g from fun k hk' => by have := ho.lt k hk'; omega)
    have HKW := Lib.hid (hk.trans hkA)
    have HGW := Lib.hid (show w0.heap.size ≤ g by have := hk.size; omega)
    have HNG := Lib.hid (show decide (b / 9223372036854775808 ≠ 0) = ng by rw [← hng, Bool.eq_iff_iff, decide_eq_true_iff, bne_iff_ne]; constructor <;> (intro h; omega))
    clear hwA hkq hsz hbA hkA HM HE hSe hBL ht ho hk hgl hg hng
    go_wp2_with fail
    obtain ⟨MM, hMM⟩ : ∃ m, MN * 2 ^ S % W64 = m := ⟨_, rfl⟩
    have hMMw : IntKind.u64.wrap ((MN : Int) * 2 ^ S) = (MM : Int) := by rw [show (MN : Int) * 2 ^ S = ((MN * 2 ^ S : Nat) : Int) by push_cast; rfl, u64_wrapN, hMM]
    have hMMl : MM < W64 := by rw [← hMM]; exact Nat.mod_lt _ (by decide)
    rw [hMMw]
    refine (short_walk HTA.out MM (E0 - (S : Int) - 52) hMMl hEb2).mono ?_
    rintro r wB ⟨rfl, hkB⟩
    have hDl := shortF_lt MM (E0 - (S : Int) - 52)
    have hPb := shortF_p MM (E0 - (S : Int) - 52) hEb2
    obtain ⟨D, hD⟩ : ∃ D, (shortF MM (E0 - (S : Int) - 52)).1 = D := ⟨_, rfl⟩
    obtain ⟨P, hP⟩ : ∃ P, (shortF MM (E0 - (S : Int) - 52)).2 = P := ⟨_, rfl⟩
    have HDC : Hid ((decB b).1 = D ∧ (decB b).2 = P) := Lib.hid (by unfold decB; rw [HMH.out, HS.out, HEH.out, hMM]; exact ⟨hD, hP⟩)
    rw [hD] at hDl ⊢
    rw [hP] at hPb ⊢
    have HKB := Lib.hid hkB
    clear hMM hMMw hD hP hkB
    go_wp2_with fail
    refine wp_region_held_drew (S := fun _ => True) (by kernel_rfl) trivial (fun hHeld => ?_)
    have hkd : Keeps Nil wA wB.drew := HKB.out.drew
    have HKD := Lib.hid hkd
    clear hkd HKB
    generalize wB.drew = v0 at *
    have HTv := Lib.hid (HTA.out.keep HKD.out)
    have HBv := Lib.hid (HBA.out.keep HKD.out (fun h => h))
    refine takeL (i := 0) (v := _) rfl (by kernel_rfl) (by kernel_rfl) (by kernel_rfl) (fun _ _ _ h => h) (Or.inl ⟨by rfl, by intro w hSw; (try dsimp only at hSw); go_simp; try with_reducible rfl⟩) (by assumption) ?_
    try simp only [Act.put, List.setIfInBounds_toArray, List.set_cons_zero, List.set_cons_succ]
    refine takeL (i := 1) (v := _) rfl (by kernel_rfl) (by kernel_rfl) (by kernel_rfl) (fun _ _ _ h => h) (Or.inl ⟨by rfl, by intro w hSw; (try dsimp only at hSw); go_simp; try with_reducible rfl⟩) (by assumption) ?_
    try simp only [Act.put, List.setIfInBounds_toArray, List.set_cons_zero, List.set_cons_succ]
    refine takeL (i := 2) (v := _) rfl (by kernel_rfl) (by kernel_rfl) (by kernel_rfl) (fun _ _ _ h => h) (Or.inl ⟨by rfl, by intro w hSw; (try dsimp only at hSw); go_simp; try with_reducible rfl⟩) (by assumption) ?_
    try simp only [Act.put, List.setIfInBounds_toArray, List.set_cons_zero, List.set_cons_succ]
    refine takeL (i := 3) (v := _) rfl (by kernel_rfl) (by kernel_rfl) (by kernel_rfl) (fun _ _ _ h => h) (Or.inl ⟨by rfl, by intro w hSw; (try dsimp only at hSw); go_simp; try with_reducible rfl⟩) (by assumption) ?_
    try simp only [Act.put, List.setIfInBounds_toArray, List.set_cons_zero, List.set_cons_succ]
    refine onlyL (i := 4) rfl (by kernel_rfl) (fun K hK => ?_)
    go_simp
    refine (nDig_walk HTv.out D hDl).mono ?_
    rintro e y1 ⟨rfl, rfl⟩
    refine (fun hHeld => hK _ _ hHeld ?_) (hHeld)
    clear hK
    try simp only [Act.put, List.setIfInBounds_toArray, List.set_cons_zero, List.set_cons_succ]
    refine onlyL (i := 5) rfl (by kernel_rfl) (fun K hK => ?_)
    go_simp
    refine (setDigits_walk HBv.out rfl D hDl P (by omega) (nDig D) (nDig_le hDl)).mono ?_
    rintro e y2 ⟨rfl, hb2, hk2⟩
    refine (fun hHeld => hK _ _ hHeld ?_) (trivial)
    clear hK
    try simp only [Act.put, List.setIfInBounds_toArray, List.set_cons_zero, List.set_cons_succ]
    refine takeL (i := 6) (v := _) rfl (by kernel_rfl) (by kernel_rfl) (by kernel_rfl) (fun _ _ _ h => h) (Or.inl ⟨by rfl, by intro w hSw; (try dsimp only at hSw); go_simp; try with_reducible rfl⟩) (by assumption) ?_
    try simp only [Act.put, List.setIfInBounds_toArray, List.set_cons_zero, List.set_cons_succ]
    refine takeL (i := 7) (v := _) rfl (by kernel_rfl) (by kernel_rfl) (by kernel_rfl) (fun _ _ _ h => h) (Or.inl ⟨by rfl, by intro w hSw; (try dsimp only at hSw); go_simp; try with_reducible rfl⟩) (by assumption) ?_
    try simp only [Act.put, List.setIfInBounds_toArray, List.set_cons_zero, List.set_cons_succ]
    refine takeL (i := 8) (v := _) rfl (by kernel_rfl) (by kernel_rfl) (by kernel_rfl) (fun _ _ _ h => h) (Or.inl ⟨by rfl, by intro w hSw; (try dsimp only at hSw); go_simp; try with_reducible rfl⟩) (by assumption) ?_
    try simp only [Act.put, List.setIfInBounds_toArray, List.set_cons_zero, List.set_cons_succ]
    refine takeL (i := 9) (v := _) rfl (by kernel_rfl) (by kernel_rfl) (by kernel_rfl) (fun _ _ _ h => h) (Or.inl ⟨by rfl, by intro w hSw; (try dsimp only at hSw); go_simp; try with_reducible rfl⟩) (by assumption) ?_
    try simp only [Act.put, List.setIfInBounds_toArray, List.set_cons_zero, List.set_cons_succ]
    refine takeL (i := 10) (v := _) rfl (by kernel_rfl) (by kernel_rfl) (by kernel_rfl) (fun _ _ _ h => h) (Or.inl ⟨by rfl, by intro w hSw; (try dsimp only at hSw); go_simp; try with_reducible rfl⟩) (by assumption) ?_
    try simp only [Act.put, List.setIfInBounds_toArray, List.set_cons_zero, List.set_cons_succ]
    refine wpAnyH_done (by kernel_rfl) ?_ _
    have hL := fb10_len (nDig D) zero32 D rfl
    have hNl := trimZ_le (fb10 (nDig D) zero32 D) (nDig D)
    have hN20 := nDig_le hDl
    have HTX : Hid (textB b = textG ng (fb10 (nDig D) zero32 D) (trimZ (fb10 (nDig D) zero32 D) (nDig D)) ((nDig D : Nat) + P)) := Lib.hid (by unfold textB digB; rw [HDC.out.1, HDC.out.2, HNG.out])
    obtain ⟨DP, hDP⟩ : ∃ x : Int, ((nDig D : Nat) : Int) + P = x := ⟨_, rfl⟩
    have hDPb : -900 < DP ∧ DP < 900 := by omega
    rw [hDP] at HTX ⊢
    obtain ⟨ND, hND⟩ : ∃ x, trimZ (fb10 (nDig D) zero32 D) (nDig D) = x := ⟨_, rfl⟩
    rw [hND] at HTX hNl ⊢
    have hNDb : ND ≤ 20 := by omega
    generalize fb10 (nDig D) zero32 D = L at *
    have HBF := Lib.hid (show Buf w0 y2 g L 57 a c n X from ⟨(HON.out.keep0 HKD.out).keep hk2 (fun k hk h => HNE.out k hk h), hfr, (HKW.out.trans HKD.out).step hk2 (fun k hk => .inr (by rw [show k = g from hk]; exact HGW.out)), hb2, HNE.out⟩)
    have HL := Lib.hid hL
    clear hDP hND hHeld hb2 hk2 hL
    go_wp2_with fail
    refine (fmtG_walk HBF.out HL.out hn ng ND hNDb DP hDPb).mono ?_
    rintro e w9 ⟨a9, c9, rfl, ho9, hk9, hf9⟩
    have HFN : Hid (FmtP w0 X (textB b) n (.returned (.slice a9 (n + (textB b).length) c9)) w9) := Lib.hid (by rw [HTX.out]; exact ⟨a9, c9, rfl, ho9, hk9, hf9⟩)
    rw [← HTX.out]
    clear ho9 hk9 hf9
    go_wp2_with fail
    go_ret
    exact HFN.out
end Go.Proofs.YtmlfekcnpmlfkaaDoor
