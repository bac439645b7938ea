/-
  The law MacEqual.
-/
import Derived.Test.YtnkahfpinkgimaaDoorMacPrefixes
namespace Go.Proofs.YtnkahfpinkgimaaDoor
open Go.RowKit

theorem sameL_len {l r : List Int} (h : l.length ≠ r.length) : sameL l r = false := by
  unfold sameL
  rw [beq_eq_false_iff_ne]
  intro e
  exact h (by rw [e])
theorem xor_ne {x : Int} (hx : 0 ≤ x ∧ x < 256) {b : Nat} (hb : b < 8) : bits .xor .u8 x (2 ^ b) ≠ x := by
  have h2 : (2 : Int) ^ b = ((2 ^ b : Nat) : Int) := by simp
  have h3 : 0 < 2 ^ b ∧ 2 ^ b < 256 := ⟨Nat.pow_pos (by omega), by
    have : 2 ^ b ≤ 2 ^ 7 := Nat.pow_le_pow_right (by omega) (by omega)
    omega⟩
  rw [h2, u8_xor _ _ hx.1 hx.2 (by omega) (by omega)]
  intro h
  have h4 : x.toNat ^^^ (2 ^ b : Nat) = x.toNat := by
    have : ((2 ^ b : Nat) : Int).toNat = 2 ^ b := Int.toNat_natCast _
    rw [this] at h
    omega
  have h5 := congrArg (fun z => Nat.testBit z b) h4
  simp [Nat.testBit_xor, Nat.testBit_two_pow_self] at h5
theorem sameL_set {l : List Int} {k : Nat} (hk : k < l.length) {x : Int} (hx : x ≠ l.getD k 0) : sameL l (l.set k x) = false := by
  unfold sameL
  rw [beq_eq_false_iff_ne]
  intro e
  have := congrArg (fun z => z.getD k 0) e
  simp [List.getD, hk] at this hx
  exact hx this.symm

set_option maxRecDepth 20000 in
set_option maxHeartbeats 3200000 in
theorem macEqual_walk (a0 : Option Addr) (len0 cap0 : Nat) (z0 : List Int) (a1 a2 : Int) (w : World) (w0 : IsRow .u8 w a0 len0 cap0 z0) (w1 : (Lit.int .i64 a1).wf = true) (w2 : (Lit.int .i64 a2).wf = true) :
    Calls Tryd.prog 8 #[.slice a0 len0 cap0, .int .i64 a1, .int .i64 a2] w (TrueS w) := by
  have h1 := i64_wf w1
  have h2 := i64_wf w2
  have p0 := PieceOk.of_isRow w0
  have hle0 : len0 ≤ cap0 := by
    rcases w0 with ⟨_, h, h', _⟩ | ⟨x, _, h, _⟩
    · omega
    · exact h
  clear w0 w1 w2
  have m0 : len0 ≤ 9223372036854775807 := p0.1.most
  by_cases e0 : len0 = 0
  · subst e0
    clear p0
    go_enter Tryd.func8, Tryd.ntmps8
    go_wp2_with fail
    refine (macfirst_walk w).mono ?_
    rintro e w1 ⟨rfl, hk1⟩
    go_wp2_with fail
    go_ret
    exact ⟨by first | rfl | simp, hk1⟩
  have e0 : (((len0 : Nat) : Int) == 0) = false := by simpa using e0
  by_cases b0 : 100 < len0
  · clear p0
    go_enter Tryd.func8, Tryd.ntmps8
    go_wp2_with fail
    refine (macfirst_walk w).mono ?_
    rintro e w1 ⟨rfl, hk1⟩
    go_wp2_with fail
    go_ret
    exact ⟨by first | rfl | simp, hk1⟩
  have hrow : Row .u8 w a0 len0 (z0.take len0) := p0.1
  clear p0
  generalize z0.take len0 = Z at *
  have hZl := hrow.llen
  have hZb := hrow.bytes
  have l0 : 0 < len0 := Nat.pos_of_ne_zero (by simpa using e0)
  obtain ⟨bb, off, rfl, hbb, _⟩ := hrow.cell l0
  have HR := Lib.hid hrow
  clear hrow
  go_enter Tryd.func8, Tryd.ntmps8
  go_wp2_with fail
  refine (macfirst_walk w).mono ?_
  rintro e w1 ⟨rfl, hk1⟩
  have HB := Lib.hid (refBytes_walk (cap := cap0) (HR.out.keep hk1) (by omega))
  go_wp2_with fail
  refine HB.out.mono ?_
  rintro e w2 ⟨a2', c2, rfl, ho2, hk2, hf2⟩
  rw [hZl] at ho2 ⊢
  have hk12 := hk1.trans hk2
  clear HB hk2
  go_wp2_with fail
  refine (number_walk a1 len0 _ h1.1 h1.2 (by omega) (by omega)).mono ?_
  rintro e w3 ⟨rfl, rfl⟩
  obtain ⟨k, hkk, hk3⟩ := modNat a1 len0 (by omega)
  rw [hkk]
  clear hkk h1
  obtain ⟨gd, sp, rfl, hbd, hcl⟩ := ho2.openB (by omega)
  have hgd := hf2 gd ((blkOf_some _ _ _ _).2 rfl)
  have cm := hbd.cell k (v := .int .u8 (Z.getD k 0)) (by rw [List.getElem?_append_left (by rw [byteV_len]; omega)]; exact byteV_at Z k (by omega) rfl)
  have zm := hbd.frozen k
  have hxx : 0 ≤ Z.getD k 0 ∧ Z.getD k 0 < 256 := by
    have : Z.getD k 0 ∈ Z := by simp [List.getD, show k < Z.length by omega]
    exact hZb _ this
  clear ho2 hf2
  have hs1 := hk1.size
  have HZK := Lib.hid (show Z.getD k 0 = Z.getD k 0 from rfl)
  generalize hxk : Z.getD k 0 = xx at *
  have HXK := Lib.hid hxk
  clear hxk HZK
  go_wp2_with fail
  have hk0 : (0 : Int) ≤ k := by omega
  refine wp_region_held_drew (S := fun _ => True) (by kernel_rfl) trivial (fun hHeld => ?_)
  have hkd : Keeps Nil w2 w2.drew := (Keeps.refl Nil w2).drew
  have cmd : w2.drew.cell? ⟨gd, k, none⟩ = some (.int .u8 xx) := cm
  have zmd : w2.drew.frozen? ⟨gd, k, none⟩ = false := zm
  have hbdd := hbd.drew
  clear cm zm hbd
  generalize w2.drew = wd at *
  have hkk0 : (k : Int) < len0 := by omega
  refine takeL (i := 0) (v := _) rfl (by kernel_rfl) (by kernel_rfl) (by kernel_rfl) (fun _ _ _ h => h) (Or.inl ⟨by rfl, by intro w hSw; (try dsimp only at hSw); go_simp; try with_reducible rfl⟩) (by assumption) ?_
  try simp only [Act.put, List.setIfInBounds_toArray, List.set_cons_zero, List.set_cons_succ]
  refine takeL (i := 1) (v := _) rfl (by kernel_rfl) (by kernel_rfl) (by kernel_rfl) (fun _ _ _ h => h) (Or.inl ⟨by rfl, by intro w hSw; (try dsimp only at hSw); go_simp; try with_reducible rfl⟩) (by assumption) ?_
  try simp only [Act.put, List.setIfInBounds_toArray, List.set_cons_zero, List.set_cons_succ]
  refine takeL (i := 2) (v := _) rfl (by kernel_rfl) (by kernel_rfl) (by kernel_rfl) (fun _ _ _ h => h) (Or.inl ⟨by rfl, by intro w hSw; (try dsimp only at hSw); go_simp; try with_reducible rfl⟩) (by assumption) ?_
  try simp only [Act.put, List.setIfInBounds_toArray, List.set_cons_zero, List.set_cons_succ]
  refine takeL (i := 3) (v := _) rfl (by kernel_rfl) (by kernel_rfl) (by kernel_rfl) (fun _ _ _ h => h) (Or.inl ⟨by rfl, by intro w hSw; (try dsimp only at hSw); go_simp; try with_reducible rfl⟩) (by assumption) ?_
  try simp only [Act.put, List.setIfInBounds_toArray, List.set_cons_zero, List.set_cons_succ]
  refine takeL (i := 6) (v := _) rfl (by kernel_rfl) (by kernel_rfl) (by kernel_rfl) (fun _ _ _ h => h) (Or.inl ⟨by rfl, by intro w hSw; (try dsimp only at hSw); go_simp; try with_reducible rfl⟩) (by assumption) ?_
  try simp only [Act.put, List.setIfInBounds_toArray, List.set_cons_zero, List.set_cons_succ]
  refine takeL (i := 4) (v := _) rfl (by kernel_rfl) (by kernel_rfl) (by kernel_rfl) (fun _ _ _ h => h) (Or.inl ⟨by rfl, by intro w hSw; (try dsimp only at hSw); go_simp; try with_reducible rfl⟩) (by assumption) ?_
  try simp only [Act.put, List.setIfInBounds_toArray, List.set_cons_zero, List.set_cons_succ]
  refine bothL (i := 5) (j := 7) rfl rfl (by kernel_rfl) (fun K hK => ?_) (fun K hK => ?_)
  · go_simp
    refine (fun hHeld => hK _ _ hHeld ?_) (trivial)
    clear hK
    try simp only [Act.put, List.setIfInBounds_toArray, List.set_cons_zero, List.set_cons_succ]
    refine onlyL (i := 7) rfl (by kernel_rfl) (fun K hK => ?_)
    go_simp
    refine (number_walk a2 8 _ h2.1 h2.2 (by omega) (by omega)).mono ?_
    rintro e w3 ⟨rfl, rfl⟩
    obtain ⟨b, hb, hb8⟩ := modNat a2 8 (by omega)
    rw [hb]
    clear hb h2
    have hbb8 : b < 8 := by omega
    have hne := xor_ne hxx hbb8
    have hnb := bits_u8 .xor xx (2 ^ b)
    have hp3 : (2 : Int) ^ b < 256 ∧ 0 ≤ (2 : Int) ^ b := by
      have : b = 0 ∨ b = 1 ∨ b = 2 ∨ b = 3 ∨ b = 4 ∨ b = 5 ∨ b = 6 ∨ b = 7 := by omega
      rcases this with rfl | rfl | rfl | rfl | rfl | rfl | rfl | rfl <;> decide
    have hbu : IntKind.u64.wrap (b : Int) = b := by rw [IntKind.wrap_u64]; omega
    have hbm : min b 8 = b := by omega
    have hbw : IntKind.u8.wrap ((2 : Int) ^ b) = 2 ^ b := by rw [IntKind.wrap_u8]; omega
    clear hp3
    refine (fun hHeld => hK _ _ hHeld ?_) (trivial)
    clear hK
    try simp only [Act.put, List.setIfInBounds_toArray, List.set_cons_zero, List.set_cons_succ]
    refine takeL (i := 8) (v := _) rfl (by kernel_rfl) (by kernel_rfl) (by kernel_rfl) (fun _ _ _ h => h) (Or.inl ⟨by rfl, by intro w hSw; (try dsimp only at hSw); go_simp; try with_reducible rfl⟩) (by assumption) ?_
    try simp only [Act.put, List.setIfInBounds_toArray, List.set_cons_zero, List.set_cons_succ]
    refine takeL (i := 9) (v := _) rfl (by kernel_rfl) (by kernel_rfl) (by kernel_rfl) (fun _ _ _ h => h) (Or.inl ⟨by rfl, by intro w hSw; (try dsimp only at hSw); go_simp; try with_reducible rfl⟩) (by assumption) ?_
    try simp only [Act.put, List.setIfInBounds_toArray, List.set_cons_zero, List.set_cons_succ]
    refine takeL (i := 10) (v := _) rfl (by kernel_rfl) (by kernel_rfl) (by kernel_rfl) (fun _ _ _ h => h) (Or.inl ⟨by rfl, by intro w hSw; (try dsimp only at hSw); go_simp; try with_reducible rfl⟩) (by assumption) ?_
    try simp only [Act.put, List.setIfInBounds_toArray, List.set_cons_zero, List.set_cons_succ]
    clear hbu hbm hbw
    generalize bits .xor .u8 xx (2 ^ b) = nx at *
    refine takeL (i := 11) (v := _) rfl (by kernel_rfl) (by kernel_rfl) (by kernel_rfl) (fun _ _ _ h => h) (Or.inl ⟨by rfl, by intro w hSw; (try dsimp only at hSw); go_simp; try with_reducible rfl⟩) (by assumption) ?_
    try simp only [Act.put, List.setIfInBounds_toArray, List.set_cons_zero, List.set_cons_succ]
    have hs := hbdd.set k (.int .u8 nx)
    rw [byteV_set' _ _ _ _ (by omega)] at hs
    have hks : Keeps (One gd) wd (wd.setCell ⟨gd, k, none⟩ (.int .u8 nx)) := (Keeps.refl _ _).setOne k _
    refine onlyL (i := 12) rfl (by kernel_rfl) (fun K hK => ?_)
    go_simp
    refine (fun hHeld => hK _ _ hHeld ?_) (trivial)
    clear hK
    try simp only [Act.put, List.setIfInBounds_toArray, List.set_cons_zero, List.set_cons_succ]
    refine wpAnyH_done (by kernel_rfl) ?_ _
    have hK : Keeps Nil w (wd.setCell ⟨gd, k, none⟩ (.int .u8 nx)) := (hk12.trans hkd).step hks (fun i hi => .inr (by rw [show i = gd from hi]; omega))
    have hnew : Row .u8 (wd.setCell ⟨gd, k, none⟩ (.int .u8 nx)) (some ⟨gd, 0, none⟩) len0 (Z.set k nx) := hs.rowPre (areB_set hZb _ hnb) (by rw [List.length_set, hZl]) (by omega)
    have hne' : sameL Z (Z.set k nx) = false := sameL_set (by omega) (by rw [HXK.out]; exact hne)
    clear hs hks cmd zmd hbdd hkd hbb8 hne hnb hkk0 hk0 hxx hcl hgd hk12 HXK hbb
    generalize wd.setCell ⟨gd, k, none⟩ (.int .u8 nx) = wS at *
    have HB := Lib.hid (refBytes_walk (cap := cap0) (HR.out.keep hK) (by omega))
    clear hk3 hb8
    go_wp2_with fail
    refine HB.out.mono ?_
    rintro e w4 ⟨a4, c4, rfl, ho4, hk4, hf4⟩
    rw [hZl] at ho4 ⊢
    have hK4 := hK.trans hk4
    have HE := Lib.hid (equal_walk (ca := cap0) (cb := c4) (HR.out.keep hK4) (ho4.row (areB_wf hZb)))
    clear HB ho4 hf4
    go_wp2_with fail
    refine HE.out.mono ?_
    rintro e w5 ⟨rfl, hd5⟩
    rw [sameL_self]
    have hk45 := hk4.trans (hd5.keeps Nil)
    have hK5 := hK4.trans (hd5.keeps Nil)
    have HE := Lib.hid (equal_walk (ca := cap0) (cb := c2) (HR.out.keep hK5) (hnew.keep hk45))
    clear hd5 hk4 hK4
    go_wp2_with fail
    refine HE.out.mono ?_
    rintro e w6 ⟨rfl, hd6⟩
    rw [hne']
    have hK6 := hK5.trans (hd6.keeps Nil)
    clear hd6 hk45 hnew hK5
    have hl1 : IntKind.i64.wrap ((len0 : Int) - 1) = (len0 : Int) - 1 := by rw [IntKind.wrap_i64]; omega
    have hi1 : (0 : Int) ≤ (len0 : Int) - 1 := by omega
    have hi2 : (len0 : Int) - 1 ≤ cap0 := by omega
    have hi3 : ((len0 : Int) - 1).toNat = len0 - 1 := by omega
    have hr6 := (HR.out.keep hK6).head (show len0 - 1 ≤ len0 by omega)
    have HE := Lib.hid (fun c => equal_walk (ca := cap0) (cb := c) (HR.out.keep hK6) hr6)
    have HLN := Lib.hid (show sameL Z (Z.take (len0 - 1)) = false from sameL_len (by rw [List.length_take]; omega))
    clear hr6
    go_wp2_with fail
    refine (HE.out _).mono ?_
    rintro e w7 ⟨rfl, hd7⟩
    rw [HLN.out]
    have hK7 := hK6.trans (hd7.keeps Nil)
    clear hd7 hK6 HLN
    have hj1 : (1 : Int) ≤ len0 := by omega
    have hj2 : (len0 : Int) ≤ cap0 := by omega
    have hj3 : (1 : Int) ≤ cap0 := by omega
    have HLT := Lib.hid (show sameL (Z.drop 1) Z = false from sameL_len (by rw [List.length_drop]; omega))
    by_cases hc1 : cap0 = 1
    · have hl0 : len0 = 1 := by omega
      subst hc1
      have hd0 : Z.drop 1 = [] := List.drop_of_length_le (by omega)
      rw [hd0] at HLT
      have HE := Lib.hid (fun c w' (hk : Keeps Nil w w') => equal_walk (ca := c) (cb := 1) (Row.empty .u8 w' (some ⟨bb, off, none⟩)) (HR.out.keep hk))
      subst hl0
      go_wp2_with fail
      refine (HE.out _ _ hK7).mono ?_
      rintro e w8 ⟨rfl, hd8⟩
      rw [HLT.out]
      have hK8 := hK7.trans (hd8.keeps Nil)
      have HF := Lib.hid (fun c => equal_walk (ca := c) (cb := 0) (Row.empty .u8 w8 (some ⟨bb, off, none⟩)) (row_none w8))
      go_wp2_with fail
      refine (HF.out _).mono ?_
      rintro e w9 ⟨rfl, hd9⟩
      rw [show sameL ([] : List Int) [] = true from rfl]
      go_wp2_with fail
      go_ret
      exact ⟨by first | rfl | simp, hK8.trans (hd9.keeps Nil)⟩
    · have hc2 : ¬ 1 = cap0 := by omega
      have hc3 : ¬ cap0 - 1 = 0 := by omega
      have HE := Lib.hid (fun w' (hk : Keeps Nil w w') => equal_walk (ca := cap0 - 1) (cb := cap0) ((HR.out.keep hk).tail 1 (by omega)) (HR.out.keep hk))
      rw [Addr.add_lit] at HE
      go_wp2_with fail
      refine (HE.out _ hK7).mono ?_
      rintro e w8 ⟨rfl, hd8⟩
      rw [HLT.out]
      have hK8 := hK7.trans (hd8.keeps Nil)
      have HF := Lib.hid (fun c => equal_walk (ca := c) (cb := 0) (Row.empty .u8 w8 (some ⟨bb, off, none⟩)) (row_none w8))
      go_wp2_with fail
      refine (HF.out _).mono ?_
      rintro e w9 ⟨rfl, hd9⟩
      rw [show sameL ([] : List Int) [] = true from rfl]
      go_wp2_with fail
      go_ret
      exact ⟨by first | rfl | simp, hK8.trans (hd9.keeps Nil)⟩
  · skip
    go_simp
    refine (number_walk a2 8 _ h2.1 h2.2 (by omega) (by omega)).mono ?_
    rintro e w3 ⟨rfl, rfl⟩
    obtain ⟨b, hb, hb8⟩ := modNat a2 8 (by omega)
    rw [hb]
    clear hb h2
    have hbb8 : b < 8 := by omega
    have hne := xor_ne hxx hbb8
    have hnb := bits_u8 .xor xx (2 ^ b)
    have hp3 : (2 : Int) ^ b < 256 ∧ 0 ≤ (2 : Int) ^ b := by
      have : b = 0 ∨ b = 1 ∨ b = 2 ∨ b = 3 ∨ b = 4 ∨ b = 5 ∨ b = 6 ∨ b = 7 := by omega
      rcases this with rfl | rfl | rfl | rfl | rfl | rfl | rfl | rfl <;> decide
    have hbu : IntKind.u64.wrap (b : Int) = b := by rw [IntKind.wrap_u64]; omega
    have hbm : min b 8 = b := by omega
    have hbw : IntKind.u8.wrap ((2 : Int) ^ b) = 2 ^ b := by rw [IntKind.wrap_u8]; omega
    clear hp3
    refine (fun hHeld => hK _ _ hHeld ?_) (trivial)
    clear hK
    try simp only [Act.put, List.setIfInBounds_toArray, List.set_cons_zero, List.set_cons_succ]
    refine takeL (i := 8) (v := _) rfl (by kernel_rfl) (by kernel_rfl) (by kernel_rfl) (fun _ _ _ h => h) (Or.inl ⟨by rfl, by intro w hSw; (try dsimp only at hSw); go_simp; try with_reducible rfl⟩) (by assumption) ?_
    try simp only [Act.put, List.setIfInBounds_toArray, List.set_cons_zero, List.set_cons_succ]
    refine takeL (i := 9) (v := _) rfl (by kernel_rfl) (by kernel_rfl) (by kernel_rfl) (fun _ _ _ h => h) (Or.inl ⟨by rfl, by intro w hSw; (try dsimp only at hSw); go_simp; try with_reducible rfl⟩) (by assumption) ?_
    try simp only [Act.put, List.setIfInBounds_toArray, List.set_cons_zero, List.set_cons_succ]
    refine onlyL (i := 5) rfl (by kernel_rfl) (fun K hK => ?_)
    go_simp
    refine (fun hHeld => hK _ _ hHeld ?_) (trivial)
    clear hK
    try simp only [Act.put, List.setIfInBounds_toArray, List.set_cons_zero, List.set_cons_succ]
    refine takeL (i := 10) (v := _) rfl (by kernel_rfl) (by kernel_rfl) (by kernel_rfl) (fun _ _ _ h => h) (Or.inl ⟨by rfl, by intro w hSw; (try dsimp only at hSw); go_simp; try with_reducible rfl⟩) (by assumption) ?_
    try simp only [Act.put, List.setIfInBounds_toArray, List.set_cons_zero, List.set_cons_succ]
    clear hbu hbm hbw
    generalize bits .xor .u8 xx (2 ^ b) = nx at *
    refine takeL (i := 11) (v := _) rfl (by kernel_rfl) (by kernel_rfl) (by kernel_rfl) (fun _ _ _ h => h) (Or.inl ⟨by rfl, by intro w hSw; (try dsimp only at hSw); go_simp; try with_reducible rfl⟩) (by assumption) ?_
    try simp only [Act.put, List.setIfInBounds_toArray, List.set_cons_zero, List.set_cons_succ]
    have hs := hbdd.set k (.int .u8 nx)
    rw [byteV_set' _ _ _ _ (by omega)] at hs
    have hks : Keeps (One gd) wd (wd.setCell ⟨gd, k, none⟩ (.int .u8 nx)) := (Keeps.refl _ _).setOne k _
    refine onlyL (i := 12) rfl (by kernel_rfl) (fun K hK => ?_)
    go_simp
    refine (fun hHeld => hK _ _ hHeld ?_) (trivial)
    clear hK
    try simp only [Act.put, List.setIfInBounds_toArray, List.set_cons_zero, List.set_cons_succ]
    refine wpAnyH_done (by kernel_rfl) ?_ _
    have hK : Keeps Nil w (wd.setCell ⟨gd, k, none⟩ (.int .u8 nx)) := (hk12.trans hkd).step hks (fun i hi => .inr (by rw [show i = gd from hi]; omega))
    have hnew : Row .u8 (wd.setCell ⟨gd, k, none⟩ (.int .u8 nx)) (some ⟨gd, 0, none⟩) len0 (Z.set k nx) := hs.rowPre (areB_set hZb _ hnb) (by rw [List.length_set, hZl]) (by omega)
    have hne' : sameL Z (Z.set k nx) = false := sameL_set (by omega) (by rw [HXK.out]; exact hne)
    clear hs hks cmd zmd hbdd hkd hbb8 hne hnb hkk0 hk0 hxx hcl hgd hk12 HXK hbb
    generalize wd.setCell ⟨gd, k, none⟩ (.int .u8 nx) = wS at *
    have HB := Lib.hid (refBytes_walk (cap := cap0) (HR.out.keep hK) (by omega))
    clear hk3 hb8
    go_wp2_with fail
    refine HB.out.mono ?_
    rintro e w4 ⟨a4, c4, rfl, ho4, hk4, hf4⟩
    rw [hZl] at ho4 ⊢
    have hK4 := hK.trans hk4
    have HE := Lib.hid (equal_walk (ca := cap0) (cb := c4) (HR.out.keep hK4) (ho4.row (areB_wf hZb)))
    clear HB ho4 hf4
    go_wp2_with fail
    refine HE.out.mono ?_
    rintro e w5 ⟨rfl, hd5⟩
    rw [sameL_self]
    have hk45 := hk4.trans (hd5.keeps Nil)
    have hK5 := hK4.trans (hd5.keeps Nil)
    have HE := Lib.hid (equal_walk (ca := cap0) (cb := c2) (HR.out.keep hK5) (hnew.keep hk45))
    clear hd5 hk4 hK4
    go_wp2_with fail
    refine HE.out.mono ?_
    rintro e w6 ⟨rfl, hd6⟩
    rw [hne']
    have hK6 := hK5.trans (hd6.keeps Nil)
    clear hd6 hk45 hnew hK5
    have hl1 : IntKind.i64.wrap ((len0 : Int) - 1) = (len0 : Int) - 1 := by rw [IntKind.wrap_i64]; omega
    have hi1 : (0 : Int) ≤ (len0 : Int) - 1 := by omega
    have hi2 : (len0 : Int) - 1 ≤ cap0 := by omega
    have hi3 : ((len0 : Int) - 1).toNat = len0 - 1 := by omega
    have hr6 := (HR.out.keep hK6).head (show len0 - 1 ≤ len0 by omega)
    have HE := Lib.hid (fun c => equal_walk (ca := cap0) (cb := c) (HR.out.keep hK6) hr6)
    have HLN := Lib.hid (show sameL Z (Z.take (len0 - 1)) = false from sameL_len (by rw [List.length_take]; omega))
    clear hr6
    go_wp2_with fail
    refine (HE.out _).mono ?_
    rintro e w7 ⟨rfl, hd7⟩
    rw [HLN.out]
    have hK7 := hK6.trans (hd7.keeps Nil)
    clear hd7 hK6 HLN
    have hj1 : (1 : Int) ≤ len0 := by omega
    have hj2 : (len0 : Int) ≤ cap0 := by omega
    have hj3 : (1 : Int) ≤ cap0 := by omega
    have HLT := Lib.hid (show sameL (Z.drop 1) Z = false from sameL_len (by rw [List.length_drop]; omega))
    by_cases hc1 : cap0 = 1
    · have hl0 : len0 = 1 := by omega
      subst hc1
      have hd0 : Z.drop 1 = [] := List.drop_of_length_le (by omega)
      rw [hd0] at HLT
      have HE := Lib.hid (fun c w' (hk : Keeps Nil w w') => equal_walk (ca := c) (cb := 1) (Row.empty .u8 w' (some ⟨bb, off, none⟩)) (HR.out.keep hk))
      subst hl0
      go_wp2_with fail
      refine (HE.out _ _ hK7).mono ?_
      rintro e w8 ⟨rfl, hd8⟩
      rw [HLT.out]
      have hK8 := hK7.trans (hd8.keeps Nil)
      have HF := Lib.hid (fun c => equal_walk (ca := c) (cb := 0) (Row.empty .u8 w8 (some ⟨bb, off, none⟩)) (row_none w8))
      go_wp2_with fail
      refine (HF.out _).mono ?_
      rintro e w9 ⟨rfl, hd9⟩
      rw [show sameL ([] : List Int) [] = true from rfl]
      go_wp2_with fail
      go_ret
      exact ⟨by first | rfl | simp, hK8.trans (hd9.keeps Nil)⟩
    · have hc2 : ¬ 1 = cap0 := by omega
      have hc3 : ¬ cap0 - 1 = 0 := by omega
      have HE := Lib.hid (fun w' (hk : Keeps Nil w w') => equal_walk (ca := cap0 - 1) (cb := cap0) ((HR.out.keep hk).tail 1 (by omega)) (HR.out.keep hk))
      rw [Addr.add_lit] at HE
      go_wp2_with fail
      refine (HE.out _ hK7).mono ?_
      rintro e w8 ⟨rfl, hd8⟩
      rw [HLT.out]
      have hK8 := hK7.trans (hd8.keeps Nil)
      have HF := Lib.hid (fun c => equal_walk (ca := c) (cb := 0) (Row.empty .u8 w8 (some ⟨bb, off, none⟩)) (row_none w8))
      go_wp2_with fail
      refine (HF.out _).mono ?_
      rintro e w9 ⟨rfl, hd9⟩
      rw [show sameL ([] : List Int) [] = true from rfl]
      go_wp2_with fail
      go_ret
      exact ⟨by first | rfl | simp, hK8.trans (hd9.keeps Nil)⟩
end Go.Proofs.YtnkahfpinkgimaaDoor
