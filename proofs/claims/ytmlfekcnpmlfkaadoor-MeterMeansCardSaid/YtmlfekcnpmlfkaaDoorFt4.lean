/-
  Floats as text: digits in base ten.
-/
import Derived.Test.YtmlfekcnpmlfkaaDoorFt3
namespace Go.Proofs.YtmlfekcnpmlfkaaDoor
set_option linter.unusedSimpArgs false
set_option linter.unusedVariables false
open Go.RowKit

/-- The bytes of "00010203..99". -/
def smF (i : Nat) : Int := if i % 2 = 0 then 48 + (i / 2 / 10 : Nat) else 48 + (i / 2 % 10 : Nat)
def isSm (op : Op) (t : TypeId) : Bool :=
  match op with
  | .index t' (.const (.string s)) _ => t' == t && s.size == 200 && (List.range 200).all (fun i => ((s[i]?.getD 0).toNat : Int) == smF i)
  | _ => false
def ixOf (op : Op) : Operand :=
  match op with
  | .index _ _ x => x
  | _ => .tmp 0
theorem yieldsIf_sm {P : Program} {ops : Array Oper} {S : World → Prop} {o : Oper} {a : Act} (hw : Region.wanted o (yielded ops a.tmps) = true) {t : TypeId} (hP : P.underlying t = some .string) (h : isSm o.op t = true)
    (k : IntKind) (I : Int) (hx : a.eval (ixOf o.op) = .int k I) (j : Nat) (hI : I = (j : Int)) (hj : j < 200) : YieldsIf P ops S o (.int .u8 (smF j)) a := by
  unfold isSm at h
  split at h
  · next t' s x ho =>
    simp only [Bool.and_eq_true, beq_iff_eq] at h
    obtain ⟨⟨h1, h2⟩, h3⟩ := h
    subst h1
    have h4 := List.all_eq_true.1 h3 j (List.mem_range.2 hj)
    rw [beq_iff_eq] at h4
    have hx' : a.eval x = .int k I := by rw [ho] at hx; exact hx
    have hb : 0 ≤ I ∧ I < s.size := by rw [h2]; omega
    have hs : ((s[I.toNat]'(by omega)).toNat : Int) = smF j := by
      have e : I.toNat = j := by omega
      subst e
      rw [← h4, getElem?_pos s I.toNat (by omega)]
      rfl
    refine .inl ⟨hw, fun w _ => ?_⟩
    unfold execOp
    simp only [ho, hx', Sem.run_bind]
    have hr := run_index_string (P := P) w t' s k I hP
    rw [dif_pos hb, hs] at hr
    show ((Instr.index t' (.string s) (.int k I)).run P w).andThen _ = _
    rw [hr]
    rfl
  · cases h
theorem step_storeI {P : Program} {ops : Array Oper} {o : Oper} {a : Act} {w : World} {K : Act → World → Prop} {Q : Exit → Act → World → Prop} {E : Prop} (hgd : o.guard = none) (ty : TypeId) (hi : (P.info? ty).map (·.size) = some 1) (x y : Operand) (ho : o.op = .store ty x y) (g i : Nat) (hx : a.eval x = .pointer (some ⟨g, i, none⟩))
    (k : IntKind) (v : Int) (hy : a.eval y = .int k v) {old : Value} (hc : w.cell? ⟨g, i, none⟩ = some old) (hz : w.frozen? ⟨g, i, none⟩ = false)
    (h : K (a.put o.dst undef) (w.setCell ⟨g, i, none⟩ (.int k v))) : if Region.wanted o (yielded ops a.tmps) = true then Oper.wp P o a w K Q else E := by
  have hw : Region.wanted o (yielded ops a.tmps) = true := by simp [Region.wanted, hgd]
  rw [if_pos hw]
  have hr : (Instr.storeAt ty (.pointer (some ⟨g, i, none⟩)) (.int k v)).run P w = .ok () (w.setCell ⟨g, i, none⟩ (.int k v)) := by
    obtain ⟨ie, hie, hs⟩ := Option.map_eq_some_iff.1 hi
    simp [Instr.storeAt, Instr.sureAddr, go_sem, sizeOf, typeInfo, hie, hs, hc, hz]
  unfold Oper.wp
  simp [execOp, ho, hx, hy, hr]
  exact h
theorem Tryd.size8 : (Tryd.prog.info? 5).map (·.size) = some 1 := by kernel_rfl
theorem byteV_get {l : List Int} {n i : Nat} (hl : l.length = n) (hi : i < n) : (byteV l)[i]? = some (.int .u8 (l.getD i 0)) := by
  unfold byteV
  rw [List.getElem?_map, List.getElem?_eq_getElem (by omega)]
  simp [List.getD, show i < l.length by omega]
theorem byteV_set (l : List Int) (i : Nat) (x : Int) : (byteV l).set i (.int .u8 x) = byteV (l.set i x) := by unfold byteV; rw [List.map_set]
/-- Two digits. -/
def put2 (B : List Int) (k x : Nat) : List Int := (B.set (k + 1) (smF (x * 2 + 1))).set k (smF (x * 2))
/-- Eight digits, from k on. -/
def put8 (B : List Int) (D u : Nat) : List Int := put2 (put2 (put2 (put2 B (D - 2) (u % 100000000 % 10000 % 100)) (D - 4) (u % 100000000 % 10000 / 100)) (D - 6) (u % 100000000 / 10000 % 100)) (D - 8) (u % 100000000 / 10000 / 100)
/-- Behind so many rounds. -/
def fbN (n : Nat) (B : List Int) (u : Nat) : Nat → List Int
  | 0 => B
  | k + 1 => put8 (fbN n B u k) (n - 8 * k) (u / 100000000 ^ k)
def fb4 (B : List Int) (D x : Nat) : List Int := put2 (put2 B (D - 2) (x % 10000 % 100)) (D - 4) (x % 10000 / 100)
def fbV (B : List Int) (D x : Nat) : List Int := if 0 < D then B.set 0 ((48 + (x : Int)) % 256) else B
def fbU (B : List Int) (D x : Nat) : List Int := if 2 ≤ D then fbV (put2 B (D - 2) (x % 100)) (D - 2) (x / 100) else fbV B D x
def fbT (B : List Int) (D x : Nat) : List Int := if 4 ≤ D then fbU (fb4 B D x) (D - 4) (x / 10000) else fbU B D x
def fb10 (n : Nat) (B : List Int) (u : Nat) : List Int := fbT (fbN n B u (n / 8)) (n - 8 * (n / 8)) (u / 100000000 ^ (n / 8) % 4294967296)
set_option maxRecDepth 20000 in
set_option maxHeartbeats 3200000 in
theorem fb10_walk {w : World} {g n cap : Nat} {B : List Int} {T : TypeId} (hb : Blk w g (byteV B) T) (hB : B.length = 32) (hn : n ≤ 20) (u : Nat) (hu : u < W64) :
    Calls Tryd.prog 70 #[.slice (some ⟨g, 0, none⟩) n cap, .int .u64 u] w fun r w' => r = .returned (.tuple #[]) ∧ Blk w' g (byteV (fb10 n B u)) T ∧ Keeps (One g) w w' := by
  have HB0 := Lib.hid hb
  have HL0 := Lib.hid hB
  unfold W64 at hu
  have HP : Hid (Tryd.prog.underlying 9 = some .string) := Lib.hid Tryd.underlying9
  clear hb hB
  go_enter Tryd.func70, Tryd.ntmps70
  go_wp2_with fail
  go_loopw [4, 1, 5, 6, 7, 8, 9, 10, 11] (fun x y _ _ _ _ _ _ _ wr => ∃ (k D U : Nat), x = .int .i64 D ∧ y = .int .u64 U ∧ Hid (D + 8 * k = n) ∧ D ≤ 20 ∧ U < 18446744073709551616 ∧ Hid (U = u / 100000000 ^ k) ∧ Hid ((fbN n B u k).length = 32) ∧ Hid (Blk wr g (byteV (fbN n B u k)) T) ∧ Hid (Keeps (One g) w wr)) (fun x _ _ _ _ _ _ _ _ _ => (intOf x).toNat)
  case atStart => exact ⟨0, n, u, rfl, rfl, Lib.hid (by omega), hn, hu, Lib.hid (by simp), HL0, HB0, Lib.hid (Keeps.refl _ _)⟩
  case round =>
    obtain ⟨k, D, U, rfl, rfl, hD, hD20, hU, hUe, BL, HB, HK⟩ := hrel
    by_cases h8 : 8 ≤ D
    · have h8i : (8 : Int) ≤ D := by omega
      have hDn : D ≤ n := by have := hD.out; omega
      obtain ⟨X, hX⟩ : ∃ X, X = U % 100000000 := ⟨_, rfl⟩
      have hXi : (U : Int) % 100000000 = (X : Int) := by omega
      have hXw : IntKind.u32.wrap (X : Int) = (X : Int) := by rw [IntKind.wrap_u32]; omega
      obtain ⟨V, hV⟩ : ∃ V, V = U / 100000000 := ⟨_, rfl⟩
      have hVi : (U : Int) / 100000000 = (V : Int) := by omega
      obtain ⟨Xh, hXh⟩ : ∃ Y, Y = X / 10000 := ⟨_, rfl⟩
      have hXhi : (X : Int) / 10000 = (Xh : Int) := by omega
      obtain ⟨Xl, hXl⟩ : ∃ Y, Y = X % 10000 := ⟨_, rfl⟩
      have hXli : (X : Int) % 10000 = (Xl : Int) := by omega
      obtain ⟨A1, hA1⟩ : ∃ Y, Y = Xl / 100 := ⟨_, rfl⟩
      have hA1i : (Xl : Int) / 100 = (A1 : Int) := by omega
      obtain ⟨A0, hA0⟩ : ∃ Y, Y = Xl % 100 := ⟨_, rfl⟩
      have hA0i : (Xl : Int) % 100 = (A0 : Int) := by omega
      obtain ⟨A3, hA3⟩ : ∃ Y, Y = Xh / 100 := ⟨_, rfl⟩
      have hA3i : (Xh : Int) / 100 = (A3 : Int) := by omega
      obtain ⟨A2, hA2⟩ : ∃ Y, Y = Xh % 100 := ⟨_, rfl⟩
      have hA2i : (Xh : Int) % 100 = (A2 : Int) := by omega
      have hX7 : X < 100000000 := by omega
      have hXh4 : Xh < 10000 := by omega
      have hXl4 : Xl < 10000 := by omega
      have hA1b : A1 < 100 := by omega
      have hA0b : A0 < 100 := by omega
      have hA3b : A3 < 100 := by omega
      have hA2b : A2 < 100 := by omega
      have hVb : V < 18446744073709551616 := by omega
      have HNX : Hid (fbN n B u (k + 1) = put2 (put2 (put2 (put2 (fbN n B u k) (D - 2) A0) (D - 4) A1) (D - 6) A2) (D - 8) A3) := Lib.hid (by
        show put8 _ _ _ = _
        unfold put8
        rw [← hUe.out, show n - 8 * k = D by have := hD.out; omega, hA0, hA1, hA2, hA3, hXl, hXh, hX])
      have HVE : Hid (V = u / 100000000 ^ (k + 1)) := Lib.hid (by rw [hV, hUe.out, Nat.div_div_eq_div_mul, Nat.pow_succ])
      obtain ⟨B0, hB0e⟩ : ∃ B0, B0 = fbN n B u k := ⟨_, rfl⟩
      rw [← hB0e] at BL HB HNX
      clear hX hV hXh hXl hA1 hA0 hA3 hA2 hB0e hUe HB0
      obtain ⟨K1, hK1⟩ : ∃ k, k = D - 1 := ⟨_, rfl⟩
      obtain ⟨K2, hK2⟩ : ∃ k, k = D - 2 := ⟨_, rfl⟩
      have hw1 : IntKind.i64.wrap ((D : Int) - 1) = (K1 : Int) := by rw [IntKind.wrap_i64]; omega
      have hw2 : IntKind.i64.wrap ((D : Int) - 2) = (K2 : Int) := by rw [IntKind.wrap_i64]; omega
      have hv1 : (D : Int) - 1 = (K1 : Int) := by omega
      have hv2 : (D : Int) - 2 = (K2 : Int) := by omega
      have hwk1 : IntKind.i64.wrap (K1 : Int) = (K1 : Int) := by rw [IntKind.wrap_i64]; omega
      have hwk2 : IntKind.i64.wrap (K2 : Int) = (K2 : Int) := by rw [IntKind.wrap_i64]; omega
      have hl1 : (K1 : Int) < n := by omega
      have hl2 : (K2 : Int) < n := by omega
      have hi1 : K1 < 32 := by omega
      have hi2 : K2 < 32 := by omega
      have hxw : IntKind.u32.wrap ((A0 : Int) * 2 + 1) = (A0 : Int) * 2 + 1 := by rw [IntKind.wrap_u32]; omega
      have hxb : (A0 : Int) * 2 + 1 < 200 := by omega
      have hcat1 := Lib.hid (show K1 = D - 1 ∧ K2 = D - 2 from ⟨hK1, hK2⟩)
      clear hK1 hK2
      go_upto_region 7 with fail
      refine wp_region_held_drew (S := fun _ => True) (by kernel_rfl) trivial (fun hHeld => ?_)
      have HBv := Lib.hid (HB.out.keep0 (Keeps.refl Nil wr).drew)
      have HKv := Lib.hid (HK.out.trans (Keeps.refl Nil wr).drew.nil)
      clear HB HK
      generalize wr.drew = v0 at *
      refine takeL (i := 0) (v := _) rfl (by kernel_rfl) (by kernel_rfl) (by kernel_rfl) (fun _ _ _ h => h) (Or.inl ⟨by rfl, by intro w hSw; (try dsimp only at hSw); go_simp; try with_reducible rfl⟩) (by assumption) ?_
      try simp only [Act.put, List.setIfInBounds_toArray, List.set_cons_zero, List.set_cons_succ]
      refine takeL (i := 1) (v := _) rfl (by kernel_rfl) (by kernel_rfl) (by kernel_rfl) (fun _ _ _ h => h) (Or.inl ⟨by rfl, by intro w hSw; (try dsimp only at hSw); go_simp; try with_reducible rfl⟩) (by assumption) ?_
      try simp only [Act.put, List.setIfInBounds_toArray, List.set_cons_zero, List.set_cons_succ]
      refine takeL (i := 2) (v := _) rfl (by kernel_rfl) (by kernel_rfl) (by kernel_rfl) (fun _ _ _ h => h) (Or.inl ⟨by rfl, by intro w hSw; (try dsimp only at hSw); go_simp; try with_reducible rfl⟩) (by assumption) ?_
      try simp only [Act.put, List.setIfInBounds_toArray, List.set_cons_zero, List.set_cons_succ]
      refine takeL (i := 3) (v := _) rfl (by kernel_rfl) (by kernel_rfl) (by kernel_rfl) (fun _ _ _ h => h) (Or.inl ⟨by rfl, by intro w hSw; (try dsimp only at hSw); go_simp; try with_reducible rfl⟩) (by assumption) ?_
      try simp only [Act.put, List.setIfInBounds_toArray, List.set_cons_zero, List.set_cons_succ]
      refine takeL (i := 4) (v := _) rfl (by kernel_rfl) (by kernel_rfl) (by kernel_rfl) (fun _ _ _ h => h) (Or.inl ⟨by rfl, by intro w hSw; (try dsimp only at hSw); go_simp; try with_reducible rfl⟩) (by assumption) ?_
      try simp only [Act.put, List.setIfInBounds_toArray, List.set_cons_zero, List.set_cons_succ]
      refine takeL (i := 5) (v := _) rfl (by kernel_rfl) (by kernel_rfl) (by kernel_rfl) (fun _ _ _ h => h) (Or.inl ⟨by rfl, by intro w hSw; (try dsimp only at hSw); go_simp; try with_reducible rfl⟩) (by assumption) ?_
      try simp only [Act.put, List.setIfInBounds_toArray, List.set_cons_zero, List.set_cons_succ]
      refine takeL (i := 6) (v := _) rfl (by kernel_rfl) (by kernel_rfl) (by kernel_rfl) (fun _ _ _ h => h) (Or.inl ⟨by rfl, by intro w hSw; (try dsimp only at hSw); go_simp; try with_reducible rfl⟩) (by assumption) ?_
      try simp only [Act.put, List.setIfInBounds_toArray, List.set_cons_zero, List.set_cons_succ]
      refine takeL (i := 7) (v := _) rfl (by kernel_rfl) (by kernel_rfl) (by kernel_rfl) (fun _ _ _ h => h) (Or.inl ⟨by rfl, by intro w hSw; (try dsimp only at hSw); go_simp; try with_reducible rfl⟩) (by assumption) ?_
      try simp only [Act.put, List.setIfInBounds_toArray, List.set_cons_zero, List.set_cons_succ]
      refine takeL (i := 9) (v := _) rfl (by kernel_rfl) (by kernel_rfl) (by kernel_rfl) (fun _ _ _ h => h) (Or.inl ⟨by rfl, by intro w hSw; (try dsimp only at hSw); go_simp; try with_reducible rfl⟩) (by assumption) ?_
      try simp only [Act.put, List.setIfInBounds_toArray, List.set_cons_zero, List.set_cons_succ]
      refine takeL (i := 8) (v := .int .u8 (smF (A0 * 2 + 1))) rfl (by kernel_rfl) (by kernel_rfl) (by kernel_rfl) (fun _ _ _ h => h) (yieldsIf_sm (by rfl) HP.out (by kernel_rfl) .u32 ((A0 : Int) * 2 + 1) rfl (A0 * 2 + 1) (by omega) (by omega)) (by assumption) ?_
      try simp only [Act.put, List.setIfInBounds_toArray, List.set_cons_zero, List.set_cons_succ]
      refine takeL (i := 10) (v := .int .u8 (smF (A0 * 2))) rfl (by kernel_rfl) (by kernel_rfl) (by kernel_rfl) (fun _ _ _ h => h) (yieldsIf_sm (by rfl) HP.out (by kernel_rfl) .u32 ((A0 : Int) * 2) rfl (A0 * 2) (by omega) (by omega)) (by assumption) ?_
      try simp only [Act.put, List.setIfInBounds_toArray, List.set_cons_zero, List.set_cons_succ]
      refine takeL (i := 11) (v := _) rfl (by kernel_rfl) (by kernel_rfl) (by kernel_rfl) (fun _ _ _ h => h) (Or.inl ⟨by rfl, by intro w hSw; (try dsimp only at hSw); go_simp; try with_reducible rfl⟩) (by assumption) ?_
      try simp only [Act.put, List.setIfInBounds_toArray, List.set_cons_zero, List.set_cons_succ]
      refine onlyL (i := 12) rfl (by kernel_rfl) (fun K hK => ?_)
      have hcl := HBv.out.cell K1 (byteV_get BL.out hi1)
      have hfz := HBv.out.frozen K1
      refine step_storeI rfl 5 Tryd.size8 _ _ rfl g K1 rfl .u8 (smF (A0 * 2 + 1)) rfl hcl hfz ?_
      have HBw := Lib.hid (byteV_set _ K1 _ ▸ HBv.out.set K1 (.int .u8 (smF (A0 * 2 + 1))))
      have HKw := Lib.hid (HKv.out.setOne K1 (.int .u8 (smF (A0 * 2 + 1))))
      generalize v0.setCell ⟨g, K1, none⟩ (.int .u8 (smF (A0 * 2 + 1))) = v1 at *
      have BLw : Hid ((B0.set K1 (smF (A0 * 2 + 1))).length = 32) := Lib.hid (by rw [List.length_set]; exact BL.out)
      clear hcl hfz HBv HKv
      refine (fun hHeld => hK _ _ hHeld ?_) (trivial)
      clear hK
      try simp only [Act.put, List.setIfInBounds_toArray, List.set_cons_zero, List.set_cons_succ]
      refine takeL (i := 13) (v := _) rfl (by kernel_rfl) (by kernel_rfl) (by kernel_rfl) (fun _ _ _ h => h) (Or.inl ⟨by rfl, by intro w hSw; (try dsimp only at hSw); go_simp; try with_reducible rfl⟩) (by assumption) ?_
      try simp only [Act.put, List.setIfInBounds_toArray, List.set_cons_zero, List.set_cons_succ]
      refine onlyL (i := 14) rfl (by kernel_rfl) (fun K hK => ?_)
      have hcl := HBw.out.cell K2 (byteV_get BLw.out hi2)
      have hfz := HBw.out.frozen K2
      refine step_storeI rfl 5 Tryd.size8 _ _ rfl g K2 rfl .u8 (smF (A0 * 2)) rfl hcl hfz ?_
      have hbx := byteV_set _ K2 _ ▸ HBw.out.set K2 (.int .u8 (smF (A0 * 2)))
      have hkx := HKw.out.setOne K2 (.int .u8 (smF (A0 * 2)))
      generalize v1.setCell ⟨g, K2, none⟩ (.int .u8 (smF (A0 * 2))) = y1 at *
      have BLx : Hid ((put2 B0 (D - 2) A0).length = 32) := Lib.hid (by unfold put2; rw [List.length_set, List.length_set]; exact BL.out)
      have hpp : (B0.set K1 (smF (A0 * 2 + 1))).set K2 (smF (A0 * 2)) = put2 B0 (D - 2) A0 := by
        unfold put2
        rw [hcat1.out.1, hcat1.out.2, show D - 2 + 1 = D - 1 by omega]
      rw [hpp] at hbx
      clear hpp hcl hfz HBw HKw BLw BL
      refine (fun hHeld => hK _ _ hHeld ?_) (trivial)
      clear hK
      try simp only [Act.put, List.setIfInBounds_toArray, List.set_cons_zero, List.set_cons_succ]
      refine wpAnyH_done (by kernel_rfl) ?_ _
      clear hHeld hwk1 hwk2 hw1 hw2 hv1 hv2 hl1 hl2 hi1 hi2 hxw hxb hcat1
      have BL := BLx
      have HB := Lib.hid hbx
      have HK := Lib.hid hkx
      clear BLx hbx hkx
      obtain ⟨K1, hK1⟩ : ∃ k, k = D - 3 := ⟨_, rfl⟩
      obtain ⟨K2, hK2⟩ : ∃ k, k = D - 4 := ⟨_, rfl⟩
      have hw1 : IntKind.i64.wrap ((D : Int) - 3) = (K1 : Int) := by rw [IntKind.wrap_i64]; omega
      have hw2 : IntKind.i64.wrap ((D : Int) - 4) = (K2 : Int) := by rw [IntKind.wrap_i64]; omega
      have hv1 : (D : Int) - 3 = (K1 : Int) := by omega
      have hv2 : (D : Int) - 4 = (K2 : Int) := by omega
      have hwk1 : IntKind.i64.wrap (K1 : Int) = (K1 : Int) := by rw [IntKind.wrap_i64]; omega
      have hwk2 : IntKind.i64.wrap (K2 : Int) = (K2 : Int) := by rw [IntKind.wrap_i64]; omega
      have hl1 : (K1 : Int) < n := by omega
      have hl2 : (K2 : Int) < n := by omega
      have hi1 : K1 < 32 := by omega
      have hi2 : K2 < 32 := by omega
      have hxw : IntKind.u32.wrap ((A1 : Int) * 2 + 1) = (A1 : Int) * 2 + 1 := by rw [IntKind.wrap_u32]; omega
      have hxb : (A1 : Int) * 2 + 1 < 200 := by omega
      have hcat1 := Lib.hid (show K1 = D - 3 ∧ K2 = D - 4 from ⟨hK1, hK2⟩)
      clear hK1 hK2
      go_upto_region 8 with fail
      refine wp_region_held_drew (S := fun _ => True) (by kernel_rfl) trivial (fun hHeld => ?_)
      have HBv := Lib.hid (HB.out.keep0 (Keeps.refl Nil y1).drew)
      have HKv := Lib.hid (HK.out.trans (Keeps.refl Nil y1).drew.nil)
      clear HB HK
      generalize y1.drew = v0 at *
      refine takeL (i := 0) (v := _) rfl (by kernel_rfl) (by kernel_rfl) (by kernel_rfl) (fun _ _ _ h => h) (Or.inl ⟨by rfl, by intro w hSw; (try dsimp only at hSw); go_simp; try with_reducible rfl⟩) (by assumption) ?_
      try simp only [Act.put, List.setIfInBounds_toArray, List.set_cons_zero, List.set_cons_succ]
      refine takeL (i := 1) (v := _) rfl (by kernel_rfl) (by kernel_rfl) (by kernel_rfl) (fun _ _ _ h => h) (Or.inl ⟨by rfl, by intro w hSw; (try dsimp only at hSw); go_simp; try with_reducible rfl⟩) (by assumption) ?_
      try simp only [Act.put, List.setIfInBounds_toArray, List.set_cons_zero, List.set_cons_succ]
      refine takeL (i := 2) (v := _) rfl (by kernel_rfl) (by kernel_rfl) (by kernel_rfl) (fun _ _ _ h => h) (Or.inl ⟨by rfl, by intro w hSw; (try dsimp only at hSw); go_simp; try with_reducible rfl⟩) (by assumption) ?_
      try simp only [Act.put, List.setIfInBounds_toArray, List.set_cons_zero, List.set_cons_succ]
      refine takeL (i := 3) (v := _) rfl (by kernel_rfl) (by kernel_rfl) (by kernel_rfl) (fun _ _ _ h => h) (Or.inl ⟨by rfl, by intro w hSw; (try dsimp only at hSw); go_simp; try with_reducible rfl⟩) (by assumption) ?_
      try simp only [Act.put, List.setIfInBounds_toArray, List.set_cons_zero, List.set_cons_succ]
      refine takeL (i := 4) (v := _) rfl (by kernel_rfl) (by kernel_rfl) (by kernel_rfl) (fun _ _ _ h => h) (Or.inl ⟨by rfl, by intro w hSw; (try dsimp only at hSw); go_simp; try with_reducible rfl⟩) (by assumption) ?_
      try simp only [Act.put, List.setIfInBounds_toArray, List.set_cons_zero, List.set_cons_succ]
      refine takeL (i := 5) (v := _) rfl (by kernel_rfl) (by kernel_rfl) (by kernel_rfl) (fun _ _ _ h => h) (Or.inl ⟨by rfl, by intro w hSw; (try dsimp only at hSw); go_simp; try with_reducible rfl⟩) (by assumption) ?_
      try simp only [Act.put, List.setIfInBounds_toArray, List.set_cons_zero, List.set_cons_succ]
      refine takeL (i := 6) (v := _) rfl (by kernel_rfl) (by kernel_rfl) (by kernel_rfl) (fun _ _ _ h => h) (Or.inl ⟨by rfl, by intro w hSw; (try dsimp only at hSw); go_simp; try with_reducible rfl⟩) (by assumption) ?_
      try simp only [Act.put, List.setIfInBounds_toArray, List.set_cons_zero, List.set_cons_succ]
      refine takeL (i := 7) (v := _) rfl (by kernel_rfl) (by kernel_rfl) (by kernel_rfl) (fun _ _ _ h => h) (Or.inl ⟨by rfl, by intro w hSw; (try dsimp only at hSw); go_simp; try with_reducible rfl⟩) (by assumption) ?_
      try simp only [Act.put, List.setIfInBounds_toArray, List.set_cons_zero, List.set_cons_succ]
      refine takeL (i := 9) (v := _) rfl (by kernel_rfl) (by kernel_rfl) (by kernel_rfl) (fun _ _ _ h => h) (Or.inl ⟨by rfl, by intro w hSw; (try dsimp only at hSw); go_simp; try with_reducible rfl⟩) (by assumption) ?_
      try simp only [Act.put, List.setIfInBounds_toArray, List.set_cons_zero, List.set_cons_succ]
      refine takeL (i := 8) (v := .int .u8 (smF (A1 * 2 + 1))) rfl (by kernel_rfl) (by kernel_rfl) (by kernel_rfl) (fun _ _ _ h => h) (yieldsIf_sm (by rfl) HP.out (by kernel_rfl) .u32 ((A1 : Int) * 2 + 1) rfl (A1 * 2 + 1) (by omega) (by omega)) (by assumption) ?_
      try simp only [Act.put, List.setIfInBounds_toArray, List.set_cons_zero, List.set_cons_succ]
      refine takeL (i := 10) (v := .int .u8 (smF (A1 * 2))) rfl (by kernel_rfl) (by kernel_rfl) (by kernel_rfl) (fun _ _ _ h => h) (yieldsIf_sm (by rfl) HP.out (by kernel_rfl) .u32 ((A1 : Int) * 2) rfl (A1 * 2) (by omega) (by omega)) (by assumption) ?_
      try simp only [Act.put, List.setIfInBounds_toArray, List.set_cons_zero, List.set_cons_succ]
      refine takeL (i := 11) (v := _) rfl (by kernel_rfl) (by kernel_rfl) (by kernel_rfl) (fun _ _ _ h => h) (Or.inl ⟨by rfl, by intro w hSw; (try dsimp only at hSw); go_simp; try with_reducible rfl⟩) (by assumption) ?_
      try simp only [Act.put, List.setIfInBounds_toArray, List.set_cons_zero, List.set_cons_succ]
      refine onlyL (i := 12) rfl (by kernel_rfl) (fun K hK => ?_)
      have hcl := HBv.out.cell K1 (byteV_get BL.out hi1)
      have hfz := HBv.out.frozen K1
      refine step_storeI rfl 5 Tryd.size8 _ _ rfl g K1 rfl .u8 (smF (A1 * 2 + 1)) rfl hcl hfz ?_
      have HBw := Lib.hid (byteV_set _ K1 _ ▸ HBv.out.set K1 (.int .u8 (smF (A1 * 2 + 1))))
      have HKw := Lib.hid (HKv.out.setOne K1 (.int .u8 (smF (A1 * 2 + 1))))
      generalize v0.setCell ⟨g, K1, none⟩ (.int .u8 (smF (A1 * 2 + 1))) = v1 at *
      have BLw : Hid (((put2 B0 (D - 2) A0).set K1 (smF (A1 * 2 + 1))).length = 32) := Lib.hid (by rw [List.length_set]; exact BL.out)
      clear hcl hfz HBv HKv
      refine (fun hHeld => hK _ _ hHeld ?_) (trivial)
      clear hK
      try simp only [Act.put, List.setIfInBounds_toArray, List.set_cons_zero, List.set_cons_succ]
      refine takeL (i := 13) (v := _) rfl (by kernel_rfl) (by kernel_rfl) (by kernel_rfl) (fun _ _ _ h => h) (Or.inl ⟨by rfl, by intro w hSw; (try dsimp only at hSw); go_simp; try with_reducible rfl⟩) (by assumption) ?_
      try simp only [Act.put, List.setIfInBounds_toArray, List.set_cons_zero, List.set_cons_succ]
      refine onlyL (i := 14) rfl (by kernel_rfl) (fun K hK => ?_)
      have hcl := HBw.out.cell K2 (byteV_get BLw.out hi2)
      have hfz := HBw.out.frozen K2
      refine step_storeI rfl 5 Tryd.size8 _ _ rfl g K2 rfl .u8 (smF (A1 * 2)) rfl hcl hfz ?_
      have hbx := byteV_set _ K2 _ ▸ HBw.out.set K2 (.int .u8 (smF (A1 * 2)))
      have hkx := HKw.out.setOne K2 (.int .u8 (smF (A1 * 2)))
      generalize v1.setCell ⟨g, K2, none⟩ (.int .u8 (smF (A1 * 2))) = y2 at *
      have BLx : Hid ((put2 (put2 B0 (D - 2) A0) (D - 4) A1).length = 32) := Lib.hid (by unfold put2; rw [List.length_set, List.length_set]; exact BL.out)
      have hpp : ((put2 B0 (D - 2) A0).set K1 (smF (A1 * 2 + 1))).set K2 (smF (A1 * 2)) = put2 (put2 B0 (D - 2) A0) (D - 4) A1 := by
        unfold put2
        rw [hcat1.out.1, hcat1.out.2, show D - 4 + 1 = D - 3 by omega]
      rw [hpp] at hbx
      clear hpp hcl hfz HBw HKw BLw BL
      refine (fun hHeld => hK _ _ hHeld ?_) (trivial)
      clear hK
      try simp only [Act.put, List.setIfInBounds_toArray, List.set_cons_zero, List.set_cons_succ]
      refine wpAnyH_done (by kernel_rfl) ?_ _
      clear hHeld hwk1 hwk2 hw1 hw2 hv1 hv2 hl1 hl2 hi1 hi2 hxw hxb hcat1
      have BL := BLx
      have HB := Lib.hid hbx
      have HK := Lib.hid hkx
      clear BLx hbx hkx
      obtain ⟨K1, hK1⟩ : ∃ k, k = D - 5 := ⟨_, rfl⟩
      obtain ⟨K2, hK2⟩ : ∃ k, k = D - 6 := ⟨_, rfl⟩
      have hw1 : IntKind.i64.wrap ((D : Int) - 5) = (K1 : Int) := by rw [IntKind.wrap_i64]; omega
      have hw2 : IntKind.i64.wrap ((D : Int) - 6) = (K2 : Int) := by rw [IntKind.wrap_i64]; omega
      have hv1 : (D : Int) - 5 = (K1 : Int) := by omega
      have hv2 : (D : Int) - 6 = (K2 : Int) := by omega
      have hwk1 : IntKind.i64.wrap (K1 : Int) = (K1 : Int) := by rw [IntKind.wrap_i64]; omega
      have hwk2 : IntKind.i64.wrap (K2 : Int) = (K2 : Int) := by rw [IntKind.wrap_i64]; omega
      have hl1 : (K1 : Int) < n := by omega
      have hl2 : (K2 : Int) < n := by omega
      have hi1 : K1 < 32 := by omega
      have hi2 : K2 < 32 := by omega
      have hxw : IntKind.u32.wrap ((A2 : Int) * 2 + 1) = (A2 : Int) * 2 + 1 := by rw [IntKind.wrap_u32]; omega
      have hxb : (A2 : Int) * 2 + 1 < 200 := by omega
      have hcat1 := Lib.hid (show K1 = D - 5 ∧ K2 = D - 6 from ⟨hK1, hK2⟩)
      clear hK1 hK2
      go_upto_region 9 with fail
      refine wp_region_held_drew (S := fun _ => True) (by kernel_rfl) trivial (fun hHeld => ?_)
      have HBv := Lib.hid (HB.out.keep0 (Keeps.refl Nil y2).drew)
      have HKv := Lib.hid (HK.out.trans (Keeps.refl Nil y2).drew.nil)
      clear HB HK
      generalize y2.drew = v0 at *
      refine takeL (i := 0) (v := _) rfl (by kernel_rfl) (by kernel_rfl) (by kernel_rfl) (fun _ _ _ h => h) (Or.inl ⟨by rfl, by intro w hSw; (try dsimp only at hSw); go_simp; try with_reducible rfl⟩) (by assumption) ?_
      try simp only [Act.put, List.setIfInBounds_toArray, List.set_cons_zero, List.set_cons_succ]
      refine takeL (i := 1) (v := _) rfl (by kernel_rfl) (by kernel_rfl) (by kernel_rfl) (fun _ _ _ h => h) (Or.inl ⟨by rfl, by intro w hSw; (try dsimp only at hSw); go_simp; try with_reducible rfl⟩) (by assumption) ?_
      try simp only [Act.put, List.setIfInBounds_toArray, List.set_cons_zero, List.set_cons_succ]
      refine takeL (i := 2) (v := _) rfl (by kernel_rfl) (by kernel_rfl) (by kernel_rfl) (fun _ _ _ h => h) (Or.inl ⟨by rfl, by intro w hSw; (try dsimp only at hSw); go_simp; try with_reducible rfl⟩) (by assumption) ?_
      try simp only [Act.put, List.setIfInBounds_toArray, List.set_cons_zero, List.set_cons_succ]
      refine takeL (i := 3) (v := _) rfl (by kernel_rfl) (by kernel_rfl) (by kernel_rfl) (fun _ _ _ h => h) (Or.inl ⟨by rfl, by intro w hSw; (try dsimp only at hSw); go_simp; try with_reducible rfl⟩) (by assumption) ?_
      try simp only [Act.put, List.setIfInBounds_toArray, List.set_cons_zero, List.set_cons_succ]
      refine takeL (i := 4) (v := _) rfl (by kernel_rfl) (by kernel_rfl) (by kernel_rfl) (fun _ _ _ h => h) (Or.inl ⟨by rfl, by intro w hSw; (try dsimp only at hSw); go_simp; try with_reducible rfl⟩) (by assumption) ?_
      try simp only [Act.put, List.setIfInBounds_toArray, List.set_cons_zero, List.set_cons_succ]
      refine takeL (i := 5) (v := _) rfl (by kernel_rfl) (by kernel_rfl) (by kernel_rfl) (fun _ _ _ h => h) (Or.inl ⟨by rfl, by intro w hSw; (try dsimp only at hSw); go_simp; try with_reducible rfl⟩) (by assumption) ?_
      try simp only [Act.put, List.setIfInBounds_toArray, List.set_cons_zero, List.set_cons_succ]
      refine takeL (i := 6) (v := _) rfl (by kernel_rfl) (by kernel_rfl) (by kernel_rfl) (fun _ _ _ h => h) (Or.inl ⟨by rfl, by intro w hSw; (try dsimp only at hSw); go_simp; try with_reducible rfl⟩) (by assumption) ?_
      try simp only [Act.put, List.setIfInBounds_toArray, List.set_cons_zero, List.set_cons_succ]
      refine takeL (i := 7) (v := _) rfl (by kernel_rfl) (by kernel_rfl) (by kernel_rfl) (fun _ _ _ h => h) (Or.inl ⟨by rfl, by intro w hSw; (try dsimp only at hSw); go_simp; try with_reducible rfl⟩) (by assumption) ?_
      try simp only [Act.put, List.setIfInBounds_toArray, List.set_cons_zero, List.set_cons_succ]
      refine takeL (i := 9) (v := _) rfl (by kernel_rfl) (by kernel_rfl) (by kernel_rfl) (fun _ _ _ h => h) (Or.inl ⟨by rfl, by intro w hSw; (try dsimp only at hSw); go_simp; try with_reducible rfl⟩) (by assumption) ?_
      try simp only [Act.put, List.setIfInBounds_toArray, List.set_cons_zero, List.set_cons_succ]
      refine takeL (i := 8) (v := .int .u8 (smF (A2 * 2 + 1))) rfl (by kernel_rfl) (by kernel_rfl) (by kernel_rfl) (fun _ _ _ h => h) (yieldsIf_sm (by rfl) HP.out (by kernel_rfl) .u32 ((A2 : Int) * 2 + 1) rfl (A2 * 2 + 1) (by omega) (by omega)) (by assumption) ?_
      try simp only [Act.put, List.setIfInBounds_toArray, List.set_cons_zero, List.set_cons_succ]
      refine takeL (i := 10) (v := .int .u8 (smF (A2 * 2))) rfl (by kernel_rfl) (by kernel_rfl) (by kernel_rfl) (fun _ _ _ h => h) (yieldsIf_sm (by rfl) HP.out (by kernel_rfl) .u32 ((A2 : Int) * 2) rfl (A2 * 2) (by omega) (by omega)) (by assumption) ?_
      try simp only [Act.put, List.setIfInBounds_toArray, List.set_cons_zero, List.set_cons_succ]
      refine takeL (i := 11) (v := _) rfl (by kernel_rfl) (by kernel_rfl) (by kernel_rfl) (fun _ _ _ h => h) (Or.inl ⟨by rfl, by intro w hSw; (try dsimp only at hSw); go_simp; try with_reducible rfl⟩) (by assumption) ?_
      try simp only [Act.put, List.setIfInBounds_toArray, List.set_cons_zero, List.set_cons_succ]
      refine onlyL (i := 12) rfl (by kernel_rfl) (fun K hK => ?_)
      have hcl := HBv.out.cell K1 (byteV_get BL.out hi1)
      have hfz := HBv.out.frozen K1
      refine step_storeI rfl 5 Tryd.size8 _ _ rfl g K1 rfl .u8 (smF (A2 * 2 + 1)) rfl hcl hfz ?_
      have HBw := Lib.hid (byteV_set _ K1 _ ▸ HBv.out.set K1 (.int .u8 (smF (A2 * 2 + 1))))
      have HKw := Lib.hid (HKv.out.setOne K1 (.int .u8 (smF (A2 * 2 + 1))))
      generalize v0.setCell ⟨g, K1, none⟩ (.int .u8 (smF (A2 * 2 + 1))) = v1 at *
      have BLw : Hid (((put2 (put2 B0 (D - 2) A0) (D - 4) A1).set K1 (smF (A2 * 2 + 1))).length = 32) := Lib.hid (by rw [List.length_set]; exact BL.out)
      clear hcl hfz HBv HKv
      refine (fun hHeld => hK _ _ hHeld ?_) (trivial)
      clear hK
      try simp only [Act.put, List.setIfInBounds_toArray, List.set_cons_zero, List.set_cons_succ]
      refine takeL (i := 13) (v := _) rfl (by kernel_rfl) (by kernel_rfl) (by kernel_rfl) (fun _ _ _ h => h) (Or.inl ⟨by rfl, by intro w hSw; (try dsimp only at hSw); go_simp; try with_reducible rfl⟩) (by assumption) ?_
      try simp only [Act.put, List.setIfInBounds_toArray, List.set_cons_zero, List.set_cons_succ]
      refine onlyL (i := 14) rfl (by kernel_rfl) (fun K hK => ?_)
      have hcl := HBw.out.cell K2 (byteV_get BLw.out hi2)
      have hfz := HBw.out.frozen K2
      refine step_storeI rfl 5 Tryd.size8 _ _ rfl g K2 rfl .u8 (smF (A2 * 2)) rfl hcl hfz ?_
      have hbx := byteV_set _ K2 _ ▸ HBw.out.set K2 (.int .u8 (smF (A2 * 2)))
      have hkx := HKw.out.setOne K2 (.int .u8 (smF (A2 * 2)))
      generalize v1.setCell ⟨g, K2, none⟩ (.int .u8 (smF (A2 * 2))) = y3 at *
      have BLx : Hid ((put2 (put2 (put2 B0 (D - 2) A0) (D - 4) A1) (D - 6) A2).length = 32) := Lib.hid (by unfold put2; rw [List.length_set, List.length_set]; exact BL.out)
      have hpp : ((put2 (put2 B0 (D - 2) A0) (D - 4) A1).set K1 (smF (A2 * 2 + 1))).set K2 (smF (A2 * 2)) = put2 (put2 (put2 B0 (D - 2) A0) (D - 4) A1) (D - 6) A2 := by
        unfold put2
        rw [hcat1.out.1, hcat1.out.2, show D - 6 + 1 = D - 5 by omega]
      rw [hpp] at hbx
      clear hpp hcl hfz HBw HKw BLw BL
      refine (fun hHeld => hK _ _ hHeld ?_) (trivial)
      clear hK
      try simp only [Act.put, List.setIfInBounds_toArray, List.set_cons_zero, List.set_cons_succ]
      refine wpAnyH_done (by kernel_rfl) ?_ _
      clear hHeld hwk1 hwk2 hw1 hw2 hv1 hv2 hl1 hl2 hi1 hi2 hxw hxb hcat1
      have BL := BLx
      have HB := Lib.hid hbx
      have HK := Lib.hid hkx
      clear BLx hbx hkx
      obtain ⟨K1, hK1⟩ : ∃ k, k = D - 7 := ⟨_, rfl⟩
      obtain ⟨K2, hK2⟩ : ∃ k, k = D - 8 := ⟨_, rfl⟩
      have hw1 : IntKind.i64.wrap ((D : Int) - 7) = (K1 : Int) := by rw [IntKind.wrap_i64]; omega
      have hw2 : IntKind.i64.wrap ((D : Int) - 8) = (K2 : Int) := by rw [IntKind.wrap_i64]; omega
      have hv1 : (D : Int) - 7 = (K1 : Int) := by omega
      have hv2 : (D : Int) - 8 = (K2 : Int) := by omega
      have hwk1 : IntKind.i64.wrap (K1 : Int) = (K1 : Int) := by rw [IntKind.wrap_i64]; omega
      have hwk2 : IntKind.i64.wrap (K2 : Int) = (K2 : Int) := by rw [IntKind.wrap_i64]; omega
      have hl1 : (K1 : Int) < n := by omega
      have hl2 : (K2 : Int) < n := by omega
      have hi1 : K1 < 32 := by omega
      have hi2 : K2 < 32 := by omega
      have hxw : IntKind.u32.wrap ((A3 : Int) * 2 + 1) = (A3 : Int) * 2 + 1 := by rw [IntKind.wrap_u32]; omega
      have hxb : (A3 : Int) * 2 + 1 < 200 := by omega
      have hcat1 := Lib.hid (show K1 = D - 7 ∧ K2 = D - 8 from ⟨hK1, hK2⟩)
      clear hK1 hK2
      go_upto_region 10 with fail
      refine wp_region_held_drew (S := fun _ => True) (by kernel_rfl) trivial (fun hHeld => ?_)
      have HBv := Lib.hid (HB.out.keep0 (Keeps.refl Nil y3).drew)
      have HKv := Lib.hid (HK.out.trans (Keeps.refl Nil y3).drew.nil)
      clear HB HK
      generalize y3.drew = v0 at *
      refine takeL (i := 0) (v := _) rfl (by kernel_rfl) (by kernel_rfl) (by kernel_rfl) (fun _ _ _ h => h) (Or.inl ⟨by rfl, by intro w hSw; (try dsimp only at hSw); go_simp; try with_reducible rfl⟩) (by assumption) ?_
      try simp only [Act.put, List.setIfInBounds_toArray, List.set_cons_zero, List.set_cons_succ]
      refine takeL (i := 1) (v := _) rfl (by kernel_rfl) (by kernel_rfl) (by kernel_rfl) (fun _ _ _ h => h) (Or.inl ⟨by rfl, by intro w hSw; (try dsimp only at hSw); go_simp; try with_reducible rfl⟩) (by assumption) ?_
      try simp only [Act.put, List.setIfInBounds_toArray, List.set_cons_zero, List.set_cons_succ]
      refine takeL (i := 2) (v := _) rfl (by kernel_rfl) (by kernel_rfl) (by kernel_rfl) (fun _ _ _ h => h) (Or.inl ⟨by rfl, by intro w hSw; (try dsimp only at hSw); go_simp; try with_reducible rfl⟩) (by assumption) ?_
      try simp only [Act.put, List.setIfInBounds_toArray, List.set_cons_zero, List.set_cons_succ]
      refine takeL (i := 3) (v := _) rfl (by kernel_rfl) (by kernel_rfl) (by kernel_rfl) (fun _ _ _ h => h) (Or.inl ⟨by rfl, by intro w hSw; (try dsimp only at hSw); go_simp; try with_reducible rfl⟩) (by assumption) ?_
      try simp only [Act.put, List.setIfInBounds_toArray, List.set_cons_zero, List.set_cons_succ]
      refine takeL (i := 4) (v := _) rfl (by kernel_rfl) (by kernel_rfl) (by kernel_rfl) (fun _ _ _ h => h) (Or.inl ⟨by rfl, by intro w hSw; (try dsimp only at hSw); go_simp; try with_reducible rfl⟩) (by assumption) ?_
      try simp only [Act.put, List.setIfInBounds_toArray, List.set_cons_zero, List.set_cons_succ]
      refine takeL (i := 5) (v := _) rfl (by kernel_rfl) (by kernel_rfl) (by kernel_rfl) (fun _ _ _ h => h) (Or.inl ⟨by rfl, by intro w hSw; (try dsimp only at hSw); go_simp; try with_reducible rfl⟩) (by assumption) ?_
      try simp only [Act.put, List.setIfInBounds_toArray, List.set_cons_zero, List.set_cons_succ]
      refine takeL (i := 6) (v := _) rfl (by kernel_rfl) (by kernel_rfl) (by kernel_rfl) (fun _ _ _ h => h) (Or.inl ⟨by rfl, by intro w hSw; (try dsimp only at hSw); go_simp; try with_reducible rfl⟩) (by assumption) ?_
      try simp only [Act.put, List.setIfInBounds_toArray, List.set_cons_zero, List.set_cons_succ]
      refine takeL (i := 7) (v := _) rfl (by kernel_rfl) (by kernel_rfl) (by kernel_rfl) (fun _ _ _ h => h) (Or.inl ⟨by rfl, by intro w hSw; (try dsimp only at hSw); go_simp; try with_reducible rfl⟩) (by assumption) ?_
      try simp only [Act.put, List.setIfInBounds_toArray, List.set_cons_zero, List.set_cons_succ]
      refine takeL (i := 9) (v := _) rfl (by kernel_rfl) (by kernel_rfl) (by kernel_rfl) (fun _ _ _ h => h) (Or.inl ⟨by rfl, by intro w hSw; (try dsimp only at hSw); go_simp; try with_reducible rfl⟩) (by assumption) ?_
      try simp only [Act.put, List.setIfInBounds_toArray, List.set_cons_zero, List.set_cons_succ]
      refine takeL (i := 8) (v := .int .u8 (smF (A3 * 2 + 1))) rfl (by kernel_rfl) (by kernel_rfl) (by kernel_rfl) (fun _ _ _ h => h) (yieldsIf_sm (by rfl) HP.out (by kernel_rfl) .u32 ((A3 : Int) * 2 + 1) rfl (A3 * 2 + 1) (by omega) (by omega)) (by assumption) ?_
      try simp only [Act.put, List.setIfInBounds_toArray, List.set_cons_zero, List.set_cons_succ]
      refine takeL (i := 10) (v := .int .u8 (smF (A3 * 2))) rfl (by kernel_rfl) (by kernel_rfl) (by kernel_rfl) (fun _ _ _ h => h) (yieldsIf_sm (by rfl) HP.out (by kernel_rfl) .u32 ((A3 : Int) * 2) rfl (A3 * 2) (by omega) (by omega)) (by assumption) ?_
      try simp only [Act.put, List.setIfInBounds_toArray, List.set_cons_zero, List.set_cons_succ]
      refine takeL (i := 11) (v := _) rfl (by kernel_rfl) (by kernel_rfl) (by kernel_rfl) (fun _ _ _ h => h) (Or.inl ⟨by rfl, by intro w hSw; (try dsimp only at hSw); go_simp; try with_reducible rfl⟩) (by assumption) ?_
      try simp only [Act.put, List.setIfInBounds_toArray, List.set_cons_zero, List.set_cons_succ]
      refine onlyL (i := 12) rfl (by kernel_rfl) (fun K hK => ?_)
      have hcl := HBv.out.cell K1 (byteV_get BL.out hi1)
      have hfz := HBv.out.frozen K1
      refine step_storeI rfl 5 Tryd.size8 _ _ rfl g K1 rfl .u8 (smF (A3 * 2 + 1)) rfl hcl hfz ?_
      have HBw := Lib.hid (byteV_set _ K1 _ ▸ HBv.out.set K1 (.int .u8 (smF (A3 * 2 + 1))))
      have HKw := Lib.hid (HKv.out.setOne K1 (.int .u8 (smF (A3 * 2 + 1))))
      generalize v0.setCell ⟨g, K1, none⟩ (.int .u8 (smF (A3 * 2 + 1))) = v1 at *
      have BLw : Hid (((put2 (put2 (put2 B0 (D - 2) A0) (D - 4) A1) (D - 6) A2).set K1 (smF (A3 * 2 + 1))).length = 32) := Lib.hid (by rw [List.length_set]; exact BL.out)
      clear hcl hfz HBv HKv
      refine (fun hHeld => hK _ _ hHeld ?_) (trivial)
      clear hK
      try simp only [Act.put, List.setIfInBounds_toArray, List.set_cons_zero, List.set_cons_succ]
      refine takeL (i := 13) (v := _) rfl (by kernel_rfl) (by kernel_rfl) (by kernel_rfl) (fun _ _ _ h => h) (Or.inl ⟨by rfl, by intro w hSw; (try dsimp only at hSw); go_simp; try with_reducible rfl⟩) (by assumption) ?_
      try simp only [Act.put, List.setIfInBounds_toArray, List.set_cons_zero, List.set_cons_succ]
      refine onlyL (i := 14) rfl (by kernel_rfl) (fun K hK => ?_)
      have hcl := HBw.out.cell K2 (byteV_get BLw.out hi2)
      have hfz := HBw.out.frozen K2
      refine step_storeI rfl 5 Tryd.size8 _ _ rfl g K2 rfl .u8 (smF (A3 * 2)) rfl hcl hfz ?_
      have hbx := byteV_set _ K2 _ ▸ HBw.out.set K2 (.int .u8 (smF (A3 * 2)))
      have hkx := HKw.out.setOne K2 (.int .u8 (smF (A3 * 2)))
      generalize v1.setCell ⟨g, K2, none⟩ (.int .u8 (smF (A3 * 2))) = y4 at *
      have BLx : Hid ((put2 (put2 (put2 (put2 B0 (D - 2) A0) (D - 4) A1) (D - 6) A2) (D - 8) A3).length = 32) := Lib.hid (by unfold put2; rw [List.length_set, List.length_set]; exact BL.out)
      have hpp : ((put2 (put2 (put2 B0 (D - 2) A0) (D - 4) A1) (D - 6) A2).set K1 (smF (A3 * 2 + 1))).set K2 (smF (A3 * 2)) = put2 (put2 (put2 (put2 B0 (D - 2) A0) (D - 4) A1) (D - 6) A2) (D - 8) A3 := by
        unfold put2
        rw [hcat1.out.1, hcat1.out.2, show D - 8 + 1 = D - 7 by omega]
      rw [hpp] at hbx
      clear hpp hcl hfz HBw HKw BLw BL
      refine (fun hHeld => hK _ _ hHeld ?_) (trivial)
      clear hK
      try simp only [Act.put, List.setIfInBounds_toArray, List.set_cons_zero, List.set_cons_succ]
      refine wpAnyH_done (by kernel_rfl) ?_ _
      clear hHeld hwk1 hwk2 hw1 hw2 hv1 hv2 hl1 hl2 hi1 hi2 hxw hxb hcat1
      have BL := BLx
      have HB := Lib.hid hbx
      have HK := Lib.hid hkx
      clear BLx hbx hkx
      rw [← HNX.out] at BL HB
      obtain ⟨E, hE⟩ : ∃ E, E = D - 8 := ⟨_, rfl⟩
      have hE1 : (D : Int) - 8 = (E : Int) := by omega
      have hE2 : IntKind.i64.wrap (E : Int) = (E : Int) := by rw [IntKind.wrap_i64]; omega
      have HE := Lib.hid (show E + 8 * (k + 1) = n by have := hD.out; omega)
      have HEm := Lib.hid hE
      clear hE HNX
      go_wp2_with fail
      go_roundw
      case rel => first | exact ⟨k + 1, E, V, by go_num, by go_num, HE, by have := HEm.out; omega, hVb, HVE, BL, HB, HK⟩ | ((repeat apply Exists.intro); exact ⟨⟨k + 1, E, V, by go_num, by go_num, HE, by have := HEm.out; omega, hVb, HVE, BL, HB, HK⟩, rfl⟩)
      case measure => have := HEm.out; first | (simp [intOf]; done) | (simp [intOf]; omega)
    · have h8i : ¬ (8 : Int) ≤ D := by omega
      have hkn : k = n / 8 := by have := hD.out; omega
      have hDn : D = n - 8 * (n / 8) := by have := hD.out; omega
      obtain ⟨X, hX⟩ : ∃ X, X = U % 4294967296 := ⟨_, rfl⟩
      have hXw : IntKind.u32.wrap (U : Int) = (X : Int) := by rw [IntKind.wrap_u32]; omega
      have hXb : X < 4294967296 := by omega
      obtain ⟨B0, hB0e⟩ : ∃ B0, B0 = fbN n B u k := ⟨_, rfl⟩
      have HFB : Hid (fb10 n B u = fbT B0 D X) := Lib.hid (by unfold fb10; rw [← hkn, show n - 8 * k = D by have := hD.out; omega, hB0e, hX, hUe.out])
      rw [← hB0e] at BL HB
      clear hX hB0e hUe HB0 hDn hkn
      have hDle : D ≤ n := by have := hD.out; omega
      go_upto_if 99 with fail
      generalize hzb : decide ((4 : Int) ≤ (D : Int)) = zb
      have HZB := Lib.hid hzb
      clear hzb
      go_cut [4, 12, 13, 14, 15] from 100 to 137 (fun v4 v12 _ _ _ wx => ∃ (D1 x1 : Nat) (B1 : List Int), v4 = .int .i64 D1 ∧ v12 = .int .u32 x1 ∧ D1 ≤ D ∧ x1 < 4294967296 ∧ Hid (fbT B0 D X = fbU B1 D1 x1) ∧ Hid (B1.length = 32) ∧ Hid (Blk wx g (byteV B1) T) ∧ Hid (Keeps (One g) w wx))
      case first =>
        cases zb with
        | true =>
          have h4 : 4 ≤ D := by have := of_decide_eq_true HZB.out; omega
          obtain ⟨XT, hXT⟩ : ∃ Y, Y = X % 10000 := ⟨_, rfl⟩
          have hXTi : (X : Int) % 10000 = (XT : Int) := by omega
          obtain ⟨XQ, hXQ⟩ : ∃ Y, Y = X / 10000 := ⟨_, rfl⟩
          have hXQi : (X : Int) / 10000 = (XQ : Int) := by omega
          obtain ⟨A1, hA1⟩ : ∃ Y, Y = XT / 100 := ⟨_, rfl⟩
          have hA1i : (XT : Int) / 100 = (A1 : Int) := by omega
          obtain ⟨A0, hA0⟩ : ∃ Y, Y = XT % 100 := ⟨_, rfl⟩
          have hA0i : (XT : Int) % 100 = (A0 : Int) := by omega
          have hXT4 : XT < 10000 := by omega
          have hA1b : A1 < 100 := by omega
          have hA0b : A0 < 100 := by omega
          have hXQb : XQ < 4294967296 := by omega
          have HRS : Hid (fbT B0 D X = fbU (put2 (put2 B0 (D - 2) A0) (D - 4) A1) (D - 4) XQ) := Lib.hid (by
            unfold fbT fb4
            rw [if_pos h4, hA0, hA1, hXT, hXQ])
          clear hXT hXQ hA1 hA0
          obtain ⟨K1, hK1⟩ : ∃ k, k = D - 1 := ⟨_, rfl⟩
          obtain ⟨K2, hK2⟩ : ∃ k, k = D - 2 := ⟨_, rfl⟩
          have hw1 : IntKind.i64.wrap ((D : Int) - 1) = (K1 : Int) := by rw [IntKind.wrap_i64]; omega
          have hw2 : IntKind.i64.wrap ((D : Int) - 2) = (K2 : Int) := by rw [IntKind.wrap_i64]; omega
          have hv1 : (D : Int) - 1 = (K1 : Int) := by omega
          have hv2 : (D : Int) - 2 = (K2 : Int) := by omega
          have hwk1 : IntKind.i64.wrap (K1 : Int) = (K1 : Int) := by rw [IntKind.wrap_i64]; omega
          have hwk2 : IntKind.i64.wrap (K2 : Int) = (K2 : Int) := by rw [IntKind.wrap_i64]; omega
          have hl1 : (K1 : Int) < n := by omega
          have hl2 : (K2 : Int) < n := by omega
          have hi1 : K1 < 32 := by omega
          have hi2 : K2 < 32 := by omega
          have hxw : IntKind.u32.wrap ((A0 : Int) * 2 + 1) = (A0 : Int) * 2 + 1 := by rw [IntKind.wrap_u32]; omega
          have hxb : (A0 : Int) * 2 + 1 < 200 := by omega
          have hcat1 := Lib.hid (show K1 = D - 1 ∧ K2 = D - 2 from ⟨hK1, hK2⟩)
          clear hK1 hK2
          go_upto_region 17 with fail
          refine wp_region_held_drew (S := fun _ => True) (by kernel_rfl) trivial (fun hHeld => ?_)
          have HBv := Lib.hid (HB.out.keep0 (Keeps.refl Nil wr).drew)
          have HKv := Lib.hid (HK.out.trans (Keeps.refl Nil wr).drew.nil)
          clear HB HK
          generalize wr.drew = v0 at *
          refine takeL (i := 0) (v := _) rfl (by kernel_rfl) (by kernel_rfl) (by kernel_rfl) (fun _ _ _ h => h) (Or.inl ⟨by rfl, by intro w hSw; (try dsimp only at hSw); go_simp; try with_reducible rfl⟩) (by assumption) ?_
          try simp only [Act.put, List.setIfInBounds_toArray, List.set_cons_zero, List.set_cons_succ]
          refine takeL (i := 1) (v := _) rfl (by kernel_rfl) (by kernel_rfl) (by kernel_rfl) (fun _ _ _ h => h) (Or.inl ⟨by rfl, by intro w hSw; (try dsimp only at hSw); go_simp; try with_reducible rfl⟩) (by assumption) ?_
          try simp only [Act.put, List.setIfInBounds_toArray, List.set_cons_zero, List.set_cons_succ]
          refine takeL (i := 2) (v := _) rfl (by kernel_rfl) (by kernel_rfl) (by kernel_rfl) (fun _ _ _ h => h) (Or.inl ⟨by rfl, by intro w hSw; (try dsimp only at hSw); go_simp; try with_reducible rfl⟩) (by assumption) ?_
          try simp only [Act.put, List.setIfInBounds_toArray, List.set_cons_zero, List.set_cons_succ]
          refine takeL (i := 3) (v := _) rfl (by kernel_rfl) (by kernel_rfl) (by kernel_rfl) (fun _ _ _ h => h) (Or.inl ⟨by rfl, by intro w hSw; (try dsimp only at hSw); go_simp; try with_reducible rfl⟩) (by assumption) ?_
          try simp only [Act.put, List.setIfInBounds_toArray, List.set_cons_zero, List.set_cons_succ]
          refine takeL (i := 4) (v := _) rfl (by kernel_rfl) (by kernel_rfl) (by kernel_rfl) (fun _ _ _ h => h) (Or.inl ⟨by rfl, by intro w hSw; (try dsimp only at hSw); go_simp; try with_reducible rfl⟩) (by assumption) ?_
          try simp only [Act.put, List.setIfInBounds_toArray, List.set_cons_zero, List.set_cons_succ]
          refine takeL (i := 5) (v := _) rfl (by kernel_rfl) (by kernel_rfl) (by kernel_rfl) (fun _ _ _ h => h) (Or.inl ⟨by rfl, by intro w hSw; (try dsimp only at hSw); go_simp; try with_reducible rfl⟩) (by assumption) ?_
          try simp only [Act.put, List.setIfInBounds_toArray, List.set_cons_zero, List.set_cons_succ]
          refine takeL (i := 6) (v := _) rfl (by kernel_rfl) (by kernel_rfl) (by kernel_rfl) (fun _ _ _ h => h) (Or.inl ⟨by rfl, by intro w hSw; (try dsimp only at hSw); go_simp; try with_reducible rfl⟩) (by assumption) ?_
          try simp only [Act.put, List.setIfInBounds_toArray, List.set_cons_zero, List.set_cons_succ]
          refine takeL (i := 7) (v := _) rfl (by kernel_rfl) (by kernel_rfl) (by kernel_rfl) (fun _ _ _ h => h) (Or.inl ⟨by rfl, by intro w hSw; (try dsimp only at hSw); go_simp; try with_reducible rfl⟩) (by assumption) ?_
          try simp only [Act.put, List.setIfInBounds_toArray, List.set_cons_zero, List.set_cons_succ]
          refine takeL (i := 9) (v := _) rfl (by kernel_rfl) (by kernel_rfl) (by kernel_rfl) (fun _ _ _ h => h) (Or.inl ⟨by rfl, by intro w hSw; (try dsimp only at hSw); go_simp; try with_reducible rfl⟩) (by assumption) ?_
          try simp only [Act.put, List.setIfInBounds_toArray, List.set_cons_zero, List.set_cons_succ]
          refine takeL (i := 8) (v := .int .u8 (smF (A0 * 2 + 1))) rfl (by kernel_rfl) (by kernel_rfl) (by kernel_rfl) (fun _ _ _ h => h) (yieldsIf_sm (by rfl) HP.out (by kernel_rfl) .u32 ((A0 : Int) * 2 + 1) rfl (A0 * 2 + 1) (by omega) (by omega)) (by assumption) ?_
          try simp only [Act.put, List.setIfInBounds_toArray, List.set_cons_zero, List.set_cons_succ]
          refine takeL (i := 10) (v := .int .u8 (smF (A0 * 2))) rfl (by kernel_rfl) (by kernel_rfl) (by kernel_rfl) (fun _ _ _ h => h) (yieldsIf_sm (by rfl) HP.out (by kernel_rfl) .u32 ((A0 : Int) * 2) rfl (A0 * 2) (by omega) (by omega)) (by assumption) ?_
          try simp only [Act.put, List.setIfInBounds_toArray, List.set_cons_zero, List.set_cons_succ]
          refine takeL (i := 11) (v := _) rfl (by kernel_rfl) (by kernel_rfl) (by kernel_rfl) (fun _ _ _ h => h) (Or.inl ⟨by rfl, by intro w hSw; (try dsimp only at hSw); go_simp; try with_reducible rfl⟩) (by assumption) ?_
          try simp only [Act.put, List.setIfInBounds_toArray, List.set_cons_zero, List.set_cons_succ]
          refine onlyL (i := 12) rfl (by kernel_rfl) (fun K hK => ?_)
          have hcl := HBv.out.cell K1 (byteV_get BL.out hi1)
          have hfz := HBv.out.frozen K1
          refine step_storeI rfl 5 Tryd.size8 _ _ rfl g K1 rfl .u8 (smF (A0 * 2 + 1)) rfl hcl hfz ?_
          have HBw := Lib.hid (byteV_set _ K1 _ ▸ HBv.out.set K1 (.int .u8 (smF (A0 * 2 + 1))))
          have HKw := Lib.hid (HKv.out.setOne K1 (.int .u8 (smF (A0 * 2 + 1))))
          generalize v0.setCell ⟨g, K1, none⟩ (.int .u8 (smF (A0 * 2 + 1))) = v1 at *
          have BLw : Hid ((B0.set K1 (smF (A0 * 2 + 1))).length = 32) := Lib.hid (by rw [List.length_set]; exact BL.out)
          clear hcl hfz HBv HKv
          refine (fun hHeld => hK _ _ hHeld ?_) (trivial)
          clear hK
          try simp only [Act.put, List.setIfInBounds_toArray, List.set_cons_zero, List.set_cons_succ]
          refine takeL (i := 13) (v := _) rfl (by kernel_rfl) (by kernel_rfl) (by kernel_rfl) (fun _ _ _ h => h) (Or.inl ⟨by rfl, by intro w hSw; (try dsimp only at hSw); go_simp; try with_reducible rfl⟩) (by assumption) ?_
          try simp only [Act.put, List.setIfInBounds_toArray, List.set_cons_zero, List.set_cons_succ]
          refine onlyL (i := 14) rfl (by kernel_rfl) (fun K hK => ?_)
          have hcl := HBw.out.cell K2 (byteV_get BLw.out hi2)
          have hfz := HBw.out.frozen K2
          refine step_storeI rfl 5 Tryd.size8 _ _ rfl g K2 rfl .u8 (smF (A0 * 2)) rfl hcl hfz ?_
          have hbx := byteV_set _ K2 _ ▸ HBw.out.set K2 (.int .u8 (smF (A0 * 2)))
          have hkx := HKw.out.setOne K2 (.int .u8 (smF (A0 * 2)))
          generalize v1.setCell ⟨g, K2, none⟩ (.int .u8 (smF (A0 * 2))) = y1 at *
          have BLx : Hid ((put2 B0 (D - 2) A0).length = 32) := Lib.hid (by unfold put2; rw [List.length_set, List.length_set]; exact BL.out)
          have hpp : (B0.set K1 (smF (A0 * 2 + 1))).set K2 (smF (A0 * 2)) = put2 B0 (D - 2) A0 := by
            unfold put2
            rw [hcat1.out.1, hcat1.out.2, show D - 2 + 1 = D - 1 by omega]
          rw [hpp] at hbx
          clear hpp hcl hfz HBw HKw BLw BL
          refine (fun hHeld => hK _ _ hHeld ?_) (trivial)
          clear hK
          try simp only [Act.put, List.setIfInBounds_toArray, List.set_cons_zero, List.set_cons_succ]
          refine wpAnyH_done (by kernel_rfl) ?_ _
          clear hHeld hwk1 hwk2 hw1 hw2 hv1 hv2 hl1 hl2 hi1 hi2 hxw hxb hcat1
          have BL := BLx
          have HB := Lib.hid hbx
          have HK := Lib.hid hkx
          clear BLx hbx hkx
          obtain ⟨K1, hK1⟩ : ∃ k, k = D - 3 := ⟨_, rfl⟩
          obtain ⟨K2, hK2⟩ : ∃ k, k = D - 4 := ⟨_, rfl⟩
          have hw1 : IntKind.i64.wrap ((D : Int) - 3) = (K1 : Int) := by rw [IntKind.wrap_i64]; omega
          have hw2 : IntKind.i64.wrap ((D : Int) - 4) = (K2 : Int) := by rw [IntKind.wrap_i64]; omega
          have hv1 : (D : Int) - 3 = (K1 : Int) := by omega
          have hv2 : (D : Int) - 4 = (K2 : Int) := by omega
          have hwk1 : IntKind.i64.wrap (K1 : Int) = (K1 : Int) := by rw [IntKind.wrap_i64]; omega
          have hwk2 : IntKind.i64.wrap (K2 : Int) = (K2 : Int) := by rw [IntKind.wrap_i64]; omega
          have hl1 : (K1 : Int) < n := by omega
          have hl2 : (K2 : Int) < n := by omega
          have hi1 : K1 < 32 := by omega
          have hi2 : K2 < 32 := by omega
          have hxw : IntKind.u32.wrap ((A1 : Int) * 2 + 1) = (A1 : Int) * 2 + 1 := by rw [IntKind.wrap_u32]; omega
          have hxb : (A1 : Int) * 2 + 1 < 200 := by omega
          have hcat1 := Lib.hid (show K1 = D - 3 ∧ K2 = D - 4 from ⟨hK1, hK2⟩)
          clear hK1 hK2
          go_upto_region 18 with fail
          refine wp_region_held_drew (S := fun _ => True) (by kernel_rfl) trivial (fun hHeld => ?_)
          have HBv := Lib.hid (HB.out.keep0 (Keeps.refl Nil y1).drew)
          have HKv := Lib.hid (HK.out.trans (Keeps.refl Nil y1).drew.nil)
          clear HB HK
          generalize y1.drew = v0 at *
          refine takeL (i := 0) (v := _) rfl (by kernel_rfl) (by kernel_rfl) (by kernel_rfl) (fun _ _ _ h => h) (Or.inl ⟨by rfl, by intro w hSw; (try dsimp only at hSw); go_simp; try with_reducible rfl⟩) (by assumption) ?_
          try simp only [Act.put, List.setIfInBounds_toArray, List.set_cons_zero, List.set_cons_succ]
          refine takeL (i := 1) (v := _) rfl (by kernel_rfl) (by kernel_rfl) (by kernel_rfl) (fun _ _ _ h => h) (Or.inl ⟨by rfl, by intro w hSw; (try dsimp only at hSw); go_simp; try with_reducible rfl⟩) (by assumption) ?_
          try simp only [Act.put, List.setIfInBounds_toArray, List.set_cons_zero, List.set_cons_succ]
          refine takeL (i := 2) (v := _) rfl (by kernel_rfl) (by kernel_rfl) (by kernel_rfl) (fun _ _ _ h => h) (Or.inl ⟨by rfl, by intro w hSw; (try dsimp only at hSw); go_simp; try with_reducible rfl⟩) (by assumption) ?_
          try simp only [Act.put, List.setIfInBounds_toArray, List.set_cons_zero, List.set_cons_succ]
          refine takeL (i := 3) (v := _) rfl (by kernel_rfl) (by kernel_rfl) (by kernel_rfl) (fun _ _ _ h => h) (Or.inl ⟨by rfl, by intro w hSw; (try dsimp only at hSw); go_simp; try with_reducible rfl⟩) (by assumption) ?_
          try simp only [Act.put, List.setIfInBounds_toArray, List.set_cons_zero, List.set_cons_succ]
          refine takeL (i := 4) (v := _) rfl (by kernel_rfl) (by kernel_rfl) (by kernel_rfl) (fun _ _ _ h => h) (Or.inl ⟨by rfl, by intro w hSw; (try dsimp only at hSw); go_simp; try with_reducible rfl⟩) (by assumption) ?_
          try simp only [Act.put, List.setIfInBounds_toArray, List.set_cons_zero, List.set_cons_succ]
          refine takeL (i := 5) (v := _) rfl (by kernel_rfl) (by kernel_rfl) (by kernel_rfl) (fun _ _ _ h => h) (Or.inl ⟨by rfl, by intro w hSw; (try dsimp only at hSw); go_simp; try with_reducible rfl⟩) (by assumption) ?_
          try simp only [Act.put, List.setIfInBounds_toArray, List.set_cons_zero, List.set_cons_succ]
          refine takeL (i := 6) (v := _) rfl (by kernel_rfl) (by kernel_rfl) (by kernel_rfl) (fun _ _ _ h => h) (Or.inl ⟨by rfl, by intro w hSw; (try dsimp only at hSw); go_simp; try with_reducible rfl⟩) (by assumption) ?_
          try simp only [Act.put, List.setIfInBounds_toArray, List.set_cons_zero, List.set_cons_succ]
          refine takeL (i := 7) (v := _) rfl (by kernel_rfl) (by kernel_rfl) (by kernel_rfl) (fun _ _ _ h => h) (Or.inl ⟨by rfl, by intro w hSw; (try dsimp only at hSw); go_simp; try with_reducible rfl⟩) (by assumption) ?_
          try simp only [Act.put, List.setIfInBounds_toArray, List.set_cons_zero, List.set_cons_succ]
          refine takeL (i := 9) (v := _) rfl (by kernel_rfl) (by kernel_rfl) (by kernel_rfl) (fun _ _ _ h => h) (Or.inl ⟨by rfl, by intro w hSw; (try dsimp only at hSw); go_simp; try with_reducible rfl⟩) (by assumption) ?_
          try simp only [Act.put, List.setIfInBounds_toArray, List.set_cons_zero, List.set_cons_succ]
          refine takeL (i := 8) (v := .int .u8 (smF (A1 * 2 + 1))) rfl (by kernel_rfl) (by kernel_rfl) (by kernel_rfl) (fun _ _ _ h => h) (yieldsIf_sm (by rfl) HP.out (by kernel_rfl) .u32 ((A1 : Int) * 2 + 1) rfl (A1 * 2 + 1) (by omega) (by omega)) (by assumption) ?_
          try simp only [Act.put, List.setIfInBounds_toArray, List.set_cons_zero, List.set_cons_succ]
          refine takeL (i := 10) (v := .int .u8 (smF (A1 * 2))) rfl (by kernel_rfl) (by kernel_rfl) (by kernel_rfl) (fun _ _ _ h => h) (yieldsIf_sm (by rfl) HP.out (by kernel_rfl) .u32 ((A1 : Int) * 2) rfl (A1 * 2) (by omega) (by omega)) (by assumption) ?_
          try simp only [Act.put, List.setIfInBounds_toArray, List.set_cons_zero, List.set_cons_succ]
          refine takeL (i := 11) (v := _) rfl (by kernel_rfl) (by kernel_rfl) (by kernel_rfl) (fun _ _ _ h => h) (Or.inl ⟨by rfl, by intro w hSw; (try dsimp only at hSw); go_simp; try with_reducible rfl⟩) (by assumption) ?_
          try simp only [Act.put, List.setIfInBounds_toArray, List.set_cons_zero, List.set_cons_succ]
          refine onlyL (i := 12) rfl (by kernel_rfl) (fun K hK => ?_)
          have hcl := HBv.out.cell K1 (byteV_get BL.out hi1)
          have hfz := HBv.out.frozen K1
          refine step_storeI rfl 5 Tryd.size8 _ _ rfl g K1 rfl .u8 (smF (A1 * 2 + 1)) rfl hcl hfz ?_
          have HBw := Lib.hid (byteV_set _ K1 _ ▸ HBv.out.set K1 (.int .u8 (smF (A1 * 2 + 1))))
          have HKw := Lib.hid (HKv.out.setOne K1 (.int .u8 (smF (A1 * 2 + 1))))
          generalize v0.setCell ⟨g, K1, none⟩ (.int .u8 (smF (A1 * 2 + 1))) = v1 at *
          have BLw : Hid (((put2 B0 (D - 2) A0).set K1 (smF (A1 * 2 + 1))).length = 32) := Lib.hid (by rw [List.length_set]; exact BL.out)
          clear hcl hfz HBv HKv
          refine (fun hHeld => hK _ _ hHeld ?_) (trivial)
          clear hK
          try simp only [Act.put, List.setIfInBounds_toArray, List.set_cons_zero, List.set_cons_succ]
          refine takeL (i := 13) (v := _) rfl (by kernel_rfl) (by kernel_rfl) (by kernel_rfl) (fun _ _ _ h => h) (Or.inl ⟨by rfl, by intro w hSw; (try dsimp only at hSw); go_simp; try with_reducible rfl⟩) (by assumption) ?_
          try simp only [Act.put, List.setIfInBounds_toArray, List.set_cons_zero, List.set_cons_succ]
          refine onlyL (i := 14) rfl (by kernel_rfl) (fun K hK => ?_)
          have hcl := HBw.out.cell K2 (byteV_get BLw.out hi2)
          have hfz := HBw.out.frozen K2
          refine step_storeI rfl 5 Tryd.size8 _ _ rfl g K2 rfl .u8 (smF (A1 * 2)) rfl hcl hfz ?_
          have hbx := byteV_set _ K2 _ ▸ HBw.out.set K2 (.int .u8 (smF (A1 * 2)))
          have hkx := HKw.out.setOne K2 (.int .u8 (smF (A1 * 2)))
          generalize v1.setCell ⟨g, K2, none⟩ (.int .u8 (smF (A1 * 2))) = y2 at *
          have BLx : Hid ((put2 (put2 B0 (D - 2) A0) (D - 4) A1).length = 32) := Lib.hid (by unfold put2; rw [List.length_set, List.length_set]; exact BL.out)
          have hpp : ((put2 B0 (D - 2) A0).set K1 (smF (A1 * 2 + 1))).set K2 (smF (A1 * 2)) = put2 (put2 B0 (D - 2) A0) (D - 4) A1 := by
            unfold put2
            rw [hcat1.out.1, hcat1.out.2, show D - 4 + 1 = D - 3 by omega]
          rw [hpp] at hbx
          clear hpp hcl hfz HBw HKw BLw BL
          refine (fun hHeld => hK _ _ hHeld ?_) (trivial)
          clear hK
          try simp only [Act.put, List.setIfInBounds_toArray, List.set_cons_zero, List.set_cons_succ]
          refine wpAnyH_done (by kernel_rfl) ?_ _
          clear hHeld hwk1 hwk2 hw1 hw2 hv1 hv2 hl1 hl2 hi1 hi2 hxw hxb hcat1
          have BL := BLx
          have HB := Lib.hid hbx
          have HK := Lib.hid hkx
          clear BLx hbx hkx
          obtain ⟨E, hE⟩ : ∃ E, E = D - 4 := ⟨_, rfl⟩
          have hE1 : (D : Int) - 4 = (E : Int) := by omega
          have hE2 : IntKind.i64.wrap (E : Int) = (E : Int) := by rw [IntKind.wrap_i64]; omega
          have HEm := Lib.hid hE
          rw [← hE] at HRS BL HB
          clear hE
          go_wp2_with fail
          go_meet
          exact ⟨E, XQ, _, rfl, rfl, by have := HEm.out; omega, hXQb, HRS, BL, HB, HK⟩
        | false =>
          have h4 : ¬ 4 ≤ D := by have := of_decide_eq_false HZB.out; omega
          have HRS : Hid (fbT B0 D X = fbU B0 D X) := Lib.hid (by unfold fbT; rw [if_neg h4])
          go_wp2_with fail
          go_meet
          exact ⟨D, X, B0, rfl, rfl, Nat.le_refl _, hXb, HRS, BL, HB, HK⟩
      case rest =>
      obtain ⟨D1, x1, B1, rfl, rfl, hD1, hx1, HR1, BL1, HB1, HK1⟩ := hcut
      clear HZB BL HB HK
      have HFB1 := Lib.hid (HFB.out.trans HR1.out)
      clear HFB HR1
      go_upto_if 139 with fail
      generalize hzc : decide ((2 : Int) ≤ (D1 : Int)) = zc
      have HZC := Lib.hid hzc
      clear hzc
      obtain ⟨wo, hwo⟩ : ∃ x, x = wc := ⟨_, rfl⟩
      subst hwo
      go_cut [4, 12, 16] from 140 to 159 (fun v4 v12 _ wx => ∃ (D2 x2 : Nat) (B2 : List Int), v4 = .int .i64 D2 ∧ v12 = .int .u32 x2 ∧ D2 ≤ D ∧ x2 < 4294967296 ∧ Hid (fbU B1 D1 x1 = fbV B2 D2 x2) ∧ Hid (B2.length = 32) ∧ Hid (Blk wx g (byteV B2) T) ∧ Hid (Keeps (One g) w wx))
      case first =>
        cases zc with
        | true =>
          have h2 : 2 ≤ D1 := by have := of_decide_eq_true HZC.out; omega
          obtain ⟨XQ, hXQ⟩ : ∃ Y, Y = x1 / 100 := ⟨_, rfl⟩
          have hXQi : (x1 : Int) / 100 = (XQ : Int) := by omega
          obtain ⟨A0, hA0⟩ : ∃ Y, Y = x1 % 100 := ⟨_, rfl⟩
          have hA0i : (x1 : Int) % 100 = (A0 : Int) := by omega
          have hA0b : A0 < 100 := by omega
          have hXQb : XQ < 4294967296 := by omega
          have HRS : Hid (fbU B1 D1 x1 = fbV (put2 B1 (D1 - 2) A0) (D1 - 2) XQ) := Lib.hid (by
            unfold fbU
            rw [if_pos h2, hA0, hXQ])
          clear hXQ hA0
          have D0 := D
          obtain ⟨D, hDD⟩ : ∃ D, D = D1 := ⟨_, rfl⟩
          subst hDD
          have BL := BL1
          have HB := HB1
          have HK := HK1
          clear BL1 HB1 HK1
          obtain ⟨K1, hK1⟩ : ∃ k, k = D - 1 := ⟨_, rfl⟩
          obtain ⟨K2, hK2⟩ : ∃ k, k = D - 2 := ⟨_, rfl⟩
          have hw1 : IntKind.i64.wrap ((D : Int) - 1) = (K1 : Int) := by rw [IntKind.wrap_i64]; omega
          have hw2 : IntKind.i64.wrap ((D : Int) - 2) = (K2 : Int) := by rw [IntKind.wrap_i64]; omega
          have hv1 : (D : Int) - 1 = (K1 : Int) := by omega
          have hv2 : (D : Int) - 2 = (K2 : Int) := by omega
          have hwk1 : IntKind.i64.wrap (K1 : Int) = (K1 : Int) := by rw [IntKind.wrap_i64]; omega
          have hwk2 : IntKind.i64.wrap (K2 : Int) = (K2 : Int) := by rw [IntKind.wrap_i64]; omega
          have hl1 : (K1 : Int) < n := by omega
          have hl2 : (K2 : Int) < n := by omega
          have hi1 : K1 < 32 := by omega
          have hi2 : K2 < 32 := by omega
          have hxw : IntKind.u32.wrap ((A0 : Int) * 2 + 1) = (A0 : Int) * 2 + 1 := by rw [IntKind.wrap_u32]; omega
          have hxb : (A0 : Int) * 2 + 1 < 200 := by omega
          have hcat1 := Lib.hid (show K1 = D - 1 ∧ K2 = D - 2 from ⟨hK1, hK2⟩)
          clear hK1 hK2
          go_upto_region 23 with fail
          refine wp_region_held_drew (S := fun _ => True) (by kernel_rfl) trivial (fun hHeld => ?_)
          have HBv := Lib.hid (HB.out.keep0 (Keeps.refl Nil wo).drew)
          have HKv := Lib.hid (HK.out.trans (Keeps.refl Nil wo).drew.nil)
          clear HB HK
          generalize wo.drew = v0 at *
          refine takeL (i := 0) (v := _) rfl (by kernel_rfl) (by kernel_rfl) (by kernel_rfl) (fun _ _ _ h => h) (Or.inl ⟨by rfl, by intro w hSw; (try dsimp only at hSw); go_simp; try with_reducible rfl⟩) (by assumption) ?_
          try simp only [Act.put, List.setIfInBounds_toArray, List.set_cons_zero, List.set_cons_succ]
          refine takeL (i := 1) (v := _) rfl (by kernel_rfl) (by kernel_rfl) (by kernel_rfl) (fun _ _ _ h => h) (Or.inl ⟨by rfl, by intro w hSw; (try dsimp only at hSw); go_simp; try with_reducible rfl⟩) (by assumption) ?_
          try simp only [Act.put, List.setIfInBounds_toArray, List.set_cons_zero, List.set_cons_succ]
          refine takeL (i := 2) (v := _) rfl (by kernel_rfl) (by kernel_rfl) (by kernel_rfl) (fun _ _ _ h => h) (Or.inl ⟨by rfl, by intro w hSw; (try dsimp only at hSw); go_simp; try with_reducible rfl⟩) (by assumption) ?_
          try simp only [Act.put, List.setIfInBounds_toArray, List.set_cons_zero, List.set_cons_succ]
          refine takeL (i := 3) (v := _) rfl (by kernel_rfl) (by kernel_rfl) (by kernel_rfl) (fun _ _ _ h => h) (Or.inl ⟨by rfl, by intro w hSw; (try dsimp only at hSw); go_simp; try with_reducible rfl⟩) (by assumption) ?_
          try simp only [Act.put, List.setIfInBounds_toArray, List.set_cons_zero, List.set_cons_succ]
          refine takeL (i := 4) (v := _) rfl (by kernel_rfl) (by kernel_rfl) (by kernel_rfl) (fun _ _ _ h => h) (Or.inl ⟨by rfl, by intro w hSw; (try dsimp only at hSw); go_simp; try with_reducible rfl⟩) (by assumption) ?_
          try simp only [Act.put, List.setIfInBounds_toArray, List.set_cons_zero, List.set_cons_succ]
          refine takeL (i := 5) (v := _) rfl (by kernel_rfl) (by kernel_rfl) (by kernel_rfl) (fun _ _ _ h => h) (Or.inl ⟨by rfl, by intro w hSw; (try dsimp only at hSw); go_simp; try with_reducible rfl⟩) (by assumption) ?_
          try simp only [Act.put, List.setIfInBounds_toArray, List.set_cons_zero, List.set_cons_succ]
          refine takeL (i := 6) (v := _) rfl (by kernel_rfl) (by kernel_rfl) (by kernel_rfl) (fun _ _ _ h => h) (Or.inl ⟨by rfl, by intro w hSw; (try dsimp only at hSw); go_simp; try with_reducible rfl⟩) (by assumption) ?_
          try simp only [Act.put, List.setIfInBounds_toArray, List.set_cons_zero, List.set_cons_succ]
          refine takeL (i := 7) (v := _) rfl (by kernel_rfl) (by kernel_rfl) (by kernel_rfl) (fun _ _ _ h => h) (Or.inl ⟨by rfl, by intro w hSw; (try dsimp only at hSw); go_simp; try with_reducible rfl⟩) (by assumption) ?_
          try simp only [Act.put, List.setIfInBounds_toArray, List.set_cons_zero, List.set_cons_succ]
          refine takeL (i := 9) (v := _) rfl (by kernel_rfl) (by kernel_rfl) (by kernel_rfl) (fun _ _ _ h => h) (Or.inl ⟨by rfl, by intro w hSw; (try dsimp only at hSw); go_simp; try with_reducible rfl⟩) (by assumption) ?_
          try simp only [Act.put, List.setIfInBounds_toArray, List.set_cons_zero, List.set_cons_succ]
          refine takeL (i := 8) (v := .int .u8 (smF (A0 * 2 + 1))) rfl (by kernel_rfl) (by kernel_rfl) (by kernel_rfl) (fun _ _ _ h => h) (yieldsIf_sm (by rfl) HP.out (by kernel_rfl) .u32 ((A0 : Int) * 2 + 1) rfl (A0 * 2 + 1) (by omega) (by omega)) (by assumption) ?_
          try simp only [Act.put, List.setIfInBounds_toArray, List.set_cons_zero, List.set_cons_succ]
          refine takeL (i := 10) (v := .int .u8 (smF (A0 * 2))) rfl (by kernel_rfl) (by kernel_rfl) (by kernel_rfl) (fun _ _ _ h => h) (yieldsIf_sm (by rfl) HP.out (by kernel_rfl) .u32 ((A0 : Int) * 2) rfl (A0 * 2) (by omega) (by omega)) (by assumption) ?_
          try simp only [Act.put, List.setIfInBounds_toArray, List.set_cons_zero, List.set_cons_succ]
          refine takeL (i := 11) (v := _) rfl (by kernel_rfl) (by kernel_rfl) (by kernel_rfl) (fun _ _ _ h => h) (Or.inl ⟨by rfl, by intro w hSw; (try dsimp only at hSw); go_simp; try with_reducible rfl⟩) (by assumption) ?_
          try simp only [Act.put, List.setIfInBounds_toArray, List.set_cons_zero, List.set_cons_succ]
          refine onlyL (i := 12) rfl (by kernel_rfl) (fun K hK => ?_)
          have hcl := HBv.out.cell K1 (byteV_get BL.out hi1)
          have hfz := HBv.out.frozen K1
          refine step_storeI rfl 5 Tryd.size8 _ _ rfl g K1 rfl .u8 (smF (A0 * 2 + 1)) rfl hcl hfz ?_
          have HBw := Lib.hid (byteV_set _ K1 _ ▸ HBv.out.set K1 (.int .u8 (smF (A0 * 2 + 1))))
          have HKw := Lib.hid (HKv.out.setOne K1 (.int .u8 (smF (A0 * 2 + 1))))
          generalize v0.setCell ⟨g, K1, none⟩ (.int .u8 (smF (A0 * 2 + 1))) = v1 at *
          have BLw : Hid ((B1.set K1 (smF (A0 * 2 + 1))).length = 32) := Lib.hid (by rw [List.length_set]; exact BL.out)
          clear hcl hfz HBv HKv
          refine (fun hHeld => hK _ _ hHeld ?_) (trivial)
          clear hK
          try simp only [Act.put, List.setIfInBounds_toArray, List.set_cons_zero, List.set_cons_succ]
          refine takeL (i := 13) (v := _) rfl (by kernel_rfl) (by kernel_rfl) (by kernel_rfl) (fun _ _ _ h => h) (Or.inl ⟨by rfl, by intro w hSw; (try dsimp only at hSw); go_simp; try with_reducible rfl⟩) (by assumption) ?_
          try simp only [Act.put, List.setIfInBounds_toArray, List.set_cons_zero, List.set_cons_succ]
          refine onlyL (i := 14) rfl (by kernel_rfl) (fun K hK => ?_)
          have hcl := HBw.out.cell K2 (byteV_get BLw.out hi2)
          have hfz := HBw.out.frozen K2
          refine step_storeI rfl 5 Tryd.size8 _ _ rfl g K2 rfl .u8 (smF (A0 * 2)) rfl hcl hfz ?_
          have hbx := byteV_set _ K2 _ ▸ HBw.out.set K2 (.int .u8 (smF (A0 * 2)))
          have hkx := HKw.out.setOne K2 (.int .u8 (smF (A0 * 2)))
          generalize v1.setCell ⟨g, K2, none⟩ (.int .u8 (smF (A0 * 2))) = y1 at *
          have BLx : Hid ((put2 B1 (D - 2) A0).length = 32) := Lib.hid (by unfold put2; rw [List.length_set, List.length_set]; exact BL.out)
          have hpp : (B1.set K1 (smF (A0 * 2 + 1))).set K2 (smF (A0 * 2)) = put2 B1 (D - 2) A0 := by
            unfold put2
            rw [hcat1.out.1, hcat1.out.2, show D - 2 + 1 = D - 1 by omega]
          rw [hpp] at hbx
          clear hpp hcl hfz HBw HKw BLw BL
          refine (fun hHeld => hK _ _ hHeld ?_) (trivial)
          clear hK
          try simp only [Act.put, List.setIfInBounds_toArray, List.set_cons_zero, List.set_cons_succ]
          refine wpAnyH_done (by kernel_rfl) ?_ _
          clear hHeld hwk1 hwk2 hw1 hw2 hv1 hv2 hl1 hl2 hi1 hi2 hxw hxb hcat1
          have BL := BLx
          have HB := Lib.hid hbx
          have HK := Lib.hid hkx
          clear BLx hbx hkx
          obtain ⟨E, hE⟩ : ∃ E, E = D - 2 := ⟨_, rfl⟩
          have hE1 : (D : Int) - 2 = (E : Int) := by omega
          have hE2 : IntKind.i64.wrap (E : Int) = (E : Int) := by rw [IntKind.wrap_i64]; omega
          have HEm := Lib.hid hE
          rw [← hE] at HRS BL HB
          clear hE
          go_wp2_with fail
          go_meet
          exact ⟨E, XQ, _, rfl, rfl, by have := HEm.out; omega, hXQb, HRS, BL, HB, HK⟩
        | false =>
          have h2 : ¬ 2 ≤ D1 := by have := of_decide_eq_false HZC.out; omega
          have HRS : Hid (fbU B1 D1 x1 = fbV B1 D1 x1) := Lib.hid (by unfold fbU; rw [if_neg h2])
          go_wp2_with fail
          go_meet
          exact ⟨D1, x1, B1, rfl, rfl, hD1, hx1, HRS, BL1, HB1, HK1⟩
      case rest =>
      obtain ⟨D2, x2, B2, rfl, rfl, hD2, hx2, HR2, BL2, HB2, HK2⟩ := hcut
      have HFB2 := Lib.hid (HFB1.out.trans HR2.out)
      clear HZC BL1 HB1 HK1 HFB1 HR2
      by_cases h0 : 0 < D2
      · have h0i : (0 : Int) < D2 := by omega
        have h0n : (0 : Int) < n := by omega
        have hcl := HB2.out.cell 0 (byteV_get BL2.out (by omega))
        have hfz := HB2.out.frozen 0
        have HF := Lib.hid (show Blk (wc.setCell ⟨g, 0, none⟩ (.int .u8 ((48 + (x2 : Int)) % 256))) g (byteV (fb10 n B u)) T ∧ Keeps (One g) w (wc.setCell ⟨g, 0, none⟩ (.int .u8 ((48 + (x2 : Int)) % 256))) from by
          refine ⟨?_, HK2.out.setOne 0 _⟩
          rw [HFB2.out]
          unfold fbV
          rw [if_pos h0, ← byteV_set]
          exact HB2.out.set 0 _)
        go_wp2_with fail
        go_end0
        exact ⟨rfl, HF.out⟩
      · have h0i : ¬ (0 : Int) < D2 := by omega
        have HF := Lib.hid (show Blk wc g (byteV (fb10 n B u)) T from by
          rw [HFB2.out]
          unfold fbV
          rw [if_neg h0]
          exact HB2.out)
        go_wp2_with fail
        go_end0
        exact ⟨rfl, HF.out, HK2.out⟩
end Go.Proofs.YtmlfekcnpmlfkaaDoor
