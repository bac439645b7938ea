/-
  The law ShaOwn.
-/
import Derived.Test.YtnkahfpinkgimaaShaFirst
import Derived.Test.YtnkahfpinkgimaaNumber
namespace Go.Proofs.Ytnkahfpinkgimaa
open Go.RowKit

theorem Try.bsSl2 : (Try.prog.info? 22).map (fun i => (i.size, i.zero.isSome)) = some (1, true) := by kernel_rfl
theorem noMid (k : Nat) : ¬ midOf none 0 k := fun h => by have := h.1; omega
theorem IsHash.other {w w' : World} {g g2 cap : Nat} {a : Option Addr} {l : List Int} (h : IsHash w g2 a cap l) (hk : Keeps (hashOf g none 0) w w') (hn : ∀ k, hashOf g2 a cap k → k ≠ g) : IsHash w' g2 a cap l :=
  HashAt.keep h hk (fun k hk' hs => by
    rcases hs with hs | hs
    · exact hn k hk' hs
    · exact noMid k hs)

set_option maxRecDepth 20000 in
set_option maxHeartbeats 8000000 in
theorem shaOwn_walk (a : Option Addr) (len cap : Nat) (Z : List Int) (n : Int) (w : World) (hrow : Row .u8 w a len Z) (w1 : (Lit.int .i64 n).wf = true) :
    Calls Try.prog 5 #[.slice a len cap, .int .i64 n] w (TrueS w) := by
  have hn := i64_wf w1
  clear w1
  have hZl := hrow.llen
  by_cases h0 : len = 0
  · subst h0
    clear hZl
    go_enter Try.func5, Try.ntmps5
    go_wp2_with fail
    refine (shafirst_walk w).mono ?_
    rintro e w1 ⟨rfl, hk1⟩
    go_wp2_with fail
    go_ret
    exact ⟨by first | rfl | simp, hk1⟩
  have e0 : (((len : Nat) : Int) == 0) = false := by simpa using h0
  by_cases h2 : 200 < len
  · have e2 : decide ((200 : Int) < len) = true := by simp; omega
    clear hZl
    go_enter Try.func5, Try.ntmps5
    go_wp2_with fail
    refine (shafirst_walk w).mono ?_
    rintro e w1 ⟨rfl, hk1⟩
    go_wp2_with fail
    go_ret
    exact ⟨by first | rfl | simp, hk1⟩
  have e2 : decide ((200 : Int) < len) = false := by simp; omega
  obtain ⟨bb, off, ha, hbb, hcb⟩ := hrow.cell (by omega)
  have hab : ∀ k, blkOf a k → k < w.heap.size := fun k hk => by rw [ha] at hk; rw [(blkOf_some _ _ _ _).1 hk]; exact hbb
  have hnil : a = none → cap = 0 ∧ len = 0 := fun h => by rw [h] at ha; cases ha
  have HROW := Lib.hid (And.intro hrow (And.intro hab hnil))
  have HZL := Lib.hid hZl
  have hq := Try.eqlDigSame Z
  have hq1 := Try.eqlDigSame [1]
  have hSum : ∀ w' g' a' cap' L, IsHash w' g' a' cap' L → L.length ≤ 900000 → Calls Try.prog 12 #[.pointer (some ⟨g', 0, none⟩)] w' fun e w'' => e = .returned (.agg (byteV (digest L)).toArray) ∧ Keeps Nil w' w'' := fun w' g' a' cap' L h hl => sum_walk h hl
  have hAll : ∀ w' a' n' cap' M L, ManyB w' a' n' M → M.flatten = L → L.length ≤ 900000 → Calls Try.prog 13 #[.slice a' n' cap'] w' fun e w'' => e = .returned (.agg (byteV (digest L)).toArray) ∧ Keeps Nil w' w'' := fun w' a' n' cap' M L h hf hl => by
    have := shaSum_walk (cap := cap') h (by rw [hf]; exact hl)
    rwa [hf] at this
  have hSum1 := fun w' g' a' cap' h => hSum w' g' a' cap' Z h (by omega)
  have hSum2 := fun w' g' a' cap' h => hSum w' g' a' cap' [1] h (by decide)
  have hAll1 := fun w' a' n' cap' M h hf => hAll w' a' n' cap' M Z h hf (by omega)
  have hAll2 := fun w' a' n' cap' M h hf => hAll w' a' n' cap' M [1] h hf (by decide)
  have hDl : (byteV (digest Z)).length = 32 := by rw [byteV_len, digest_len]
  have hD1 : ∀ v ∈ byteV (digest Z), v.oneCell' = true := byteV_one _
  have hzz : (byteV z32).length = 32 := by rw [byteV_len, z32_len]
  have hzv := Try.zeroH32
  have HS := Lib.hid (And.intro hSum1 (And.intro hSum2 (And.intro hAll1 (And.intro hAll2 (And.intro hDl (And.intro hD1 hzz))))))
  clear hSum hAll hSum1 hSum2 hAll1 hAll2 hDl hD1 hzz hrow hab hnil hcb ha hZl hbb
  generalize byteV (digest Z) = D at *
  generalize byteV (digest [1]) = E at *
  generalize byteV z32 = ZZ at *
  go_enter Try.func5, Try.ntmps5
  go_wp2_with fail
  refine (shafirst_walk w).mono ?_
  rintro e w1 ⟨rfl, hK1⟩
  go_wp2_with fail
  refine (refBytes_walk (HROW.out.1.keep hK1) (by omega)).mono ?_
  rintro e w2 ⟨a6, c6, rfl, ho6, hk2, hf6⟩
  rw [HZL.out] at ho6 ⊢
  have hK2 := hK1.trans hk2
  have hl6 := ho6.lt
  clear hK1 hk2 hf6
  go_wp2_with fail
  refine (new_walk w2).mono ?_
  rintro e w3 ⟨gx, rfl, hx3, hk3, hgx⟩
  have hK3 := hK2.trans hk3
  have ho6 := ho6.keep0 hk3
  clear hk3
  go_wp2_with fail
  refine (new_walk w3).mono ?_
  rintro e w4 ⟨gy, rfl, hy4, hk4, hgy⟩
  have hK4 := hK3.trans hk4
  have ho6 := ho6.keep0 hk4
  have hx4 : IsHash w4 gx none 0 [] := HashAt.keep0 hx3 hk4
  have hxl := hx3.obj.lt
  have hs2 := hK2.size
  clear hk4 hx3
  have hwx := write_walk hx4 (HROW.out.1.keep hK4) (capb := cap) HROW.out.2.2 (fun k hk _ e => by have := HROW.out.2.1 k hk; omega) (by simp; omega)
  rw [List.nil_append] at hwx
  have HWX := Lib.hid hwx
  clear hwx hx4
  go_wp2_with fail
  refine HWX.out.mono ?_
  rintro e w5 ⟨rfl, ax, cx, hx5, hk5, hfx⟩
  have hK5 : Keeps Nil w w5 := hK4.step hk5 (fun k hk => by
    rcases hk with rfl | hk
    · exact .inr (by omega)
    · exact (noMid k hk).elim)
  have hy5 := hy4.other hk5 (fun k hk => by
    rcases hk with rfl | hk
    · omega
    · exact (noMid k hk).elim)
  have ho6 := ho6.keep hk5 (fun k hk hs => by
    rcases hs with rfl | hs
    · have := hl6 _ hk; omega
    · exact noMid k hs)
  clear HWX hk5 hy4 hfx
  go_wp2_with fail
  refine (HS.out.1 w5 gx ax cx hx5).mono ?_
  rintro e w6 ⟨rfl, hk6⟩
  have hK6 := hK5.trans hk6
  have ho6 := ho6.keep0 hk6
  have hy6 : IsHash w6 gy none 0 [] := HashAt.keep0 hy5 hk6
  have hb6 := Blk.new w6 ZZ 26
  have hka := (Keeps.refl Nil w6).alloc (.cells ZZ.toArray 26)
  have hyl := hy6.obj.lt
  have hl6' := ho6.lt
  clear hk6 hx5 hy5
  go_wp2_with (refine wpl_store rfl 26 _ _ rfl w6.heap.size rfl D rfl hb6 (by rw [HS.out.2.2.2.2.1, HS.out.2.2.2.2.2.2]) (by rw [HS.out.2.2.2.2.1]; exact Try.infoH) HS.out.2.2.2.2.2.1 ?_)
  intro w7 hb7 hk7 hs7
  have hk67 : Keeps (One w6.heap.size) w6 w7 := (hka.nil (S := One w6.heap.size)).step hk7 (fun i hi => .inl hi)
  have hK7 : Keeps Nil w w7 := hK6.step hk67 (fun i hi => .inr (by rw [show i = w6.heap.size from hi]; exact hK6.size))
  have ho6 := ho6.keep hk67 (fun k hk e => by have h1 := hl6' k hk; have h2 : k = w6.heap.size := e; omega)
  have hy7 : IsHash w7 gy none 0 [] := HashAt.keep hy6 hk67 (fun k hk e => by
    rcases hk with rfl | hk
    · have h2 : k = w6.heap.size := e; omega
    · exact noMid k hk)
  clear hb6 hka hk7 hs7 hk67 hy6
  generalize hg9 : w6.heap.size = g9 at *
  have hl9 := hb7.lt
  go_wp2_with (refine wpList_bs rfl 22 5 1 _ rfl [.int .u8 1] Try.underlying22 Try.bs8 rfl (by decide) (by decide) (by first | rfl | simp [Act.eval]) (by simp [Value.cells]) ?_)
  have hkb := (Keeps.refl Nil w7).alloc (.cells [Value.int .u8 1].toArray 5)
  have hrow1 : Row .u8 (w7.alloc (.cells [Value.int .u8 1].toArray 5)) (some ⟨w7.heap.size, 0, none⟩) 1 [1] := ⟨rfl, by omega, fun _ => ⟨w7.heap.size, 0, rfl, (Blk.new w7 [Value.int .u8 1] 5).lt, fun i hi => by
    obtain rfl : i = 0 := by omega
    exact (Blk.new w7 [Value.int .u8 1] 5).cell 0 rfl⟩, fun x hx => by rw [List.mem_singleton.1 hx]; rfl⟩
  have hwy := write_walk (show IsHash (w7.alloc (.cells [Value.int .u8 1].toArray 5)) gy none 0 [] from HashAt.keep0 hy7 hkb) hrow1 (capb := 1) (fun h => by cases h) (fun k hk _ e => by rw [(blkOf_some _ _ _ _).1 hk] at e; omega) (by simp)
  rw [List.nil_append] at hwy
  have HWY := Lib.hid hwy
  have hb8 := hb7.keep0 hkb
  have ho6 := ho6.keep0 hkb
  have hK8 := hK7.trans hkb
  have hl8 := ho6.lt
  have hl98 := hb8.lt
  clear hwy hrow1 hkb hb7 hy7 hK7
  go_wp2_with fail
  refine HWY.out.mono ?_
  rintro e w9 ⟨rfl, ay, cy, hy9, hk9, hfy⟩
  have hK9 : Keeps Nil w w9 := hK8.step hk9 (fun k hk => by
    rcases hk with rfl | hk
    · exact .inr (by omega)
    · exact (noMid k hk).elim)
  have ho6 := ho6.keep hk9 (fun k hk hs => by
    rcases hs with rfl | hs
    · have := hl6 _ hk; omega
    · exact noMid k hs)
  have hb9 := hb8.keep hk9 (fun hs => by
    rcases hs with hs | hs
    · omega
    · exact noMid _ hs)
  clear HWY hk9 hb8 hK8 hfy
  go_wp2_with fail
  refine (sameBytes_walk (HROW.out.1.keep hK9) (ho6.row HROW.out.1.wf)).mono ?_
  rintro e w10 ⟨rfl, hd10⟩
  have hsl : sameL Z Z = true := by simp [sameL]
  rw [hsl]
  have hk10 := hd10.keeps Nil
  have hK10 := hK9.trans hk10
  have ho6 := ho6.keep0 hk10
  have hl10 := ho6.lt
  have hb10 := hb9.keep0 hk10
  have hy10 : IsHash w10 gy ay cy [1] := HashAt.keep0 hy9 hk10
  clear hsl hd10 hk10 hK9 hb9 hy9
  go_wp2_with fail
  refine (new_walk w10).mono ?_
  rintro e w11 ⟨gz, rfl, hz11, hk11, hgz⟩
  have hK11 := hK10.trans hk11
  have ho6 := ho6.keep0 hk11
  have hb11 := hb10.keep0 hk11
  have hy11 : IsHash w11 gy ay cy [1] := HashAt.keep0 hy10 hk11
  have hyo : ∀ k, hashOf gy ay cy k → k < w10.heap.size := HashAt.lt hy10
  have hb10l := hb10.lt
  have hzl := hz11.obj.lt
  clear hk11 hK10 hb10 hy10
  go_wp2_with fail
  refine (refBytes_walk (HROW.out.1.keep hK11) (by omega)).mono ?_
  rintro e w12 ⟨a12, c12, rfl, ho12, hk12, hf12⟩
  rw [HZL.out] at ho12 ⊢
  have hK12 := hK11.trans hk12
  have ho6 := ho6.keep0 hk12
  have hb12 := hb11.keep0 hk12
  have hy12 : IsHash w12 gy ay cy [1] := HashAt.keep0 hy11 hk12
  have hz12 : IsHash w12 gz none 0 [] := HashAt.keep0 hz11 hk12
  have hl12 := ho12.lt
  have hs11 := hk12.size
  clear hK11 hk12 hb11 hy11 hz11
  obtain ⟨gd, rfl, hgd, _⟩ := ho12.some (by omega)
  have hgd2 : w11.heap.size ≤ gd := hf12 gd ((blkOf_some _ _ _ _).2 rfl)
  have hwz := write_walk hz12 (ho12.row HROW.out.1.wf) (capb := c12) (fun h => by cases h) (fun k hk _ e => by rw [(blkOf_some _ _ _ _).1 hk] at e; omega) (by simp; omega)
  rw [List.nil_append] at hwz
  have HWZ := Lib.hid hwz
  clear hwz hf12
  go_wp2_with fail
  refine HWZ.out.mono ?_
  rintro e w13 ⟨rfl, az, cz, hz13, hk13, hfz⟩
  have hK13 : Keeps Nil w w13 := hK12.step hk13 (fun k hk => by
    rcases hk with rfl | hk
    · exact .inr (by omega)
    · exact (noMid k hk).elim)
  have ho6 := ho6.keep hk13 (fun k hk hs => by
    rcases hs with rfl | hs
    · have := hl10 _ hk; omega
    · exact noMid k hs)
  have ho13 := ho12.keep hk13 (fun k hk hs => by
    rw [(blkOf_some _ _ _ _).1 hk] at hs
    rcases hs with hs | hs
    · omega
    · exact noMid _ hs)
  have hb13 := hb12.keep hk13 (fun hs => by
    rcases hs with hs | hs
    · omega
    · exact noMid _ hs)
  have hy13 := hy12.other hk13 (fun k hk => by have := hyo k hk; omega)
  clear HWZ hk13 ho12 hK12 hb12 hy12 hz12
  have hZ0 := HZL.out
  go_wp2_with fail
  refine (number_walk n len _ hn.1 hn.2 (by omega) (by omega)).mono ?_
  rintro e w14 ⟨rfl, rfl⟩
  obtain ⟨m, hm, hmod⟩ : ∃ m : Nat, m < len ∧ n % (len : Int) = m := ⟨(n % (len : Int)).toNat, by have := Int.emod_lt_of_pos n (show (0 : Int) < len by omega); have := Int.emod_nonneg n (show (len : Int) ≠ 0 by omega); omega, by have := Int.emod_nonneg n (show (len : Int) ≠ 0 by omega); omega⟩
  rw [hmod]
  obtain ⟨hol, hoc, _, hor⟩ := ho13
  obtain ⟨sp, hbd⟩ : ∃ sp, Blk w13 gd (byteV Z ++ sp) 5 := by
    rcases hor with ⟨h, _⟩ | ⟨g', sp, h, hb, _⟩
    · cases h
    · cases h; exact ⟨sp, hb⟩
  have cm := hbd.cell m (v := .int .u8 (Z.getD m 0)) (by rw [List.getElem?_append_left (by rw [byteV_len]; omega)]; exact byteV_at Z m (by omega) rfl)
  have zm := hbd.frozen m
  have hks : Keeps (One gd) w13 (w13.setCell ⟨gd, m, none⟩ (.int .u8 ((Z.getD m 0 + 1) % 256))) := (Keeps.refl _ _).setOne m _
  have hbx := u8_wf (HROW.out.1.wf _ (HROW.out.1.at_ hm))
  have hzS : IsHash (w13.setCell ⟨gd, m, none⟩ (.int .u8 ((Z.getD m 0 + 1) % 256))) gz az cz Z := HashAt.keep hz13 hks (fun k hk e => by
    have e' : k = gd := e
    rcases hk with rfl | hk
    · omega
    · rcases hfz k hk with h' | h'
      · exact noMid k h'
      · have := hl12 gd ((blkOf_some _ _ _ _).2 rfl); omega)
  have hyS : IsHash (w13.setCell ⟨gd, m, none⟩ (.int .u8 ((Z.getD m 0 + 1) % 256))) gy ay cy [1] := HashAt.keep hy13 hks (fun k hk e => by
    have e' : k = gd := e
    have := hyo k hk
    omega)
  have hoS := ho6.keep hks (fun k hk e => by
    have e' : k = gd := e
    have := hl10 k hk
    omega)
  have hbS := hb13.keep hks (fun e => by have e' : g9 = gd := e; omega)
  have hKS : Keeps Nil w (w13.setCell ⟨gd, m, none⟩ (.int .u8 ((Z.getD m 0 + 1) % 256))) := hK13.step hks (fun i hi => .inr (by rw [show i = gd from hi]; omega))
  have HXX := Lib.hid (And.intro hzS (And.intro hyS (And.intro hoS (And.intro hbS hKS))))
  clear hzS hyS hoS hbS hKS hks hz13 hy13 hb13 hK13 ho6 hbd hol hoc hor hmod hn
  generalize Z.getD m 0 = xx at *
  have hm0 : (0 : Int) ≤ m := by omega
  have hm1 : (m : Int) < len := by omega
  clear hZ0
  go_wp2_with fail
  generalize w13.setCell ⟨gd, m, none⟩ (.int .u8 ((xx + 1) % 256)) = wS at *
  refine (HS.out.1 wS gz az cz HXX.out.1).mono ?_
  rintro e w15 ⟨rfl, hk15⟩
  have hy15 : IsHash w15 gy ay cy [1] := HashAt.keep0 HXX.out.2.1 hk15
  have ho15 := HXX.out.2.2.1.keep0 hk15
  have hb15 := HXX.out.2.2.2.1.keep0 hk15
  have hK15 := HXX.out.2.2.2.2.trans hk15
  have hb16 := Blk.new w15 ZZ 26
  have hka := (Keeps.refl Nil w15).alloc (.cells ZZ.toArray 26)
  have hy15l := hy15.obj.lt
  have hy15m := hy15.rest.lt
  have ho15l := ho15.lt
  have hb15l := hb15.lt
  clear hk15 HXX cm zm
  go_wp2_with (refine wpl_store rfl 26 _ _ rfl w15.heap.size rfl D rfl hb16 (by rw [HS.out.2.2.2.2.1, HS.out.2.2.2.2.2.2]) (by rw [HS.out.2.2.2.2.1]; exact Try.infoH) HS.out.2.2.2.2.2.1 ?_)
  intro w16 hb17 hk16 hs16
  have hk1516 : Keeps (One w15.heap.size) w15 w16 := (hka.nil (S := One w15.heap.size)).step hk16 (fun i hi => .inl hi)
  have hK16 : Keeps Nil w w16 := hK15.step hk1516 (fun i hi => .inr (by rw [show i = w15.heap.size from hi]; exact hK15.size))
  have ho16 := ho15.keep hk1516 (fun k hk e => by have h1 := ho15l k hk; have h2 : k = w15.heap.size := e; omega)
  have hb9F := hb15.keep hk1516 (fun e => by have h2 : g9 = w15.heap.size := e; omega)
  have hy16 : IsHash w16 gy ay cy [1] := HashAt.keep hy15 hk1516 (fun k hk e => by
    have h2 : k = w15.heap.size := e
    rcases hk with rfl | hk
    · omega
    · have := hy15m k hk; omega)
  clear hb16 hka hk16 hs16 hk1516 hy15 ho15 hb15 hK15 hy15m ho15l
  generalize w15.heap.size = g13 at *
  have hrw : Row .u8 w16 a6 len Z := ho16.row HROW.out.1.wf
  have hn6 : a6 = none → c6 = 0 ∧ len = 0 := fun h => by
    obtain ⟨g, hg, _⟩ := ho16.some (by omega)
    rw [h] at hg; cases hg
  have hUH := Try.undH
  have hIH : (Try.prog.info? 26).map (·.size) = some D.length := by rw [HS.out.2.2.2.2.1]; exact Try.infoH
  clear hyo hl8 hl98 hs11 hgd2 hgd hl12 hfz hl10 hb10l hzl hgz hl9 hyl hl6 hl6' hgx hgy hxl hs2
  go_wp2_with fail
  refine wp_region_held_drew (S := fun w' => w'.rangeAt g9 0 D ∧ w'.rangeAt g13 0 D) (by kernel_rfl) ⟨hb9F.range0, hb17.range0⟩ (fun hHeld => ?_)
  have hkd : Keeps Nil w16 w16.drew := (Keeps.refl Nil w16).drew
  have hyd : IsHash w16.drew gy ay cy [1] := HashAt.keep0 hy16 hkd
  refine takeL (i := 0) (v := _) rfl (by kernel_rfl) (by kernel_rfl) (by kernel_rfl) (fun _ _ _ h => h) (Or.inl ⟨by rfl, by intro w hSw; (try dsimp only at hSw); go_simp; try with_reducible rfl⟩) (by assumption) ?_
  try simp only [Act.put, List.setIfInBounds_toArray, List.set_cons_zero, List.set_cons_succ]
  refine takeL (i := 1) (v := _) rfl (by kernel_rfl) (by kernel_rfl) (by kernel_rfl) (fun _ _ _ h => h) (Or.inl ⟨by rfl, by intro w hSw; (try dsimp only at hSw); go_simp; try with_reducible rfl⟩) (by assumption) ?_
  try simp only [Act.put, List.setIfInBounds_toArray, List.set_cons_zero, List.set_cons_succ]
  refine takeL (i := 2) (v := _) rfl (by kernel_rfl) (by kernel_rfl) (by kernel_rfl) (fun _ _ _ h => h) (yieldsIf_load_mid (by rfl) 26 _ rfl g9 0 rfl (D) _ (fun w hSw => hSw.1) hUH rfl hIH) (by assumption) ?_
  try simp only [Act.put, List.setIfInBounds_toArray, List.set_cons_zero, List.set_cons_succ]
  refine takeL (i := 3) (v := _) rfl (by kernel_rfl) (by kernel_rfl) (by kernel_rfl) (fun _ _ _ h => h) (yieldsIf_load_mid (by rfl) 26 _ rfl g13 0 rfl (D) _ (fun w hSw => hSw.2) hUH rfl hIH) (by assumption) ?_
  try simp only [Act.put, List.setIfInBounds_toArray, List.set_cons_zero, List.set_cons_succ]
  refine takeL (i := 4) (v := _) rfl (by kernel_rfl) (by kernel_rfl) (by kernel_rfl) (fun _ _ _ h => h) (Or.inl ⟨by rfl, by intro w hSw; (try dsimp only at hSw); go_simp; try with_reducible rfl⟩) (by assumption) ?_
  try simp only [Act.put, List.setIfInBounds_toArray, List.set_cons_zero, List.set_cons_succ]
  refine takeL (i := 5) (v := _) rfl (by kernel_rfl) (by kernel_rfl) (by kernel_rfl) (fun _ _ _ h => h) (Or.inl ⟨by rfl, by intro w hSw; (try dsimp only at hSw); go_simp; try with_reducible rfl⟩) (by assumption) ?_
  try simp only [Act.put, List.setIfInBounds_toArray, List.set_cons_zero, List.set_cons_succ]
  refine takeL (i := 6) (v := _) rfl (by kernel_rfl) (by kernel_rfl) (by kernel_rfl) (fun _ _ _ h => h) (Or.inl ⟨by rfl, by intro w hSw; (try dsimp only at hSw); go_simp; try with_reducible rfl⟩) (by assumption) ?_
  try simp only [Act.put, List.setIfInBounds_toArray, List.set_cons_zero, List.set_cons_succ]
  refine takeL (i := 7) (v := _) rfl (by kernel_rfl) (by kernel_rfl) (by kernel_rfl) (fun _ _ _ h => h) (Or.inl ⟨by rfl, by intro w hSw; (try dsimp only at hSw); go_simp; try with_reducible rfl⟩) (by assumption) ?_
  try simp only [Act.put, List.setIfInBounds_toArray, List.set_cons_zero, List.set_cons_succ]
  refine bothL (i := 8) (j := 9) rfl rfl (by kernel_rfl) (fun K hK => ?_) (fun K hK => ?_)
  · go_simp
    refine (HS.out.2.1 _ gy ay cy (HashAt.keep0 hy16 hkd)).mono ?_
    rintro e wa ⟨rfl, hkn⟩
    have hka : Keeps Nil w16 wa := Keeps.trans hkd hkn
    refine (fun hHeld => hK _ _ hHeld ?_) (⟨(hb9F.keep0 hka).range0, (hb17.keep0 hka).range0⟩)
    clear hK
    try simp only [Act.put, List.setIfInBounds_toArray, List.set_cons_zero, List.set_cons_succ]
    refine onlyL (i := 9) rfl (by kernel_rfl) (fun K hK => ?_)
    refine step_bsOneW rfl 22 5 _ rfl (.int .u8 1) rfl Try.underlying22 (by kernel_rfl) (by simp [Act.eval]) ?_
    have hkb9 : Keeps Nil w16 (World.alloc wa (.cells [Value.int .u8 1].toArray 5)) := Keeps.alloc hka _
    have hr9 : Row .u8 (World.alloc wa (.cells [Value.int .u8 1].toArray 5)) (some ⟨(wa).heap.size, 0, none⟩) 1 [1] := ⟨rfl, by omega, fun _ => ⟨(wa).heap.size, 0, rfl, (Blk.new (wa) [Value.int .u8 1] 5).lt, fun i hi => by
      obtain rfl : i = 0 := by omega
      exact (Blk.new (wa) [Value.int .u8 1] 5).cell 0 rfl⟩, fun x hx => by rw [List.mem_singleton.1 hx]; rfl⟩
    refine (fun hHeld => hK _ _ hHeld ?_) (⟨(hb9F.keep0 hkb9).range0, (hb17.keep0 hkb9).range0⟩)
    clear hK
    try simp only [Act.put, List.setIfInBounds_toArray, List.set_cons_zero, List.set_cons_succ]
    refine onlyL (i := 10) rfl (by kernel_rfl) (fun K hK => ?_)
    refine step_bsOneW rfl 30 22 _ rfl (.slice (some ⟨wa.heap.size, 0, none⟩) 1 1) rfl Try.underlying30 (by kernel_rfl) (by simp [Act.eval]) ?_
    have hkc : Keeps Nil w16 (World.alloc (wa.alloc (.cells [Value.int .u8 1].toArray 5)) (.cells [Value.slice (some ⟨wa.heap.size, 0, none⟩) 1 1].toArray 22)) := Keeps.alloc hkb9 _
    have hM : ManyB (World.alloc (wa.alloc (.cells [Value.int .u8 1].toArray 5)) (.cells [Value.slice (some ⟨wa.heap.size, 0, none⟩) 1 1].toArray 22)) (some ⟨((wa.alloc (.cells [Value.int .u8 1].toArray 5))).heap.size, 0, none⟩) 1 [[1]] := ManyB.one (Blk.new ((wa.alloc (.cells [Value.int .u8 1].toArray 5))) [Value.slice (some ⟨wa.heap.size, 0, none⟩) 1 1] 22) (hr9.keep ((Keeps.refl Nil _).alloc _)) (fun h => by cases h)
    try rw [size_alloc'] at hM
    refine (fun hHeld => hK _ _ hHeld ?_) (⟨(hb9F.keep0 hkc).range0, (hb17.keep0 hkc).range0⟩)
    clear hK
    try simp only [Act.put, List.setIfInBounds_toArray, List.set_cons_zero, List.set_cons_succ]
    refine onlyL (i := 11) rfl (by kernel_rfl) (fun K hK => ?_)
    go_simp
    refine (HS.out.2.2.2.1 _ _ _ _ _ hM rfl).mono ?_
    rintro e we ⟨rfl, hke⟩
    have hkE : Keeps Nil w16 we := Keeps.trans hkc hke
    refine (fun hHeld => hK _ _ hHeld ?_) (⟨(hb9F.keep0 hkE).range0, (hb17.keep0 hkE).range0⟩)
    clear hK
    try simp only [Act.put, List.setIfInBounds_toArray, List.set_cons_zero, List.set_cons_succ]
    refine takeL (i := 12) (v := _) rfl (by kernel_rfl) (by kernel_rfl) (by kernel_rfl) (fun _ _ _ h => h) (Or.inl ⟨by rfl, by intro w hSw; (try dsimp only at hSw); go_simp; try with_reducible rfl⟩) (by assumption) ?_
    try simp only [Act.put, List.setIfInBounds_toArray, List.set_cons_zero, List.set_cons_succ]
    refine takeL (i := 13) (v := _) rfl (by kernel_rfl) (by kernel_rfl) (by kernel_rfl) (fun _ _ _ h => h) (Or.inl ⟨by rfl, by intro w hSw; (try dsimp only at hSw); go_simp; try with_reducible rfl⟩) (by assumption) ?_
    try simp only [Act.put, List.setIfInBounds_toArray, List.set_cons_zero, List.set_cons_succ]
    refine takeL (i := 14) (v := _) rfl (by kernel_rfl) (by kernel_rfl) (by kernel_rfl) (fun _ _ _ h => h) (Or.inl ⟨by rfl, by intro w hSw; (try dsimp only at hSw); go_simp; try with_reducible rfl⟩) (by assumption) ?_
    try simp only [Act.put, List.setIfInBounds_toArray, List.set_cons_zero, List.set_cons_succ]
    refine takeL (i := 15) (v := _) rfl (by kernel_rfl) (by kernel_rfl) (by kernel_rfl) (fun _ _ _ h => h) (yieldsIf_load_mid (by rfl) 26 _ rfl g9 0 rfl (D) _ (fun w hSw => hSw.1) hUH rfl hIH) (by assumption) ?_
    try simp only [Act.put, List.setIfInBounds_toArray, List.set_cons_zero, List.set_cons_succ]
    refine takeL (i := 16) (v := _) rfl (by kernel_rfl) (by kernel_rfl) (by kernel_rfl) (fun _ _ _ h => h) (Or.inl ⟨by rfl, by intro w hSw; (try dsimp only at hSw); go_simp; try with_reducible rfl⟩) (by assumption) ?_
    try simp only [Act.put, List.setIfInBounds_toArray, List.set_cons_zero, List.set_cons_succ]
    refine onlyL (i := 17) rfl (by kernel_rfl) (fun K hK => ?_)
    refine step_bsOneW rfl 30 22 _ rfl (.slice a6 len c6) rfl Try.underlying30 (by kernel_rfl) (by simp [Act.eval]) ?_
    have hkF : Keeps Nil w16 (we.alloc (.cells [Value.slice a6 len c6].toArray 22)) := hkE.alloc _
    have hMF : ManyB (we.alloc (.cells [Value.slice a6 len c6].toArray 22)) (some ⟨we.heap.size, 0, none⟩) 1 [Z] := ManyB.one (Blk.new we [Value.slice a6 len c6] 22) (hrw.keep hkF) hn6
    refine (fun hHeld => hK _ _ hHeld ?_) (⟨(hb9F.keep0 hkF).range0, (hb17.keep0 hkF).range0⟩)
    clear hK
    try simp only [Act.put, List.setIfInBounds_toArray, List.set_cons_zero, List.set_cons_succ]
    refine onlyL (i := 18) rfl (by kernel_rfl) (fun K hK => ?_)
    go_simp
    refine (HS.out.2.2.1 _ _ _ _ _ hMF (by simp)).mono ?_
    rintro e wf ⟨rfl, hkf⟩
    have hkG := hkF.trans hkf
    refine (fun hHeld => hK _ _ hHeld ?_) (⟨(hb9F.keep0 hkG).range0, (hb17.keep0 hkG).range0⟩)
    clear hK
    try simp only [Act.put, List.setIfInBounds_toArray, List.set_cons_zero, List.set_cons_succ]
    refine takeL (i := 19) (v := _) rfl (by kernel_rfl) (by kernel_rfl) (by kernel_rfl) (fun _ _ _ h => h) (Or.inl ⟨by rfl, by intro w hSw; (try dsimp only at hSw); go_simp; try with_reducible rfl⟩) (by assumption) ?_
    try simp only [Act.put, List.setIfInBounds_toArray, List.set_cons_zero, List.set_cons_succ]
    refine takeL (i := 20) (v := _) rfl (by kernel_rfl) (by kernel_rfl) (by kernel_rfl) (fun _ _ _ h => h) (Or.inl ⟨by rfl, by intro w hSw; (try dsimp only at hSw); go_simp; try with_reducible rfl⟩) (by assumption) ?_
    try simp only [Act.put, List.setIfInBounds_toArray, List.set_cons_zero, List.set_cons_succ]
    refine takeL (i := 21) (v := _) rfl (by kernel_rfl) (by kernel_rfl) (by kernel_rfl) (fun _ _ _ h => h) (Or.inl ⟨by rfl, by intro w hSw; (try dsimp only at hSw); go_simp; try with_reducible rfl⟩) (by assumption) ?_
    try simp only [Act.put, List.setIfInBounds_toArray, List.set_cons_zero, List.set_cons_succ]
    refine wpAnyH_done (by kernel_rfl) ?_ _
    go_wp2_with fail
    go_ret
    exact ⟨by first | rfl | simp, hK16.trans hkG⟩
  · skip
    refine step_bsOneW rfl 22 5 _ rfl (.int .u8 1) rfl Try.underlying22 (by kernel_rfl) (by simp [Act.eval]) ?_
    have hkb9 : Keeps Nil w16 (World.alloc w16.drew (.cells [Value.int .u8 1].toArray 5)) := Keeps.alloc hkd _
    have hr9 : Row .u8 (World.alloc w16.drew (.cells [Value.int .u8 1].toArray 5)) (some ⟨(w16.drew).heap.size, 0, none⟩) 1 [1] := ⟨rfl, by omega, fun _ => ⟨(w16.drew).heap.size, 0, rfl, (Blk.new (w16.drew) [Value.int .u8 1] 5).lt, fun i hi => by
      obtain rfl : i = 0 := by omega
      exact (Blk.new (w16.drew) [Value.int .u8 1] 5).cell 0 rfl⟩, fun x hx => by rw [List.mem_singleton.1 hx]; rfl⟩
    refine (fun hHeld => hK _ _ hHeld ?_) (⟨(hb9F.keep0 hkb9).range0, (hb17.keep0 hkb9).range0⟩)
    clear hK
    try simp only [Act.put, List.setIfInBounds_toArray, List.set_cons_zero, List.set_cons_succ]
    refine bothL (i := 8) (j := 10) rfl rfl (by kernel_rfl) (fun K hK => ?_) (fun K hK => ?_)
    · go_simp
      refine (HS.out.2.1 _ gy ay cy (HashAt.keep0 hy16 hkb9)).mono ?_
      rintro e wa ⟨rfl, hkn⟩
      have hka : Keeps Nil w16 wa := Keeps.trans hkb9 hkn
      refine (fun hHeld => hK _ _ hHeld ?_) (⟨(hb9F.keep0 hka).range0, (hb17.keep0 hka).range0⟩)
      clear hK
      try simp only [Act.put, List.setIfInBounds_toArray, List.set_cons_zero, List.set_cons_succ]
      have hr9 := hr9.keep hkn
      refine onlyL (i := 10) rfl (by kernel_rfl) (fun K hK => ?_)
      refine step_bsOneW rfl 30 22 _ rfl (.slice (some ⟨w16.drew.heap.size, 0, none⟩) 1 1) rfl Try.underlying30 (by kernel_rfl) (by simp [Act.eval]) ?_
      have hkc : Keeps Nil w16 (World.alloc wa (.cells [Value.slice (some ⟨w16.drew.heap.size, 0, none⟩) 1 1].toArray 22)) := Keeps.alloc hka _
      have hM : ManyB (World.alloc wa (.cells [Value.slice (some ⟨w16.drew.heap.size, 0, none⟩) 1 1].toArray 22)) (some ⟨(wa).heap.size, 0, none⟩) 1 [[1]] := ManyB.one (Blk.new (wa) [Value.slice (some ⟨w16.drew.heap.size, 0, none⟩) 1 1] 22) (hr9.keep ((Keeps.refl Nil _).alloc _)) (fun h => by cases h)
      try rw [size_alloc'] at hM
      refine (fun hHeld => hK _ _ hHeld ?_) (⟨(hb9F.keep0 hkc).range0, (hb17.keep0 hkc).range0⟩)
      clear hK
      try simp only [Act.put, List.setIfInBounds_toArray, List.set_cons_zero, List.set_cons_succ]
      refine onlyL (i := 11) rfl (by kernel_rfl) (fun K hK => ?_)
      go_simp
      refine (HS.out.2.2.2.1 _ _ _ _ _ hM rfl).mono ?_
      rintro e we ⟨rfl, hke⟩
      have hkE : Keeps Nil w16 we := Keeps.trans hkc hke
      refine (fun hHeld => hK _ _ hHeld ?_) (⟨(hb9F.keep0 hkE).range0, (hb17.keep0 hkE).range0⟩)
      clear hK
      try simp only [Act.put, List.setIfInBounds_toArray, List.set_cons_zero, List.set_cons_succ]
      refine takeL (i := 12) (v := _) rfl (by kernel_rfl) (by kernel_rfl) (by kernel_rfl) (fun _ _ _ h => h) (Or.inl ⟨by rfl, by intro w hSw; (try dsimp only at hSw); go_simp; try with_reducible rfl⟩) (by assumption) ?_
      try simp only [Act.put, List.setIfInBounds_toArray, List.set_cons_zero, List.set_cons_succ]
      refine takeL (i := 13) (v := _) rfl (by kernel_rfl) (by kernel_rfl) (by kernel_rfl) (fun _ _ _ h => h) (Or.inl ⟨by rfl, by intro w hSw; (try dsimp only at hSw); go_simp; try with_reducible rfl⟩) (by assumption) ?_
      try simp only [Act.put, List.setIfInBounds_toArray, List.set_cons_zero, List.set_cons_succ]
      refine takeL (i := 14) (v := _) rfl (by kernel_rfl) (by kernel_rfl) (by kernel_rfl) (fun _ _ _ h => h) (Or.inl ⟨by rfl, by intro w hSw; (try dsimp only at hSw); go_simp; try with_reducible rfl⟩) (by assumption) ?_
      try simp only [Act.put, List.setIfInBounds_toArray, List.set_cons_zero, List.set_cons_succ]
      refine takeL (i := 15) (v := _) rfl (by kernel_rfl) (by kernel_rfl) (by kernel_rfl) (fun _ _ _ h => h) (yieldsIf_load_mid (by rfl) 26 _ rfl g9 0 rfl (D) _ (fun w hSw => hSw.1) hUH rfl hIH) (by assumption) ?_
      try simp only [Act.put, List.setIfInBounds_toArray, List.set_cons_zero, List.set_cons_succ]
      refine takeL (i := 16) (v := _) rfl (by kernel_rfl) (by kernel_rfl) (by kernel_rfl) (fun _ _ _ h => h) (Or.inl ⟨by rfl, by intro w hSw; (try dsimp only at hSw); go_simp; try with_reducible rfl⟩) (by assumption) ?_
      try simp only [Act.put, List.setIfInBounds_toArray, List.set_cons_zero, List.set_cons_succ]
      refine onlyL (i := 17) rfl (by kernel_rfl) (fun K hK => ?_)
      refine step_bsOneW rfl 30 22 _ rfl (.slice a6 len c6) rfl Try.underlying30 (by kernel_rfl) (by simp [Act.eval]) ?_
      have hkF : Keeps Nil w16 (we.alloc (.cells [Value.slice a6 len c6].toArray 22)) := hkE.alloc _
      have hMF : ManyB (we.alloc (.cells [Value.slice a6 len c6].toArray 22)) (some ⟨we.heap.size, 0, none⟩) 1 [Z] := ManyB.one (Blk.new we [Value.slice a6 len c6] 22) (hrw.keep hkF) hn6
      refine (fun hHeld => hK _ _ hHeld ?_) (⟨(hb9F.keep0 hkF).range0, (hb17.keep0 hkF).range0⟩)
      clear hK
      try simp only [Act.put, List.setIfInBounds_toArray, List.set_cons_zero, List.set_cons_succ]
      refine onlyL (i := 18) rfl (by kernel_rfl) (fun K hK => ?_)
      go_simp
      refine (HS.out.2.2.1 _ _ _ _ _ hMF (by simp)).mono ?_
      rintro e wf ⟨rfl, hkf⟩
      have hkG := hkF.trans hkf
      refine (fun hHeld => hK _ _ hHeld ?_) (⟨(hb9F.keep0 hkG).range0, (hb17.keep0 hkG).range0⟩)
      clear hK
      try simp only [Act.put, List.setIfInBounds_toArray, List.set_cons_zero, List.set_cons_succ]
      refine takeL (i := 19) (v := _) rfl (by kernel_rfl) (by kernel_rfl) (by kernel_rfl) (fun _ _ _ h => h) (Or.inl ⟨by rfl, by intro w hSw; (try dsimp only at hSw); go_simp; try with_reducible rfl⟩) (by assumption) ?_
      try simp only [Act.put, List.setIfInBounds_toArray, List.set_cons_zero, List.set_cons_succ]
      refine takeL (i := 20) (v := _) rfl (by kernel_rfl) (by kernel_rfl) (by kernel_rfl) (fun _ _ _ h => h) (Or.inl ⟨by rfl, by intro w hSw; (try dsimp only at hSw); go_simp; try with_reducible rfl⟩) (by assumption) ?_
      try simp only [Act.put, List.setIfInBounds_toArray, List.set_cons_zero, List.set_cons_succ]
      refine takeL (i := 21) (v := _) rfl (by kernel_rfl) (by kernel_rfl) (by kernel_rfl) (fun _ _ _ h => h) (Or.inl ⟨by rfl, by intro w hSw; (try dsimp only at hSw); go_simp; try with_reducible rfl⟩) (by assumption) ?_
      try simp only [Act.put, List.setIfInBounds_toArray, List.set_cons_zero, List.set_cons_succ]
      refine wpAnyH_done (by kernel_rfl) ?_ _
      go_wp2_with fail
      go_ret
      exact ⟨by first | rfl | simp, hK16.trans hkG⟩
    · skip
      refine step_bsOneW rfl 30 22 _ rfl (.slice (some ⟨w16.drew.heap.size, 0, none⟩) 1 1) rfl Try.underlying30 (by kernel_rfl) (by simp [Act.eval]) ?_
      have hkc : Keeps Nil w16 (World.alloc (w16.drew.alloc (.cells [Value.int .u8 1].toArray 5)) (.cells [Value.slice (some ⟨w16.drew.heap.size, 0, none⟩) 1 1].toArray 22)) := Keeps.alloc hkb9 _
      have hM : ManyB (World.alloc (w16.drew.alloc (.cells [Value.int .u8 1].toArray 5)) (.cells [Value.slice (some ⟨w16.drew.heap.size, 0, none⟩) 1 1].toArray 22)) (some ⟨((w16.drew.alloc (.cells [Value.int .u8 1].toArray 5))).heap.size, 0, none⟩) 1 [[1]] := ManyB.one (Blk.new ((w16.drew.alloc (.cells [Value.int .u8 1].toArray 5))) [Value.slice (some ⟨w16.drew.heap.size, 0, none⟩) 1 1] 22) (hr9.keep ((Keeps.refl Nil _).alloc _)) (fun h => by cases h)
      try rw [size_alloc'] at hM
      refine (fun hHeld => hK _ _ hHeld ?_) (⟨(hb9F.keep0 hkc).range0, (hb17.keep0 hkc).range0⟩)
      clear hK
      try simp only [Act.put, List.setIfInBounds_toArray, List.set_cons_zero, List.set_cons_succ]
      refine onlyL (i := 8) rfl (by kernel_rfl) (fun K hK => ?_)
      go_simp
      refine (HS.out.2.1 _ gy ay cy (HashAt.keep0 hy16 hkc)).mono ?_
      rintro e wa ⟨rfl, hkn⟩
      have hka : Keeps Nil w16 wa := Keeps.trans hkc hkn
      refine (fun hHeld => hK _ _ hHeld ?_) (⟨(hb9F.keep0 hka).range0, (hb17.keep0 hka).range0⟩)
      clear hK
      try simp only [Act.put, List.setIfInBounds_toArray, List.set_cons_zero, List.set_cons_succ]
      have hM := hM.keep hkn
      refine onlyL (i := 11) rfl (by kernel_rfl) (fun K hK => ?_)
      go_simp
      refine (HS.out.2.2.2.1 _ _ _ _ _ hM rfl).mono ?_
      rintro e we ⟨rfl, hke⟩
      have hkE : Keeps Nil w16 we := Keeps.trans hka hke
      refine (fun hHeld => hK _ _ hHeld ?_) (⟨(hb9F.keep0 hkE).range0, (hb17.keep0 hkE).range0⟩)
      clear hK
      try simp only [Act.put, List.setIfInBounds_toArray, List.set_cons_zero, List.set_cons_succ]
      refine takeL (i := 12) (v := _) rfl (by kernel_rfl) (by kernel_rfl) (by kernel_rfl) (fun _ _ _ h => h) (Or.inl ⟨by rfl, by intro w hSw; (try dsimp only at hSw); go_simp; try with_reducible rfl⟩) (by assumption) ?_
      try simp only [Act.put, List.setIfInBounds_toArray, List.set_cons_zero, List.set_cons_succ]
      refine takeL (i := 13) (v := _) rfl (by kernel_rfl) (by kernel_rfl) (by kernel_rfl) (fun _ _ _ h => h) (Or.inl ⟨by rfl, by intro w hSw; (try dsimp only at hSw); go_simp; try with_reducible rfl⟩) (by assumption) ?_
      try simp only [Act.put, List.setIfInBounds_toArray, List.set_cons_zero, List.set_cons_succ]
      refine takeL (i := 14) (v := _) rfl (by kernel_rfl) (by kernel_rfl) (by kernel_rfl) (fun _ _ _ h => h) (Or.inl ⟨by rfl, by intro w hSw; (try dsimp only at hSw); go_simp; try with_reducible rfl⟩) (by assumption) ?_
      try simp only [Act.put, List.setIfInBounds_toArray, List.set_cons_zero, List.set_cons_succ]
      refine takeL (i := 15) (v := _) rfl (by kernel_rfl) (by kernel_rfl) (by kernel_rfl) (fun _ _ _ h => h) (yieldsIf_load_mid (by rfl) 26 _ rfl g9 0 rfl (D) _ (fun w hSw => hSw.1) hUH rfl hIH) (by assumption) ?_
      try simp only [Act.put, List.setIfInBounds_toArray, List.set_cons_zero, List.set_cons_succ]
      refine takeL (i := 16) (v := _) rfl (by kernel_rfl) (by kernel_rfl) (by kernel_rfl) (fun _ _ _ h => h) (Or.inl ⟨by rfl, by intro w hSw; (try dsimp only at hSw); go_simp; try with_reducible rfl⟩) (by assumption) ?_
      try simp only [Act.put, List.setIfInBounds_toArray, List.set_cons_zero, List.set_cons_succ]
      refine onlyL (i := 17) rfl (by kernel_rfl) (fun K hK => ?_)
      refine step_bsOneW rfl 30 22 _ rfl (.slice a6 len c6) rfl Try.underlying30 (by kernel_rfl) (by simp [Act.eval]) ?_
      have hkF : Keeps Nil w16 (we.alloc (.cells [Value.slice a6 len c6].toArray 22)) := hkE.alloc _
      have hMF : ManyB (we.alloc (.cells [Value.slice a6 len c6].toArray 22)) (some ⟨we.heap.size, 0, none⟩) 1 [Z] := ManyB.one (Blk.new we [Value.slice a6 len c6] 22) (hrw.keep hkF) hn6
      refine (fun hHeld => hK _ _ hHeld ?_) (⟨(hb9F.keep0 hkF).range0, (hb17.keep0 hkF).range0⟩)
      clear hK
      try simp only [Act.put, List.setIfInBounds_toArray, List.set_cons_zero, List.set_cons_succ]
      refine onlyL (i := 18) rfl (by kernel_rfl) (fun K hK => ?_)
      go_simp
      refine (HS.out.2.2.1 _ _ _ _ _ hMF (by simp)).mono ?_
      rintro e wf ⟨rfl, hkf⟩
      have hkG := hkF.trans hkf
      refine (fun hHeld => hK _ _ hHeld ?_) (⟨(hb9F.keep0 hkG).range0, (hb17.keep0 hkG).range0⟩)
      clear hK
      try simp only [Act.put, List.setIfInBounds_toArray, List.set_cons_zero, List.set_cons_succ]
      refine takeL (i := 19) (v := _) rfl (by kernel_rfl) (by kernel_rfl) (by kernel_rfl) (fun _ _ _ h => h) (Or.inl ⟨by rfl, by intro w hSw; (try dsimp only at hSw); go_simp; try with_reducible rfl⟩) (by assumption) ?_
      try simp only [Act.put, List.setIfInBounds_toArray, List.set_cons_zero, List.set_cons_succ]
      refine takeL (i := 20) (v := _) rfl (by kernel_rfl) (by kernel_rfl) (by kernel_rfl) (fun _ _ _ h => h) (Or.inl ⟨by rfl, by intro w hSw; (try dsimp only at hSw); go_simp; try with_reducible rfl⟩) (by assumption) ?_
      try simp only [Act.put, List.setIfInBounds_toArray, List.set_cons_zero, List.set_cons_succ]
      refine takeL (i := 21) (v := _) rfl (by kernel_rfl) (by kernel_rfl) (by kernel_rfl) (fun _ _ _ h => h) (Or.inl ⟨by rfl, by intro w hSw; (try dsimp only at hSw); go_simp; try with_reducible rfl⟩) (by assumption) ?_
      try simp only [Act.put, List.setIfInBounds_toArray, List.set_cons_zero, List.set_cons_succ]
      refine wpAnyH_done (by kernel_rfl) ?_ _
      go_wp2_with fail
      go_ret
      exact ⟨by first | rfl | simp, hK16.trans hkG⟩
end Go.Proofs.Ytnkahfpinkgimaa
