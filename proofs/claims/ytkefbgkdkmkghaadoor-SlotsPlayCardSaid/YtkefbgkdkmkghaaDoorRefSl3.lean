/-
  The document's slots: Open.
-/
import Derived.Test.YtkefbgkdkmkghaaDoorRefSl
import Derived.Deep.DeepCutAuto
import Derived.Deep.CutRange
import Derived.Deep.CutBlock
namespace Go.Proofs.YtkefbgkdkmkghaaDoor
set_option linter.unusedSimpArgs false
set_option linter.unusedVariables false
open Go.RowKit

/-- What the document's Open leaves of a disk on which a state stands. -/
def ROpenP (w : World) (q : Nat) (Q : Roles) (d : Dk) (s : Sv) (e : Ending) (w' : World) : Prop :=
  ∃ g Q', e = .returned (.tuple #[.pointer (some ⟨g, 0, none⟩), .int .i64 0]) ∧ RSlAt w' g q s ∧ Q' g = 0 ∧ w.heap.size ≤ g ∧ IsRef w' q Q' (d.cleaned s) ∧ Grew w w' Q Q'
theorem num4_part (B : List Int) (a : Nat) : num4 ((B.drop a).take (a + 4 - a)) 0 = num4 B a := by
  have key : ∀ i, i < 4 → ((B.drop a).take (a + 4 - a)).getD i 0 = B.getD (a + i) 0 := fun i hi => by
    rw [List.getD_eq_getElem?_getD, List.getD_eq_getElem?_getD, List.getElem?_take_of_lt (by omega), List.getElem?_drop]
  unfold num4
  rw [key 0 (by omega), Nat.zero_add, key 1 (by omega), Nat.zero_add, key 2 (by omega), Nat.zero_add, key 3 (by omega), Nat.add_zero]
set_option maxRecDepth 20000 in
set_option maxHeartbeats 6400000 in
theorem refopen_walk {w : World} {q : Nat} {Q : Roles} {d : Dk} (hD : IsRef w q Q d) {m : Nat} (hok : d.Ok m) (hm : m ≤ 100000) (ho : d.off = false) (hl : d.left = -1) (h1 : 1 ≤ d.vs.length) {s : Sv} (hp : d.parse (lastV (d.at_ 0)) = some s) (hsb : s.seq ≤ 4294967295) :
    Calls Tryd.prog 42 #[.pointer (some ⟨q, 0, none⟩)] w (ROpenP w q Q d s) := by
  have h4 := hok.size
  have hle := parse_le hp
  have hro : d.room ≤ 25600 := by unfold Dk.room Dk.each; omega
  have HD := Lib.hid hD
  have HOK := Lib.hid hok
  have HOL := Lib.hid (And.intro ho hl)
  have HC0 : Hid (codeO none = 0) := Lib.hid rfl
  have hqR := hD.lt
  obtain ⟨n, hn⟩ : ∃ n, n = d.vs.length := ⟨_, rfl⟩
  have HN := Lib.hid hn
  obtain ⟨B0, hB0⟩ : ∃ B, B = lastV (d.at_ 0) := ⟨_, rfl⟩
  have hlv0 := lastV_okS hok (i := 0) (by omega)
  have hrd0 := readOn ho (i := 0) (by omega)
  rw [← hB0] at hlv0 hp hrd0
  have hmr0 := refread_walk hD hok (by omega) ((0 : Nat) : Int)
  rw [hrd0.1, hrd0.2] at hmr0
  have HR0 : Hid (Calls Tryd.prog 32 #[.pointer (some ⟨q, 0, none⟩), .int .i64 0] w (RReadP w none B0)) := Lib.hid hmr0
  have HB0 := Lib.hid (And.intro hlv0 hp)
  have HBD := Lib.hid (And.intro hle (And.intro hsb hro))
  rw [← hn] at h1 h4
  clear hD hok ho hl hn hlv0 hrd0 hmr0 hp hB0
  go_enter Tryd.func42, Tryd.ntmps42
  go_wp2_with fail
  refine HR0.out.mono ?_
  rintro e w1 ⟨a1, n1, c1, rfl, ho1, hn1, hk1, hf1⟩
  rw [HB0.out.1.1] at hn1
  subst hn1
  rw [HC0.out]
  obtain ⟨gB, hgB, hgBl, _⟩ := ho1.some (by omega)
  subst hgB
  have hcB := ho1.2.1
  have hcx := ho1.2.2.1
  unfold maxLen at hcx
  have HRB := Lib.hid (ho1.row (areB_wf HB0.out.1.2))
  have HK1 := Lib.hid hk1
  clear ho1 hk1 hf1
  go_upto_region 5 with fail
  have hS1 : RSlAt (w1.alloc (.cells #[.pointer (some ⟨q, 0, none⟩), .int .i64 0, .int .i64 0, .int .i64 0] 78)) w1.heap.size q ⟨0, 0, 0⟩ := Blk.new w1 [.pointer (some ⟨q, 0, none⟩), .int .i64 0, .int .i64 0, .int .i64 0] 78
  have hkA : Keeps Nil w1 (w1.alloc (.cells #[.pointer (some ⟨q, 0, none⟩), .int .i64 0, .int .i64 0, .int .i64 0] 78)) := (Keeps.refl _ _).alloc _
  generalize w1.alloc (.cells #[.pointer (some ⟨q, 0, none⟩), .int .i64 0, .int .i64 0, .int .i64 0] 78) = wA at *
  obtain ⟨g, hg⟩ : ∃ g, w1.heap.size = g := ⟨_, rfl⟩
  have hgle : w.heap.size ≤ g := by have := HK1.out.size; omega
  have hgB2 : gB ≠ g := by omega
  rw [hg] at hS1 ⊢
  have HS1 := Lib.hid hS1
  have HRA := Lib.hid (HRB.out.keep hkA)
  have HKA := Lib.hid (HK1.out.trans hkA)
  clear hS1 hkA hg hgBl HRB HK1
  go_wp2_with fail
  refine (zero_walk (c := c1) HRA.out).mono ?_
  rintro e w2 ⟨rfl, rfl⟩
  go_upto_if 25 with fail
  generalize hzb : zeroL B0 = zb
  have HZB := Lib.hid hzb
  clear hzb
  go_cut [] from 26 to 74 (fun wx => Hid (RSlAt wx g q s ∧ Keeps (One g) wA wx))
  case first =>
    cases zb with
    | true =>
      have hbe : B0 = zsec := (zeroL_iff HB0.out.1.1).1 HZB.out
      have hse : s = ⟨0, 0, 0⟩ := by
        have := HB0.out.2
        rw [hbe] at this
        unfold Dk.parse at this
        rw [if_pos rfl] at this
        exact (Option.some.inj this).symm
      have HF : Hid (RSlAt wA g q s ∧ Keeps (One g) wA wA) := Lib.hid ⟨hse ▸ HS1.out, Keeps.refl _ _⟩
      clear hbe hse
      go_wp2_with fail
      go_meet
      exact HF
    | false =>
      have hbn : B0 ≠ zsec := fun hh => by have := HZB.out; rw [(zeroL_iff HB0.out.1.1).2 hh] at this; cases this
      have hpp := HB0.out.2
      unfold Dk.parse at hpp
      rw [if_neg hbn] at hpp
      have hok2 : okHead d (rawSv B0) B0 ∧ rawSv B0 = s := by
        split at hpp
        · next h => exact ⟨h, Option.some.inj hpp⟩
        · cases hpp
      obtain ⟨hoh, hrs⟩ := hok2
      rw [hrs] at hoh
      obtain ⟨hbh, hq0, hh1, hmr⟩ := hoh
      have hn4 : num4 B0 4 = (s.seq : Int) := by
        have := num4_bounds HB0.out.1.2 (t := 4) (by rw [HB0.out.1.1]; omega)
        rw [← hrs]
        show _ = ((num4 B0 4).toNat : Int)
        omega
      have hn9 : num4 B0 9 = (s.many : Int) := by
        have := num4_bounds HB0.out.1.2 (t := 9) (by rw [HB0.out.1.1]; omega)
        rw [← hrs]
        show _ = ((num4 B0 9).toNat : Int)
        omega
      have hn8 : B0.getD 8 0 = (s.half : Int) := by
        have := HB0.out.1.2 (B0.getD 8 0) (by have := HB0.out.1.1; simp [List.getD, show 8 < B0.length by omega])
        rw [← hrs]
        show _ = ((B0.getD 8 0).toNat : Int)
        omega
      obtain ⟨sq, hsq⟩ : ∃ x, x = s.seq := ⟨_, rfl⟩
      obtain ⟨sh, hsh⟩ : ∃ x, x = s.half := ⟨_, rfl⟩
      obtain ⟨sm, hsm⟩ : ∃ x, x = s.many := ⟨_, rfl⟩
      rw [← hsq] at hn4 hq0
      rw [← hsh] at hn8 hh1
      rw [← hsm] at hn9 hmr
      have hsb2 : sq ≤ 4294967295 := by rw [hsq]; exact HBD.out.2.1
      have hroo := HBD.out.2.2
      have HP4 := Lib.hid (fun w' (hk : Keeps (One g) wA w') => show Calls Tryd.prog 60 #[.slice (some ⟨gB, 4, none⟩) 4 (c1 - 4)] w' (fun e w'' => e = .returned (.int .u32 sq) ∧ Keeps Nil w' w'') from by
        have h := get32_walk (c := c1 - 4) ((HRA.out.keepW hk hgB2).part 4 8 (by omega) (by omega))
        rw [show (8 : Nat) = 4 + 4 from rfl, num4_part, hn4] at h
        exact h)
      have HP9 := Lib.hid (fun w' (hk : Keeps (One g) wA w') => show Calls Tryd.prog 60 #[.slice (some ⟨gB, 9, none⟩) 4 (c1 - 9)] w' (fun e w'' => e = .returned (.int .u32 sm) ∧ Keeps Nil w' w'') from by
        have h := get32_walk (c := c1 - 9) ((HRA.out.keepW hk hgB2).part 9 13 (by omega) (by omega))
        rw [show (13 : Nat) = 9 + 4 from rfl, num4_part, hn9] at h
        exact h)
      have HC8 := Lib.hid (fun w' (hk : Keeps (One g) wA w') => show w'.cell? ⟨gB, 8, none⟩ = some (.int .u8 sh) from by
        obtain ⟨b, o, hbo, _, hc⟩ := (HRA.out.keepW hk hgB2).cell (by omega)
        cases hbo
        have := hc 8 (by omega)
        rw [hn8, Nat.zero_add] at this
        exact this)
      have HSV := Lib.hid (And.intro hsq (And.intro hsh hsm))
      have HBH := Lib.hid hbh
      have hcn4 : ¬ c1 = 4 := by omega
      have hcn9 : ¬ c1 = 9 := by omega
      have hq0i : ((sq : Int) == 0) = false := by rw [beq_eq_false_iff_ne]; omega
      have hsm3 : sm ≤ 25600 := by omega
      clear hbn hpp hrs hbh hn4 hn8 hn9 hsq hsh hsm hroo
      go_wp2_with fail
      refine (HP4.out wA (Keeps.refl _ _)).mono ?_
      rintro e w3 ⟨rfl, hk3⟩
      have hs3 := HS1.out.keep hk3 (fun h => h)
      have b1 := Blk.cell hs3 1 rfl
      have z1 := Blk.frozen hs3 1
      have hs4 := Blk.set hs3 1 (.int .i64 sq)
      have hk4 : Keeps (One g) wA (w3.setCell ⟨g, 1, none⟩ (.int .i64 sq)) := hk3.nil.setOne _ _
      have HX := Lib.hid (And.intro hs4 hk4)
      clear hs3 hs4 hk4 hk3
      go_upto_region 7 with fail
      generalize w3.setCell ⟨g, 1, none⟩ (.int .i64 sq) = w4 at *
      have c8 := HC8.out w4 HX.out.2
      have b2 := Blk.cell HX.out.1 2 rfl
      have z2 := Blk.frozen HX.out.1 2
      have hs5 := Blk.set HX.out.1 2 (.int .i64 sh)
      have hk5 : Keeps (One g) wA (w4.setCell ⟨g, 2, none⟩ (.int .i64 sh)) := HX.out.2.setOne _ _
      have HY := Lib.hid (And.intro hs5 hk5)
      clear hs5 hk5 HX b1 z1
      go_upto_region 8 with fail
      generalize w4.setCell ⟨g, 2, none⟩ (.int .i64 sh) = w5 at *
      clear c8 b2 z2
      go_wp2_with fail
      refine (HP9.out w5 HY.out.2).mono ?_
      rintro e w6 ⟨rfl, hk6⟩
      have hs6 := Blk.keep HY.out.1 hk6 (fun h => h)
      have b3 := Blk.cell hs6 3 rfl
      have z3 := Blk.frozen hs6 3
      have hs7 : RSlAt (w6.setCell ⟨g, 3, none⟩ (.int .i64 sm)) g q s := by
        have := Blk.set hs6 3 (.int .i64 sm)
        unfold RSlAt
        rw [← HSV.out.1, ← HSV.out.2.1, ← HSV.out.2.2]
        exact this
      have hk7 : Keeps (One g) wA (w6.setCell ⟨g, 3, none⟩ (.int .i64 sm)) := (HY.out.2.trans hk6.nil).setOne _ _
      have HZ := Lib.hid (And.intro hs7 hk7)
      clear hs6 hs7 hk7 HY hk6
      go_upto_region 9 with fail
      generalize w6.setCell ⟨g, 3, none⟩ (.int .i64 sm) = w7 at *
      clear b3 z3 hcn4 hcn9
      have d1 := Blk.cell HZ.out.1 1 rfl
      have d2 := Blk.cell HZ.out.1 2 rfl
      have d3 := Blk.cell HZ.out.1 3 rfl
      rw [← HSV.out.1] at d1
      rw [← HSV.out.2.1] at d2
      rw [← HSV.out.2.2] at d3
      refine wp_region_held_drew (S := fun w' => w'.cell? ⟨g, 1, none⟩ = some (.int .i64 sq) ∧ w'.cell? ⟨g, 2, none⟩ = some (.int .i64 sh) ∧ w'.cell? ⟨g, 3, none⟩ = some (.int .i64 sm)) (by kernel_rfl) ⟨d1, d2, d3⟩ (fun hHeld => ?_)
      have hkd : Keeps Nil w7 w7.drew := (Keeps.refl Nil w7).drew
      have HSd := Lib.hid (HZ.out.1.keep hkd (fun h => h))
      have HKd := Lib.hid (HZ.out.2.trans hkd.nil)
      have e1 := hkd.cell d1 (fun h => h)
      have e2 := hkd.cell d2 (fun h => h)
      have e3 := hkd.cell d3 (fun h => h)
      have HDd := Lib.hid (HD.out.keep (HKA.out.nil.trans HKd.out) (fun k hk e => by have := hqR k hk; have : k = g := e; omega))
      clear hkd d1 d2 d3 HZ
      generalize w7.drew = v0 at *
      have hh1i : decide ((1 : Int) < (sh : Int)) = false := decide_eq_false (by omega)
      obtain ⟨rm, hrm⟩ : ∃ x, x = d.room := ⟨_, rfl⟩
      have hmri : decide ((rm : Int) < (sm : Int)) = false := decide_eq_false (by omega)
      have hmrn : decide (rm < sm) = false := decide_eq_false (by omega)
      have hrw := refroom_walk HDd.out HSd.out (by rw [← HN.out]; exact h1) (by rw [← HN.out]; exact h4)
      rw [← hrm] at hrw
      have HRW := Lib.hid hrw
      clear hrw hrm hmr
      refine takeL (i := 0) (v := _) rfl (by kernel_rfl) (by kernel_rfl) (by kernel_rfl) (fun _ _ _ h => h) (Or.inl ⟨by rfl, by intro w hSw; (try dsimp only at hSw); go_simp; try with_reducible rfl⟩) (by assumption) ?_
      try simp only [Act.put, List.setIfInBounds_toArray, List.set_cons_zero, List.set_cons_succ]
      refine takeL (i := 1) (v := _) rfl (by kernel_rfl) (by kernel_rfl) (by kernel_rfl) (fun _ _ _ h => h) (Or.inl ⟨by rfl, by intro w hSw; (try dsimp only at hSw); go_simp; try with_reducible rfl⟩) (by assumption) ?_
      try simp only [Act.put, List.setIfInBounds_toArray, List.set_cons_zero, List.set_cons_succ]
      refine takeL (i := 2) (v := _) rfl (by kernel_rfl) (by kernel_rfl) (by kernel_rfl) (fun _ _ _ h => h) (Or.inl ⟨by rfl, by intro w hSw; (try dsimp only at hSw); go_simp; try with_reducible rfl⟩) (by assumption) ?_
      try simp only [Act.put, List.setIfInBounds_toArray, List.set_cons_zero, List.set_cons_succ]
      refine takeL (i := 3) (v := _) rfl (by kernel_rfl) (by kernel_rfl) (by kernel_rfl) (fun _ _ _ h => h) (Or.inl ⟨by rfl, by intro w hSw; (try dsimp only at hSw); go_simp; try with_reducible rfl⟩) (by assumption) ?_
      try simp only [Act.put, List.setIfInBounds_toArray, List.set_cons_zero, List.set_cons_succ]
      refine takeL (i := 4) (v := _) rfl (by kernel_rfl) (by kernel_rfl) (by kernel_rfl) (fun _ _ _ h => h) (Or.inl ⟨by rfl, by intro w hSw; (try dsimp only at hSw); go_simp; try with_reducible rfl⟩) (by assumption) ?_
      try simp only [Act.put, List.setIfInBounds_toArray, List.set_cons_zero, List.set_cons_succ]
      refine takeL (i := 5) (v := _) rfl (by kernel_rfl) (by kernel_rfl) (by kernel_rfl) (fun _ _ _ h => h) (Or.inl ⟨by rfl, by intro w hSw; (try dsimp only at hSw); go_simp; try with_reducible rfl⟩) (by assumption) ?_
      try simp only [Act.put, List.setIfInBounds_toArray, List.set_cons_zero, List.set_cons_succ]
      refine takeL (i := 6) (v := _) rfl (by kernel_rfl) (by kernel_rfl) (by kernel_rfl) (fun _ _ _ h => h) (Or.inl ⟨by rfl, by intro w hSw; (try dsimp only at hSw); go_simp; try with_reducible rfl⟩) (by assumption) ?_
      try simp only [Act.put, List.setIfInBounds_toArray, List.set_cons_zero, List.set_cons_succ]
      refine takeL (i := 7) (v := _) rfl (by kernel_rfl) (by kernel_rfl) (by kernel_rfl) (fun _ _ _ h => h) (Or.inl ⟨by rfl, by intro w hSw; (try dsimp only at hSw); go_simp; try with_reducible rfl⟩) (by assumption) ?_
      try simp only [Act.put, List.setIfInBounds_toArray, List.set_cons_zero, List.set_cons_succ]
      refine takeL (i := 8) (v := _) rfl (by kernel_rfl) (by kernel_rfl) (by kernel_rfl) (fun _ _ _ h => h) (Or.inl ⟨by rfl, by intro w hSw; (try dsimp only at hSw); go_simp; try with_reducible rfl⟩) (by assumption) ?_
      try simp only [Act.put, List.setIfInBounds_toArray, List.set_cons_zero, List.set_cons_succ]
      refine takeL (i := 9) (v := _) rfl (by kernel_rfl) (by kernel_rfl) (by kernel_rfl) (fun _ _ _ h => h) (Or.inl ⟨by rfl, by intro w hSw; (try dsimp only at hSw); go_simp; try with_reducible rfl⟩) (by assumption) ?_
      try simp only [Act.put, List.setIfInBounds_toArray, List.set_cons_zero, List.set_cons_succ]
      refine takeL (i := 10) (v := _) rfl (by kernel_rfl) (by kernel_rfl) (by kernel_rfl) (fun _ _ _ h => h) (Or.inl ⟨by rfl, by intro w hSw; (try dsimp only at hSw); go_simp; try with_reducible rfl⟩) (by assumption) ?_
      try simp only [Act.put, List.setIfInBounds_toArray, List.set_cons_zero, List.set_cons_succ]
      refine takeL (i := 11) (v := _) rfl (by kernel_rfl) (by kernel_rfl) (by kernel_rfl) (fun _ _ _ h => h) (Or.inl ⟨by rfl, by intro w hSw; (try dsimp only at hSw); go_simp; try with_reducible rfl⟩) (by assumption) ?_
      try simp only [Act.put, List.setIfInBounds_toArray, List.set_cons_zero, List.set_cons_succ]
      refine takeL (i := 12) (v := _) rfl (by kernel_rfl) (by kernel_rfl) (by kernel_rfl) (fun _ _ _ h => h) (Or.inl ⟨by rfl, by intro w hSw; (try dsimp only at hSw); go_simp; try with_reducible rfl⟩) (by assumption) ?_
      try simp only [Act.put, List.setIfInBounds_toArray, List.set_cons_zero, List.set_cons_succ]
      refine takeL (i := 13) (v := _) rfl (by kernel_rfl) (by kernel_rfl) (by kernel_rfl) (fun _ _ _ h => h) (Or.inl ⟨by rfl, by intro w hSw; (try dsimp only at hSw); go_simp; try with_reducible rfl⟩) (by assumption) ?_
      try simp only [Act.put, List.setIfInBounds_toArray, List.set_cons_zero, List.set_cons_succ]
      refine takeL (i := 14) (v := _) rfl (by kernel_rfl) (by kernel_rfl) (by kernel_rfl) (fun _ _ _ h => h) (Or.inl ⟨by rfl, by intro w hSw; (try dsimp only at hSw); go_simp; try with_reducible rfl⟩) (by assumption) ?_
      try simp only [Act.put, List.setIfInBounds_toArray, List.set_cons_zero, List.set_cons_succ]
      refine takeL (i := 15) (v := _) rfl (by kernel_rfl) (by kernel_rfl) (by kernel_rfl) (fun _ _ _ h => h) (Or.inl ⟨by rfl, by intro w hSw; (try dsimp only at hSw); go_simp; try with_reducible rfl⟩) (by assumption) ?_
      try simp only [Act.put, List.setIfInBounds_toArray, List.set_cons_zero, List.set_cons_succ]
      refine takeL (i := 16) (v := _) rfl (by kernel_rfl) (by kernel_rfl) (by kernel_rfl) (fun _ _ _ h => h) (Or.inl ⟨by rfl, by intro w hSw; (try dsimp only at hSw); go_simp; try with_reducible rfl⟩) (by assumption) ?_
      try simp only [Act.put, List.setIfInBounds_toArray, List.set_cons_zero, List.set_cons_succ]
      refine takeL (i := 17) (v := _) rfl (by kernel_rfl) (by kernel_rfl) (by kernel_rfl) (fun _ _ _ h => h) (Or.inl ⟨by rfl, by intro w hSw; (try dsimp only at hSw); go_simp; try with_reducible rfl⟩) (by assumption) ?_
      try simp only [Act.put, List.setIfInBounds_toArray, List.set_cons_zero, List.set_cons_succ]
      refine onlyL (i := 18) rfl (by kernel_rfl) (fun K hK => ?_)
      go_simp
      refine HRW.out.mono ?_
      rintro e w8 ⟨rfl, rfl⟩
      refine (fun hHeld => hK _ _ hHeld ?_) (hHeld)
      clear hK
      try simp only [Act.put, List.setIfInBounds_toArray, List.set_cons_zero, List.set_cons_succ]
      refine takeL (i := 19) (v := _) rfl (by kernel_rfl) (by kernel_rfl) (by kernel_rfl) (fun _ _ _ h => h) (Or.inl ⟨by rfl, by intro w hSw; (try dsimp only at hSw); go_simp; try with_reducible rfl⟩) (by assumption) ?_
      try simp only [Act.put, List.setIfInBounds_toArray, List.set_cons_zero, List.set_cons_succ]
      refine takeL (i := 20) (v := _) rfl (by kernel_rfl) (by kernel_rfl) (by kernel_rfl) (fun _ _ _ h => h) (Or.inl ⟨by rfl, by intro w hSw; (try dsimp only at hSw); go_simp; try with_reducible rfl⟩) (by assumption) ?_
      try simp only [Act.put, List.setIfInBounds_toArray, List.set_cons_zero, List.set_cons_succ]
      refine takeL (i := 21) (v := _) rfl (by kernel_rfl) (by kernel_rfl) (by kernel_rfl) (fun _ _ _ h => h) (Or.inl ⟨by rfl, by intro w hSw; (try dsimp only at hSw); go_simp; try with_reducible rfl⟩) (by assumption) ?_
      try simp only [Act.put, List.setIfInBounds_toArray, List.set_cons_zero, List.set_cons_succ]
      refine takeL (i := 22) (v := _) rfl (by kernel_rfl) (by kernel_rfl) (by kernel_rfl) (fun _ _ _ h => h) (Or.inl ⟨by rfl, by intro w hSw; (try dsimp only at hSw); go_simp; try with_reducible rfl⟩) (by assumption) ?_
      try simp only [Act.put, List.setIfInBounds_toArray, List.set_cons_zero, List.set_cons_succ]
      refine takeL (i := 23) (v := _) rfl (by kernel_rfl) (by kernel_rfl) (by kernel_rfl) (fun _ _ _ h => h) (Or.inl ⟨by rfl, by intro w hSw; (try dsimp only at hSw); go_simp; try with_reducible rfl⟩) (by assumption) ?_
      try simp only [Act.put, List.setIfInBounds_toArray, List.set_cons_zero, List.set_cons_succ]
      refine onlyL (i := 24) rfl (by kernel_rfl) (fun K hK => ?_)
      go_simp
      refine (refhead_walk HSd.out ⟨by rw [← HSV.out.1]; exact hsb2, by rw [← HSV.out.2.1]; omega, by rw [← HSV.out.2.2]; omega⟩).mono ?_
      rintro e w9 ⟨ah, ch, rfl, hoh, hk9, _⟩
      refine (fun hHeld => hK _ _ hHeld ?_) (⟨hk9.cell hHeld.1 (fun h => h), hk9.cell hHeld.2.1 (fun h => h), hk9.cell hHeld.2.2 (fun h => h)⟩)
      clear hK
      try simp only [Act.put, List.setIfInBounds_toArray, List.set_cons_zero, List.set_cons_succ]
      refine onlyL (i := 25) rfl (by kernel_rfl) (fun K hK => ?_)
      go_simp
      have hsw := sameBytes_walk (ca := c1) (cb := ch) ((HRA.out.keepW HKd.out hgB2).keep hk9) (hoh.row (areB_wf (headL_bytes s)))
      rw [← HBH.out, sameL_eq.2 rfl] at hsw
      refine hsw.mono ?_
      clear hsw
      rintro e w10 ⟨rfl, hd10⟩
      have hk10 : Keeps Nil w9 w10 := hd10.keeps _
      refine (fun hHeld => hK _ _ hHeld ?_) (⟨hk10.cell hHeld.1 (fun h => h), hk10.cell hHeld.2.1 (fun h => h), hk10.cell hHeld.2.2 (fun h => h)⟩)
      clear hK
      try simp only [Act.put, List.setIfInBounds_toArray, List.set_cons_zero, List.set_cons_succ]
      refine takeL (i := 26) (v := _) rfl (by kernel_rfl) (by kernel_rfl) (by kernel_rfl) (fun _ _ _ h => h) (Or.inl ⟨by rfl, by intro w hSw; (try dsimp only at hSw); go_simp; try with_reducible rfl⟩) (by assumption) ?_
      try simp only [Act.put, List.setIfInBounds_toArray, List.set_cons_zero, List.set_cons_succ]
      refine takeL (i := 27) (v := _) rfl (by kernel_rfl) (by kernel_rfl) (by kernel_rfl) (fun _ _ _ h => h) (Or.inl ⟨by rfl, by intro w hSw; (try dsimp only at hSw); go_simp; try with_reducible rfl⟩) (by assumption) ?_
      try simp only [Act.put, List.setIfInBounds_toArray, List.set_cons_zero, List.set_cons_succ]
      refine wpAnyH_done (by kernel_rfl) ?_ _
      have HF : Hid (RSlAt w10 g q s ∧ Keeps (One g) wA w10) := Lib.hid ⟨(HSd.out.keep hk9 (fun h => h)).keep hk10 (fun h => h), (HKd.out.trans hk9.nil).trans hk10.nil⟩
      clear hHeld hk9 hk10 hd10 hoh e1 e2 e3 HSd HKd HDd HRW
      go_wp2_with fail
      go_meet
      exact HF
  case rest =>
  obtain ⟨hSx, hKx⟩ := hcut.out
  have hgQ : Q g = 0 := by
    rcases Nat.eq_zero_or_pos (Q g) with h | h
    · exact h
    · have := hqR g (by omega); omega
  have HGQ := Lib.hid hgQ
  have HSX := Lib.hid hSx
  have HGX := Lib.hid (grew_nil (R := Q) (HKA.out.step hKx (fun i hi => .inr (by rw [show i = g from hi]; exact hgle))))
  have HDX := Lib.hid (HD.out.keep (HKA.out.nil.trans hKx) (fun k hk e => by have := hqR k hk; have : k = g := e; omega))
  have he : d.each ≤ 200 := by unfold Dk.each; rw [← HN.out]; omega
  have hmm : s.half * d.each ≤ 1 * 200 := Nat.mul_le_mul HBD.out.1.1 he
  obtain ⟨T, hT⟩ : ∃ T, T = takesN s.many := ⟨_, rfl⟩
  have hTb : T ≤ 1000 := by have := HBD.out.1.2; have := HBD.out.2.2; rw [hT]; unfold takesN; omega
  have HTK := Lib.hid (fun w' => need_walk s.many w' (by have := HBD.out.1.2; have := HBD.out.2.2; omega))
  rw [← hT] at HTK
  have hhw := fun (w' : World) (Q' : Roles) (i : Nat) (hD' : IsRef w' q Q' (d.scrub s i)) (hS' : RSlAt w' g q s) => half_walk hD' hS' (by rw [scrub_len, ← HN.out]; exact h1) (by rw [scrub_len, ← HN.out]; exact h4)
  have hee : ∀ i, (d.scrub s i).each = d.each := fun i => by unfold Dk.each; rw [scrub_len]
  simp only [hee] at hhw
  obtain ⟨N, hN⟩ : ∃ N, N = d.each := ⟨_, rfl⟩
  rw [← hN] at hhw he hmm
  have HHW := Lib.hid hhw
  obtain ⟨M, hM⟩ : ∃ M, M = s.half * N := ⟨_, rfl⟩
  rw [← hM] at hmm
  have HUS : Hid (∀ i, d.used s i = (decide (1 + M ≤ i) && decide (i < 1 + M + T))) := Lib.hid (fun i => by unfold Dk.used Dk.first; rw [hT, hM, hN])
  obtain ⟨sq, hsq⟩ : ∃ x, x = s.seq := ⟨_, rfl⟩
  obtain ⟨hv, hhv⟩ : ∃ x, x = s.half := ⟨_, rfl⟩
  obtain ⟨sm, hsm⟩ : ∃ x, x = s.many := ⟨_, rfl⟩
  have hx : (hv : Int) * (N : Int) = (M : Int) := by rw [hM, hhv]; simp
  have HSV := Lib.hid (And.intro hsq (And.intro hhv hsm))
  have HZT : Hid (sq = 0 → T = 0) := Lib.hid (fun h => by
    have hpp := HB0.out.2
    unfold Dk.parse at hpp
    split at hpp
    · rw [hT, ← Option.some.inj hpp]; rfl
    · split at hpp
      · next h2 => rw [Option.some.inj hpp] at h2; exact absurd (hsq.symm.trans h) h2.2.1
      · cases hpp)
  rw [← hsm] at HTK
  clear hSx hKx hgQ hT hhw hee hN hM hsq hhv hsm hcut HS1 HRA HKA HZB hcB hcx
  have c2x := Blk.cell HSX.out 2 rfl
  go_wp2_with fail
  go_loopw [8, 7, 9, 10, 11] (fun x y _ _ _ wr => ∃ (i : Nat) (Q' : Roles), x = .int .i64 i ∧ y = .bool (d.anyTo s i) ∧ 1 ≤ i ∧ i ≤ n ∧ Hid (IsRef wr q Q' (d.scrub s i)) ∧ Hid (Grew wc wr Q Q')) (fun x _ _ _ _ _ => n - (intOf x).toNat)
  case atStart =>
    refine ⟨1, Q, rfl, ?_, Nat.le_refl _, h1, ?_, Lib.hid (Grew.refl _ _)⟩
    · have : d.anyTo s 1 = false := by unfold Dk.anyTo Dk.dirty; rfl
      rw [this]
    · rw [scrub_zero]; exact HDX
  case round =>
    obtain ⟨i, Q', rfl, rfl, hi1, hin', hDi, hGi⟩ := hrel
    have hsi : RSlAt wr g q s := HSX.out.keep hGi.out.keeps (wr_not HGQ.out)
    obtain ⟨a_, cp, tb, hA⟩ := hDi.out
    have f0 := hA.obj.cell 0 rfl
    rw [scrub_len, ← HN.out] at f0
    clear hA c2x
    have c2 := Blk.cell hsi 2 rfl
    rw [← HSV.out.2.1] at c2
    by_cases hin : i < n
    · have hin2 : (i : Int) < n := by omega
      have hii : IntKind.i64.wrap ((i : Int) + 1) = ((i + 1 : Nat) : Int) := by rw [IntKind.wrap_i64]; omega
      obtain ⟨B, hB⟩ : ∃ B, B = lastV (d.at_ i) := ⟨_, rfl⟩
      have HB := Lib.hid hB
      have hlv := lastV_okS HOK.out (i := i) (by rw [← HN.out]; exact hin)
      rw [← hB] at hlv
      have HLV := Lib.hid hlv
      have HOKI := Lib.hid (scrub_ok HOK.out s i)
      have hrd : (d.scrub s i).readE i = none ∧ (d.scrub s i).readV i = lastV ((d.scrub s i).at_ i) := readOn (d := d.scrub s i) HOL.out.1 (by rw [scrub_len, ← HN.out]; exact hin)
      rw [scrub_at (by rw [← HN.out]; exact hin), show (decide (i < i) && d.dirty s i) = false by simp] at hrd
      have HRD : Hid ((d.scrub s i).readE i = none ∧ (d.scrub s i).readV i = B) := Lib.hid ⟨hrd.1, by rw [hrd.2, if_neg (by simp), hB]⟩
      clear hB hlv hrd
      go_upto_region 15 with fail
      refine wp_region_held_drew (S := fun w' => w'.cell? ⟨g, 2, none⟩ = some (.int .i64 hv)) (by kernel_rfl) (by exact c2) (fun hHeld => ?_)
      have hkd : Keeps Nil wr wr.drew := (Keeps.refl Nil wr).drew
      have HDv := Lib.hid (hDi.out.keep0 hkd)
      have HSv := Lib.hid (hsi.keep hkd (fun h => h))
      have HKq := Lib.hid hkd
      clear hkd f0 c2 hsi hDi
      generalize wr.drew = v0 at *
      refine takeL (i := 0) (v := _) rfl (by kernel_rfl) (by kernel_rfl) (by kernel_rfl) (fun _ _ _ h => h) (Or.inl ⟨by rfl, by intro w hSw; (try dsimp only at hSw); go_simp; try with_reducible rfl⟩) (by assumption) ?_
      try simp only [Act.put, List.setIfInBounds_toArray, List.set_cons_zero, List.set_cons_succ]
      refine takeL (i := 1) (v := _) rfl (by kernel_rfl) (by kernel_rfl) (by kernel_rfl) (fun _ _ _ h => h) (Or.inl ⟨by rfl, by intro w hSw; (try dsimp only at hSw); go_simp; try with_reducible rfl⟩) (by assumption) ?_
      try simp only [Act.put, List.setIfInBounds_toArray, List.set_cons_zero, List.set_cons_succ]
      refine takeL (i := 2) (v := _) rfl (by kernel_rfl) (by kernel_rfl) (by kernel_rfl) (fun _ _ _ h => h) (Or.inl ⟨by rfl, by intro w hSw; (try dsimp only at hSw); go_simp; try with_reducible rfl⟩) (by assumption) ?_
      try simp only [Act.put, List.setIfInBounds_toArray, List.set_cons_zero, List.set_cons_succ]
      refine takeL (i := 3) (v := _) rfl (by kernel_rfl) (by kernel_rfl) (by kernel_rfl) (fun _ _ _ h => h) (Or.inl ⟨by rfl, by intro w hSw; (try dsimp only at hSw); go_simp; try with_reducible rfl⟩) (by assumption) ?_
      try simp only [Act.put, List.setIfInBounds_toArray, List.set_cons_zero, List.set_cons_succ]
      refine takeL (i := 4) (v := _) rfl (by kernel_rfl) (by kernel_rfl) (by kernel_rfl) (fun _ _ _ h => h) (Or.inl ⟨by rfl, by intro w hSw; (try dsimp only at hSw); go_simp; try with_reducible rfl⟩) (by assumption) ?_
      try simp only [Act.put, List.setIfInBounds_toArray, List.set_cons_zero, List.set_cons_succ]
      refine takeL (i := 5) (v := _) rfl (by kernel_rfl) (by kernel_rfl) (by kernel_rfl) (fun _ _ _ h => h) (Or.inl ⟨by rfl, by intro w hSw; (try dsimp only at hSw); go_simp; try with_reducible rfl⟩) (by assumption) ?_
      try simp only [Act.put, List.setIfInBounds_toArray, List.set_cons_zero, List.set_cons_succ]
      refine takeL (i := 6) (v := _) rfl (by kernel_rfl) (by kernel_rfl) (by kernel_rfl) (fun _ _ _ h => h) (Or.inl ⟨by rfl, by intro w hSw; (try dsimp only at hSw); go_simp; try with_reducible rfl⟩) (by assumption) ?_
      try simp only [Act.put, List.setIfInBounds_toArray, List.set_cons_zero, List.set_cons_succ]
      refine onlyL (i := 7) rfl (by kernel_rfl) (fun K hK => ?_)
      go_simp
      refine (HHW.out v0 Q' i HDv.out HSv.out).mono ?_
      rintro e w2 ⟨rfl, rfl⟩
      refine (fun hHeld => hK _ _ hHeld ?_) (hHeld)
      clear hK
      try simp only [Act.put, List.setIfInBounds_toArray, List.set_cons_zero, List.set_cons_succ]
      refine takeL (i := 8) (v := _) rfl (by kernel_rfl) (by kernel_rfl) (by kernel_rfl) (fun _ _ _ h => h) (Or.inl ⟨by rfl, by intro w hSw; (try dsimp only at hSw); go_simp; try with_reducible rfl⟩) (by assumption) ?_
      try simp only [Act.put, List.setIfInBounds_toArray, List.set_cons_zero, List.set_cons_succ]
      refine takeL (i := 9) (v := _) rfl (by kernel_rfl) (by kernel_rfl) (by kernel_rfl) (fun _ _ _ h => h) (Or.inl ⟨by rfl, by intro w hSw; (try dsimp only at hSw); go_simp; try with_reducible rfl⟩) (by assumption) ?_
      try simp only [Act.put, List.setIfInBounds_toArray, List.set_cons_zero, List.set_cons_succ]
      refine takeL (i := 10) (v := _) rfl (by kernel_rfl) (by kernel_rfl) (by kernel_rfl) (fun _ _ _ h => h) (Or.inl ⟨by rfl, by intro w hSw; (try dsimp only at hSw); go_simp; try with_reducible rfl⟩) (by assumption) ?_
      try simp only [Act.put, List.setIfInBounds_toArray, List.set_cons_zero, List.set_cons_succ]
      refine wpAnyH_done (by kernel_rfl) ?_ _
      have c1 := Blk.cell HSv.out 1 rfl
      have c3 := Blk.cell HSv.out 3 rfl
      rw [← HSV.out.1] at c1
      rw [← HSV.out.2.2] at c3
      have hmr := refread_walk HDv.out HOKI.out (by omega) (i : Int)
      rw [HRD.out.1, HRD.out.2] at hmr
      have HMR := Lib.hid hmr
      clear hmr hHeld
      have hAA : IntKind.i64.wrap (IntKind.i64.wrap ((i : Int) - 1) - IntKind.i64.wrap (M : Int)) = (i : Int) - 1 - M := by
        rw [IntKind.wrap_i64, IntKind.wrap_i64, IntKind.wrap_i64]
        omega
      rw [hAA]
      obtain ⟨A, hA⟩ : ∃ A : Int, (i : Int) - 1 - M = A := ⟨_, rfl⟩
      rw [hA]
      clear hAA
      have HA := Lib.hid hA
      clear hA
      by_cases hq0 : sq = 0
      · have hqd : decide ((0 : Int) < (sq : Int)) = false := decide_eq_false (by omega)
        have hqn : decide (0 < sq) = false := decide_eq_false (by omega)
        have HUI : Hid (d.used s i = false) := Lib.hid (by rw [HUS.out, HZT.out hq0]; first | (simp; done) | (simp; omega))
        clear hq0
        go_wp2_with fail
        refine HMR.out.mono ?_
        rintro e w3 ⟨ab, nb, cb, rfl, hob, hnb, hk3, _⟩
        rw [HLV.out.1] at hnb
        subst hnb
        rw [HC0.out]
        have HD3 := Lib.hid (And.intro (HDv.out.keep0 hk3) (hGi.out.trans (grew_nil (HKq.out.trans hk3))))
        have HZW := Lib.hid (zero_walk (c := cb) (hob.row (areB_wf HLV.out.2)))
        clear hk3 hob HMR HDv HKq
        go_wp2_with fail
        refine HZW.out.mono ?_
        rintro e w4 ⟨rfl, rfl⟩
        clear HZW
        cases hbz : zeroL B with
        | true =>
          have hbe : B = zsec := (zeroL_iff HLV.out.1).1 hbz
          have hd : d.dirty s i = false := by unfold Dk.dirty; rw [← HB.out, hbe]; simp
          have h2 := HD3.out
          rw [← scrub_same hd] at h2
          have HMn := Lib.hid h2
          have HAn : Hid (d.anyTo s i = d.anyTo s (i + 1)) := Lib.hid (by rw [anyTo_succ, hd, Bool.or_false])
          clear h2 hd hbz hbe HD3
          go_wp2_with fail
          go_roundw
          case rel => exact ⟨i + 1, Q', by simp, HAn.out ▸ rfl, by omega, by omega, Lib.hid HMn.out.1, Lib.hid HMn.out.2⟩
          case measure => first | (simp [intOf]; done) | (simp [intOf]; omega)
        | false =>
          have hd : d.dirty s i = true := by
            unfold Dk.dirty
            rw [← HB.out, HUI.out]
            have : (B != zsec) = true := by
              rw [bne_iff_ne]
              intro hh
              rw [(zeroL_iff HLV.out.1).2 hh] at hbz
              cases hbz
            rw [this]
            simp; omega
          have HDd := Lib.hid hd
          have hii2 : (i : Int) < n := hin2
          clear hd hbz
          go_wp2_with (at_make; refine wpl_make128 rfl _ _ 25 rfl 5 Tryd.underlying25 Tryd.infoU8z rfl rfl ?_)
          intro gz wz hgz hbzz hkz
          clear hgz
          have HW := refwrite_walk (HD3.out.1.keep0 hkz) HOKI.out (by omega) (i : Int) (cb := 128) (hbzz.row8 zsec_bytes zsec_len (by omega))
          rw [write_free (d := d.scrub s i) HOL.out.1 HOL.out.2 (by rw [scrub_len, ← HN.out]; exact hin) zsec_len, scrub_put (by rw [← HN.out]; exact hin) HDd.out] at HW
          have HWH := Lib.hid HW
          have HKZ := Lib.hid hkz
          clear HW hkz hbzz
          go_wp2_with fail
          refine HWH.out.mono ?_
          rintro e w5 ⟨R5, rfl, hM5, hG5⟩
          rw [HC0.out]
          have HMn := Lib.hid (And.intro hM5 (HD3.out.2.trans ((grew_nil HKZ.out).trans hG5)))
          have HAn : Hid (true = d.anyTo s (i + 1)) := Lib.hid (by rw [anyTo_succ, HDd.out, Bool.or_true])
          clear hM5 hG5 HD3 HWH HKZ
          go_wp2_with fail
          go_roundw
          case rel => exact ⟨i + 1, R5, by simp, HAn.out ▸ rfl, by omega, by omega, Lib.hid HMn.out.1, Lib.hid HMn.out.2⟩
          case measure => first | (simp [intOf]; done) | (simp [intOf]; omega)
      · have hqd : decide ((0 : Int) < (sq : Int)) = true := decide_eq_true (by omega)
        have hqn : decide (0 < sq) = true := decide_eq_true (by omega)
        clear hq0
        by_cases hA0 : 0 ≤ A
        · have hAd : decide ((0 : Int) ≤ A) = true := decide_eq_true hA0
          by_cases hAT : A < (T : Int)
          · have hATd : decide (A < (T : Int)) = true := decide_eq_true hAT
            have hu : d.used s i = true := by
              have := HA.out
              rw [HUS.out]; simp; omega
            have hd : d.dirty s i = false := by unfold Dk.dirty; rw [hu]; simp
            have h2 := HDv.out
            rw [← scrub_same hd] at h2
            have HMn := Lib.hid (And.intro h2 (hGi.out.trans (grew_nil HKq.out)))
            have HAn : Hid (d.anyTo s i = d.anyTo s (i + 1)) := Lib.hid (by rw [anyTo_succ, hd, Bool.or_false])
            clear hu hd h2 HMR
            go_wp2_with fail
            refine (HTK.out v0).mono ?_
            rintro e w3 ⟨rfl, rfl⟩
            go_wp2_with fail
            go_roundw
            case rel => exact ⟨i + 1, Q', by simp, HAn.out ▸ rfl, by omega, by omega, Lib.hid HMn.out.1, Lib.hid HMn.out.2⟩
            case measure => first | (simp [intOf]; done) | (simp [intOf]; omega)
          · have hATd : decide (A < (T : Int)) = false := decide_eq_false hAT
            have HUI : Hid (d.used s i = false) := Lib.hid (by have := HA.out; rw [HUS.out]; first | (simp; done) | (simp; omega))
            go_wp2_with fail
            refine (HTK.out v0).mono ?_
            rintro e w3 ⟨rfl, rfl⟩
            go_wp2_with fail
            refine HMR.out.mono ?_
            rintro e w3 ⟨ab, nb, cb, rfl, hob, hnb, hk3, _⟩
            rw [HLV.out.1] at hnb
            subst hnb
            rw [HC0.out]
            have HD3 := Lib.hid (And.intro (HDv.out.keep0 hk3) (hGi.out.trans (grew_nil (HKq.out.trans hk3))))
            have HZW := Lib.hid (zero_walk (c := cb) (hob.row (areB_wf HLV.out.2)))
            clear hk3 hob HMR HDv HKq
            go_wp2_with fail
            refine HZW.out.mono ?_
            rintro e w4 ⟨rfl, rfl⟩
            clear HZW
            cases hbz : zeroL B with
            | true =>
              have hbe : B = zsec := (zeroL_iff HLV.out.1).1 hbz
              have hd : d.dirty s i = false := by unfold Dk.dirty; rw [← HB.out, hbe]; simp
              have h2 := HD3.out
              rw [← scrub_same hd] at h2
              have HMn := Lib.hid h2
              have HAn : Hid (d.anyTo s i = d.anyTo s (i + 1)) := Lib.hid (by rw [anyTo_succ, hd, Bool.or_false])
              clear h2 hd hbz hbe HD3
              go_wp2_with fail
              go_roundw
              case rel => exact ⟨i + 1, Q', by simp, HAn.out ▸ rfl, by omega, by omega, Lib.hid HMn.out.1, Lib.hid HMn.out.2⟩
              case measure => first | (simp [intOf]; done) | (simp [intOf]; omega)
            | false =>
              have hd : d.dirty s i = true := by
                unfold Dk.dirty
                rw [← HB.out, HUI.out]
                have : (B != zsec) = true := by
                  rw [bne_iff_ne]
                  intro hh
                  rw [(zeroL_iff HLV.out.1).2 hh] at hbz
                  cases hbz
                rw [this]
                simp; omega
              have HDd := Lib.hid hd
              have hii2 : (i : Int) < n := hin2
              clear hd hbz
              go_wp2_with (at_make; refine wpl_make128 rfl _ _ 25 rfl 5 Tryd.underlying25 Tryd.infoU8z rfl rfl ?_)
              intro gz wz hgz hbzz hkz
              clear hgz
              have HW := refwrite_walk (HD3.out.1.keep0 hkz) HOKI.out (by omega) (i : Int) (cb := 128) (hbzz.row8 zsec_bytes zsec_len (by omega))
              rw [write_free (d := d.scrub s i) HOL.out.1 HOL.out.2 (by rw [scrub_len, ← HN.out]; exact hin) zsec_len, scrub_put (by rw [← HN.out]; exact hin) HDd.out] at HW
              have HWH := Lib.hid HW
              have HKZ := Lib.hid hkz
              clear HW hkz hbzz
              go_wp2_with fail
              refine HWH.out.mono ?_
              rintro e w5 ⟨R5, rfl, hM5, hG5⟩
              rw [HC0.out]
              have HMn := Lib.hid (And.intro hM5 (HD3.out.2.trans ((grew_nil HKZ.out).trans hG5)))
              have HAn : Hid (true = d.anyTo s (i + 1)) := Lib.hid (by rw [anyTo_succ, HDd.out, Bool.or_true])
              clear hM5 hG5 HD3 HWH HKZ
              go_wp2_with fail
              go_roundw
              case rel => exact ⟨i + 1, R5, by simp, HAn.out ▸ rfl, by omega, by omega, Lib.hid HMn.out.1, Lib.hid HMn.out.2⟩
              case measure => first | (simp [intOf]; done) | (simp [intOf]; omega)
        · have hAd : decide ((0 : Int) ≤ A) = false := decide_eq_false hA0
          have HUI : Hid (d.used s i = false) := Lib.hid (by have := HA.out; rw [HUS.out]; first | (simp; done) | (simp; omega))
          go_wp2_with fail
          refine HMR.out.mono ?_
          rintro e w3 ⟨ab, nb, cb, rfl, hob, hnb, hk3, _⟩
          rw [HLV.out.1] at hnb
          subst hnb
          rw [HC0.out]
          have HD3 := Lib.hid (And.intro (HDv.out.keep0 hk3) (hGi.out.trans (grew_nil (HKq.out.trans hk3))))
          have HZW := Lib.hid (zero_walk (c := cb) (hob.row (areB_wf HLV.out.2)))
          clear hk3 hob HMR HDv HKq
          go_wp2_with fail
          refine HZW.out.mono ?_
          rintro e w4 ⟨rfl, rfl⟩
          clear HZW
          cases hbz : zeroL B with
          | true =>
            have hbe : B = zsec := (zeroL_iff HLV.out.1).1 hbz
            have hd : d.dirty s i = false := by unfold Dk.dirty; rw [← HB.out, hbe]; simp
            have h2 := HD3.out
            rw [← scrub_same hd] at h2
            have HMn := Lib.hid h2
            have HAn : Hid (d.anyTo s i = d.anyTo s (i + 1)) := Lib.hid (by rw [anyTo_succ, hd, Bool.or_false])
            clear h2 hd hbz hbe HD3
            go_wp2_with fail
            go_roundw
            case rel => exact ⟨i + 1, Q', by simp, HAn.out ▸ rfl, by omega, by omega, Lib.hid HMn.out.1, Lib.hid HMn.out.2⟩
            case measure => first | (simp [intOf]; done) | (simp [intOf]; omega)
          | false =>
            have hd : d.dirty s i = true := by
              unfold Dk.dirty
              rw [← HB.out, HUI.out]
              have : (B != zsec) = true := by
                rw [bne_iff_ne]
                intro hh
                rw [(zeroL_iff HLV.out.1).2 hh] at hbz
                cases hbz
              rw [this]
              simp; omega
            have HDd := Lib.hid hd
            have hii2 : (i : Int) < n := hin2
            clear hd hbz
            go_wp2_with (at_make; refine wpl_make128 rfl _ _ 25 rfl 5 Tryd.underlying25 Tryd.infoU8z rfl rfl ?_)
            intro gz wz hgz hbzz hkz
            clear hgz
            have HW := refwrite_walk (HD3.out.1.keep0 hkz) HOKI.out (by omega) (i : Int) (cb := 128) (hbzz.row8 zsec_bytes zsec_len (by omega))
            rw [write_free (d := d.scrub s i) HOL.out.1 HOL.out.2 (by rw [scrub_len, ← HN.out]; exact hin) zsec_len, scrub_put (by rw [← HN.out]; exact hin) HDd.out] at HW
            have HWH := Lib.hid HW
            have HKZ := Lib.hid hkz
            clear HW hkz hbzz
            go_wp2_with fail
            refine HWH.out.mono ?_
            rintro e w5 ⟨R5, rfl, hM5, hG5⟩
            rw [HC0.out]
            have HMn := Lib.hid (And.intro hM5 (HD3.out.2.trans ((grew_nil HKZ.out).trans hG5)))
            have HAn : Hid (true = d.anyTo s (i + 1)) := Lib.hid (by rw [anyTo_succ, HDd.out, Bool.or_true])
            clear hM5 hG5 HD3 HWH HKZ
            go_wp2_with fail
            go_roundw
            case rel => exact ⟨i + 1, R5, by simp, HAn.out ▸ rfl, by omega, by omega, Lib.hid HMn.out.1, Lib.hid HMn.out.2⟩
            case measure => first | (simp [intOf]; done) | (simp [intOf]; omega)
    · obtain rfl : i = n := by omega
      have hin2 : ¬ (i : Int) < i := by omega
      have HSI := Lib.hid hsi
      have hgs : Q' g = 0 := by rw [hGi.out.same g HSX.out.lt]; exact HGQ.out
      have HGS := Lib.hid hgs
      clear c2 hsi hgs
      cases ha : d.anyTo s i with
      | false =>
        have hc : d.cleaned s = d := by unfold Dk.cleaned; rw [← HN.out, ha, if_neg (by simp)]
        have hsc : d.scrub s i = d := scrub_none i ha
        have HFI := Lib.hid (And.intro hDi.out (HGX.out.trans hGi.out))
        rw [hsc] at HFI
        have HCL := Lib.hid hc
        clear hc hsc ha
        go_wp2_with fail
        go_ret2
        exact ⟨g, Q', rfl, HSI.out, HGS.out, hgle, by rw [HCL.out]; exact HFI.out.1, HFI.out.2⟩
      | true =>
        have hc : d.cleaned s = (d.scrub s i).settle := by unfold Dk.cleaned; rw [← HN.out, ha, if_pos rfl]
        have HCL := Lib.hid hc
        have hsy := refsync_walk hDi.out (scrub_ok HOK.out s i) (by omega)
        have hsf : (d.scrub s i).sync = ((d.scrub s i).settle, none) := sync_free HOL.out.1 HOL.out.2
        rw [hsf] at hsy
        have HSY := Lib.hid hsy
        clear hc hsf hsy ha
        go_wp2_with fail
        refine HSY.out.mono ?_
        rintro e w5 ⟨rfl, hM5, hk5⟩
        rw [HC0.out]
        have HF := Lib.hid (And.intro hM5 (HGX.out.trans (hGi.out.trans (grew_of hk5))))
        have HS5 := Lib.hid (HSI.out.keep hk5 (wr_not HGS.out))
        clear hM5 hk5
        go_wp2_with fail
        go_ret2
        exact ⟨g, Q', rfl, HS5.out, HGS.out, hgle, by rw [HCL.out]; exact HF.out.1, HF.out.2⟩
end Go.Proofs.YtkefbgkdkmkghaaDoor
