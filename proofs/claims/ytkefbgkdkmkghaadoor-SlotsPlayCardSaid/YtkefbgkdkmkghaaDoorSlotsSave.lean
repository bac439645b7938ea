/-
  Slots: Save.
-/
import Derived.Test.YtkefbgkdkmkghaaDoorSlotsOpen
namespace Go.Proofs.YtkefbgkdkmkghaaDoor
set_option linter.unusedSimpArgs false
set_option linter.unusedVariables false
open Go.RowKit

theorem Tryd.sizeSlots : (Tryd.prog.info? 93).map (·.size) = some 4 := by kernel_rfl
/-- What Save leaves. -/
def SaveP (w0 w : World) (p g : Nat) (R : Roles) (pe : Nat → Addr) (r : Dk × Sv × Option Nat) (e : Ending) (w' : World) : Prop :=
  ∃ R', e = .returned (errO pe r.2.2) ∧ Mine w0 w' p R' r.1 ∧ SlAt w' g p r.2.1 ∧ R' g = 0 ∧ Keeps (fun k => Wr R k ∨ k = g) w w' ∧ ∀ k, k < w.heap.size → R' k = R k
theorem save_full {d : Dk} {s : Sv} {b : List Int} (h : d.room < b.length ∨ 4294967295 ≤ s.seq) : d.save s b = (d, s, some 6) := by unfold Dk.save; rw [if_pos h]
theorem save_e1 {d D1 : Dk} {s nx : Sv} {b : List Int} {k : Nat} (h : ¬ (d.room < b.length ∨ 4294967295 ≤ s.seq)) (h1 : d.puts (d.first nx.half) b = (D1, some k)) (hn : nx = nextSv s b.length) : d.save s b = (D1, s, some k) := by
  subst hn
  unfold Dk.save
  rw [if_neg h]
  simp only [h1]
  rfl
theorem save_e2 {d D1 D2 : Dk} {s nx : Sv} {b : List Int} {k : Nat} (h : ¬ (d.room < b.length ∨ 4294967295 ≤ s.seq)) (h1 : d.puts (d.first nx.half) b = (D1, none)) (hn : nx = nextSv s b.length) (h2 : D1.puts 0 (headL nx) = (D2, some k)) : d.save s b = (D2, s, some k) := by
  subst hn
  unfold Dk.save
  rw [if_neg h]
  simp only [h1, h2]
  rfl
theorem save_0 {d D1 D2 : Dk} {s nx : Sv} {b : List Int} (h : ¬ (d.room < b.length ∨ 4294967295 ≤ s.seq)) (h1 : d.puts (d.first nx.half) b = (D1, none)) (hn : nx = nextSv s b.length) (h2 : D1.puts 0 (headL nx) = (D2, none)) (h0 : s.many = 0) : d.save s b = (D2, nx, none) := by
  subst hn
  unfold Dk.save
  rw [if_neg h]
  simp only [h1, h2, h0]
  rfl
theorem save_3 {d D1 D2 D3 : Dk} {s nx : Sv} {b : List Int} {o : Option Nat} (h : ¬ (d.room < b.length ∨ 4294967295 ≤ s.seq)) (h1 : d.puts (d.first nx.half) b = (D1, none)) (hn : nx = nextSv s b.length) (h2 : D1.puts 0 (headL nx) = (D2, none)) (h0 : s.many ≠ 0) (h3 : D2.puts (d.first s.half) (List.replicate s.many 0) = (D3, o)) : d.save s b = (D3, nx, o) := by
  subst hn
  unfold Dk.save
  rw [if_neg h]
  simp only [h1, h2]
  rw [if_neg (by simp), if_neg (by simp), if_neg h0, h3]
theorem SaveP.mk' {w0 w wx w' : World} {p g : Nat} {R : Roles} {pe : Nat → Addr} {d : Dk} {s : Sv} {b : List Int} {r : Dk × Sv × Option Nat} {e : Ending} (h : d.save s b = r) (R1 : Roles) (he : e = .returned (errO pe r.2.2)) (hM : Mine w0 w' p R1 r.1) (hs : SlAt w' g p r.2.1) (hg : R1 g = 0) (hk : Keeps Nil w wx) (hG : Grew wx w' R R1) :
    SaveP w0 w p g R pe (d.save s b) e w' := by
  rw [h]
  exact ⟨R1, he, hM, hs, hg, (hk.nil.trans hG.keeps).mono (fun k h => .inl h), fun k hk' => hG.same k (Nat.lt_of_lt_of_le hk' hk.size)⟩
set_option maxRecDepth 20000 in
set_option maxHeartbeats 6400000 in
theorem save_walk {w0 w : World} {p g : Nat} {R : Roles} {d : Dk} {s : Sv} {pe : Nat → Addr} (hE : ErrS w0 pe) (hM : Mine w0 w p R d) (hs : SlAt w g p s) (hg : R g = 0) (hgw : w0.heap.size ≤ g) {m : Nat} (hok : d.Ok m) (hm1 : 1 ≤ m) (hm : m ≤ 90000) (h1 : 1 ≤ d.vs.length) (hh : s.half ≤ 1) (hmy : s.many ≤ d.room)
    {ab : Option Addr} {n cb : Nat} {b : List Int} (hb : Row .u8 w ab n b) (hnc : n ≤ cb) (hcx : cb ≤ 9223372036854775807) (hbR : 0 < n → ∀ k, blkOf ab k → R k = 0) :
    Calls Tryd.prog 37 #[.pointer (some ⟨g, 0, none⟩), .slice ab n cb] w (SaveP w0 w p g R pe (d.save s b)) := by
  have hl := hb.llen
  have h4 := hok.size
  have hro : d.room ≤ 25600 := by unfold Dk.room Dk.each; omega
  have HE := Lib.hid hE
  have HM := Lib.hid hM
  have HSL := Lib.hid hs
  have HG0 := Lib.hid hg
  have HOK := Lib.hid hok
  have HRB := Lib.hid hb
  have HBR := Lib.hid hbR
  have HBY := Lib.hid (wf_areB hb.wf)
  have HBL : Hid (b.length = n) := Lib.hid hl
  have HL := Lib.hid (And.intro h1 (And.intro h4 (And.intro hmy hro)))
  have HNO : Hid (errO pe none = .nilIface) := Lib.hid rfl
  have HRW := Lib.hid (room_walk hM.is hs h1 h4)
  obtain ⟨RM, hRM⟩ : ∃ RM, RM = d.room := ⟨_, rfl⟩
  rw [← hRM] at HRW
  have hRb : RM ≤ 25600 := by omega
  have HRM := Lib.hid hRM
  obtain ⟨sq, hsq⟩ : ∃ x, x = s.seq := ⟨_, rfl⟩
  have HSQ := Lib.hid hsq
  have c0 := Blk.cell hs 0 rfl
  have c1 := Blk.cell hs 1 rfl
  have c2s := Blk.cell hs 2 rfl
  rw [← hsq] at c1
  have hgl : w.cell? ⟨2, 0, none⟩ = some (errV pe 6) := (hE.keep hM.keeps).at_ 6 (by decide)
  clear hE hM hs hg hok hb hbR hl h1 h4 hmy hro hRM hsq
  go_enter Tryd.func37, Tryd.ntmps37
  go_wp2_with fail
  refine HRW.out.mono ?_
  rintro e w1 ⟨rfl, rfl⟩
  clear HRW
  by_cases hfu : RM < n
  · have hfi : (RM : Int) < n := by omega
    have HSV := Lib.hid (save_full (d := d) (s := s) (b := b) (.inl (by rw [HBL.out, ← HRM.out]; exact hfu)))
    go_wp2_with fail
    go_ret
    show SaveP w0 w p g R pe (d.save s b) _ _
    rw [HSV.out]
    exact ⟨R, rfl, HM.out, HSL.out, HG0.out, Keeps.refl _ _, fun _ _ => rfl⟩
  · have hfi : ¬ (RM : Int) < n := by omega
    by_cases hof : 4294967295 ≤ sq
    · have hoi : decide ((4294967295 : Int) ≤ sq) = true := decide_eq_true (by omega)
      have HSV := Lib.hid (save_full (d := d) (s := s) (b := b) (.inr (by rw [← HSQ.out]; exact hof)))
      go_wp2_with fail
      go_ret
      show SaveP w0 w p g R pe (d.save s b) _ _
      rw [HSV.out]
      exact ⟨R, rfl, HM.out, HSL.out, HG0.out, Keeps.refl _ _, fun _ _ => rfl⟩
    · have hoi : decide ((4294967295 : Int) ≤ sq) = false := decide_eq_false (by omega)
      have hwq : IntKind.i64.wrap ((sq : Int) + 1) = ((sq + 1 : Nat) : Int) := by rw [IntKind.wrap_i64]; omega
      go_upto_region 3 with fail
      refine wp_region_held_drew (S := fun w' => w'.cell? ⟨g, 0, none⟩ = some (.pointer (some ⟨p, 0, none⟩)) ∧ w'.cell? ⟨g, 1, none⟩ = some (.int .i64 sq)) (by kernel_rfl) ⟨c0, c1⟩ (fun hHeld => ?_)
      have hkd : Keeps Nil w w.drew := (Keeps.refl Nil w).drew
      have HKd := Lib.hid hkd
      have HH0 := Lib.hid hHeld
      clear hkd c0 c1 c2s hgl
      generalize w.drew = v0 at *
      refine takeL (i := 0) (v := _) rfl (by kernel_rfl) (by kernel_rfl) (by kernel_rfl) (fun _ _ _ h => h) (Or.inl ⟨by rfl, by intro w hSw; (try dsimp only at hSw); go_simp; try with_reducible rfl⟩) (by assumption) ?_
      try simp only [Act.put, List.setIfInBounds_toArray, List.set_cons_zero, List.set_cons_succ]
      refine takeL (i := 1) (v := _) rfl (by kernel_rfl) (by kernel_rfl) (by kernel_rfl) (fun _ _ _ h => h) (Or.inl ⟨by rfl, by intro w hSw; (try dsimp only at hSw); go_simp; try with_reducible rfl⟩) (by assumption) ?_
      try simp only [Act.put, List.setIfInBounds_toArray, List.set_cons_zero, List.set_cons_succ]
      refine takeL (i := 2) (v := _) rfl (by kernel_rfl) (by kernel_rfl) (by kernel_rfl) (fun _ _ _ h => h) (Or.inl ⟨by rfl, by intro w hSw; (try dsimp only at hSw); go_simp; try with_reducible rfl⟩) (by assumption) ?_
      try simp only [Act.put, List.setIfInBounds_toArray, List.set_cons_zero, List.set_cons_succ]
      refine takeL (i := 3) (v := _) rfl (by kernel_rfl) (by kernel_rfl) (by kernel_rfl) (fun _ _ _ h => h) (Or.inl ⟨by rfl, by intro w hSw; (try dsimp only at hSw); go_simp; try with_reducible rfl⟩) (by assumption) ?_
      try simp only [Act.put, List.setIfInBounds_toArray, List.set_cons_zero, List.set_cons_succ]
      refine takeL (i := 4) (v := _) rfl (by kernel_rfl) (by kernel_rfl) (by kernel_rfl) (fun _ _ _ h => h) (Or.inl ⟨by rfl, by intro w hSw; (try dsimp only at hSw); go_simp; try with_reducible rfl⟩) (by assumption) ?_
      try simp only [Act.put, List.setIfInBounds_toArray, List.set_cons_zero, List.set_cons_succ]
      refine takeL (i := 5) (v := _) rfl (by kernel_rfl) (by kernel_rfl) (by kernel_rfl) (fun _ _ _ h => h) (Or.inl ⟨by rfl, by intro w hSw; (try dsimp only at hSw); go_simp; try with_reducible rfl⟩) (by assumption) ?_
      try simp only [Act.put, List.setIfInBounds_toArray, List.set_cons_zero, List.set_cons_succ]
      refine takeL (i := 6) (v := _) rfl (by kernel_rfl) (by kernel_rfl) (by kernel_rfl) (fun _ _ _ h => h) (Or.inl ⟨by rfl, by intro w hSw; (try dsimp only at hSw); go_simp; try with_reducible rfl⟩) (by assumption) ?_
      try simp only [Act.put, List.setIfInBounds_toArray, List.set_cons_zero, List.set_cons_succ]
      refine takeL (i := 7) (v := _) rfl (by kernel_rfl) (by kernel_rfl) (by kernel_rfl) (fun _ _ _ h => h) (Or.inl ⟨by rfl, by intro w hSw; (try dsimp only at hSw); go_simp; try with_reducible rfl⟩) (by assumption) ?_
      try simp only [Act.put, List.setIfInBounds_toArray, List.set_cons_zero, List.set_cons_succ]
      refine takeL (i := 8) (v := _) rfl (by kernel_rfl) (by kernel_rfl) (by kernel_rfl) (fun _ _ _ h => h) (Or.inl ⟨by rfl, by intro w hSw; (try dsimp only at hSw); go_simp; try with_reducible rfl⟩) (by assumption) ?_
      try simp only [Act.put, List.setIfInBounds_toArray, List.set_cons_zero, List.set_cons_succ]
      refine takeL (i := 9) (v := _) rfl (by kernel_rfl) (by kernel_rfl) (by kernel_rfl) (fun _ _ _ h => h) (Or.inl ⟨by rfl, by intro w hSw; (try dsimp only at hSw); go_simp; try with_reducible rfl⟩) (by assumption) ?_
      try simp only [Act.put, List.setIfInBounds_toArray, List.set_cons_zero, List.set_cons_succ]
      refine takeL (i := 10) (v := _) rfl (by kernel_rfl) (by kernel_rfl) (by kernel_rfl) (fun _ _ _ h => h) (Or.inl ⟨by rfl, by intro w hSw; (try dsimp only at hSw); go_simp; try with_reducible rfl⟩) (by assumption) ?_
      try simp only [Act.put, List.setIfInBounds_toArray, List.set_cons_zero, List.set_cons_succ]
      refine takeL (i := 11) (v := _) rfl (by kernel_rfl) (by kernel_rfl) (by kernel_rfl) (fun _ _ _ h => h) (Or.inl ⟨by rfl, by intro w hSw; (try dsimp only at hSw); go_simp; try with_reducible rfl⟩) (by assumption) ?_
      try simp only [Act.put, List.setIfInBounds_toArray, List.set_cons_zero, List.set_cons_succ]
      refine onlyL (i := 12) rfl (by kernel_rfl) (fun K hK => ?_)
      go_simp
      have hSA : SlAt (v0.alloc (.cells #[.pointer (some ⟨p, 0, none⟩), .int .i64 ((sq : Int) + 1), .int .i64 0, .int .i64 (n : Int)] 93)) v0.heap.size p ⟨sq + 1, 0, n⟩ := by
        have := Blk.new v0 [.pointer (some ⟨p, 0, none⟩), .int .i64 ((sq : Int) + 1), .int .i64 0, .int .i64 (n : Int)] 93
        unfold SlAt
        rw [show (((⟨sq + 1, 0, n⟩ : Sv).seq : Nat) : Int) = (sq : Int) + 1 from by simp]
        exact this
      have hkA : Keeps Nil v0 (v0.alloc (.cells #[.pointer (some ⟨p, 0, none⟩), .int .i64 ((sq : Int) + 1), .int .i64 0, .int .i64 (n : Int)] 93)) := (Keeps.refl _ _).alloc _
      generalize v0.alloc (.cells #[.pointer (some ⟨p, 0, none⟩), .int .i64 ((sq : Int) + 1), .int .i64 0, .int .i64 (n : Int)] 93) = wA at *
      have hvg : w.heap.size ≤ v0.heap.size := HKd.out.size
      obtain ⟨gn, hgn⟩ : ∃ x, v0.heap.size = x := ⟨_, rfl⟩
      rw [hgn] at hSA hvg
      have HNA := Lib.hid hSA
      have HKA := Lib.hid (HKd.out.trans hkA)
      rw [hgn]
      clear hSA hgn
      refine (fun hHeld => hK _ _ hHeld ?_) (⟨hkA.cell HH0.out.1 (fun h => h), hkA.cell HH0.out.2 (fun h => h)⟩)
      clear hK
      try simp only [Act.put, List.setIfInBounds_toArray, List.set_cons_zero, List.set_cons_succ]
      refine takeL (i := 13) (v := _) rfl (by kernel_rfl) (by kernel_rfl) (by kernel_rfl) (fun _ _ _ h => h) (Or.inl ⟨by rfl, by intro w hSw; (try dsimp only at hSw); go_simp; try with_reducible rfl⟩) (by assumption) ?_
      try simp only [Act.put, List.setIfInBounds_toArray, List.set_cons_zero, List.set_cons_succ]
      refine wpAnyH_done (by kernel_rfl) ?_ _
      have hgnR : R gn = 0 := HM.out.later hvg
      have HGN := Lib.hid hgnR
      have hgng : gn ≠ g := by have := HSL.out.lt; omega
      have HSA := Lib.hid (HSL.out.keep HKA.out (fun h => h))
      have c1 := Blk.cell HSA.out 1 rfl
      rw [← HSQ.out] at c1
      have c2s := Blk.cell HSA.out 2 rfl
      have c2n := Blk.cell HNA.out 2 rfl
      have z2n := Blk.frozen HNA.out 2
      have HNF : Hid (¬ (d.room < b.length ∨ 4294967295 ≤ s.seq)) := Lib.hid (by rw [HBL.out, ← HRM.out, ← HSQ.out]; omega)
      clear hkA hgnR HH0 hHeld
      by_cases hq0 : sq = 0
      · obtain ⟨nx, hnx⟩ : ∃ x, x = nextSv s b.length := ⟨_, rfl⟩
        have hnx2 : nx = ⟨sq + 1, 0, n⟩ := by rw [hnx, HBL.out]; unfold nextSv; rw [← HSQ.out, if_neg (by omega)]
        have HNXE := Lib.hid hnx
        have hqd : decide (0 < (sq : Int)) = false := decide_eq_false (by omega)
        have HNX := Lib.hid (hnx2 ▸ HNA.out : SlAt wA gn p nx)
        have HKx := HKA
        have HNB : Hid (nx.seq ≤ 4294967295 ∧ nx.half ≤ 1 ∧ nx.many = n) := Lib.hid (by rw [hnx2]; exact ⟨by show sq + 1 ≤ _; omega, Nat.zero_le _, rfl⟩)
        clear hnx hnx2
        go_upto_region 6 with fail
        clear c1 c2s c2n z2n
        have HMx := Lib.hid (HM.out.nil HKx.out)
        have HSX := Lib.hid (HSL.out.keep HKx.out (fun h => h))
        have HRX := Lib.hid (HRB.out.keep HKx.out)
        have HNC : Hid (n ≤ cb ∧ cb ≤ 9223372036854775807 ∧ n ≤ 60000) := Lib.hid ⟨hnc, hcx, by omega⟩
        have HF1 : Hid (d.first nx.half ≤ 1000000) := Lib.hid (by have h1 := HL.out.2.1; have h2 := HNB.out.2.1; have he : d.each ≤ 200 := by unfold Dk.each; omega
                                                                  have := Nat.mul_le_mul h2 he; unfold Dk.first; omega)
        have hfx := first_walk (s := nx) HMx.out.is HNX.out HL.out.1 HL.out.2.1 nx.half (by have := HNB.out.2.1; omega)
        have HFX := Lib.hid hfx
        have c2 := Blk.cell HNX.out 2 rfl
        have hpw := puts_walk HE.out.e2 HMx.out HSX.out HG0.out HOK.out (by omega) (d.first nx.half) HF1.out (cb := cb) HRX.out HNC.out.1 HNC.out.2.1 HNC.out.2.2 HBR.out
        obtain ⟨D1, o1, hD1⟩ : ∃ D1 o1, d.puts (d.first nx.half) b = (D1, o1) := ⟨_, _, rfl⟩
        have HL1 : Hid (D1.vs.length = d.vs.length) := Lib.hid (by have := puts_len (d := d) (f := d.first nx.half) (b := b); rw [hD1] at this; exact this)
        have HO1 := Lib.hid (show D1.Ok (m + 500) from by
          have h := puts_ok HOK.out (by omega) (d.first nx.half) HBY.out
          rw [hD1, HBL.out] at h
          exact Dk.Ok.mono h (by have := HNC.out.2.2; unfold takesN; omega))
        have HK1 := Lib.hid (fun k (h : o1 = some k) => puts_lt (d := d) (f := d.first nx.half) (b := b) k (by rw [hD1]; exact h))
        rw [hD1] at hpw
        have HPW := Lib.hid hpw
        have HD1 := Lib.hid hD1
        clear hfx hpw hD1
        go_wp2_with fail
        refine HFX.out.mono ?_
        rintro e y1 ⟨rfl, rfl⟩
        clear HFX c2
        go_wp2_with fail
        refine HPW.out.mono ?_
        rintro e w1 ⟨R1, rfl, hM1, hG1⟩
        have HM1 := Lib.hid hM1
        have HG1 := Lib.hid hG1
        have HS1 := Lib.hid (HSX.out.keep hG1.keeps (wr_not HG0.out))
        have HN1 := Lib.hid (HNX.out.keep hG1.keeps (wr_not HGN.out))
        have HR1 := Lib.hid (show R1 g = 0 ∧ R1 gn = 0 from ⟨by rw [hG1.same g HSX.out.lt]; exact HG0.out, by rw [hG1.same gn HNX.out.lt]; exact HGN.out⟩)
        clear hM1 hG1 HPW
        cases o1 with
        | some k =>
          rw [show errO pe (some k) = .iface 114 (.pointer (some (pe k))) from rfl]
          have HSV := Lib.hid (save_e1 HNF.out HD1.out HNXE.out)
          go_wp2_with fail
          go_ret
          exact SaveP.mk' (r := (D1, s, some k)) HSV.out R1 rfl HM1.out HS1.out HR1.out.1 HKx.out HG1.out
        | none =>
          rw [HNO.out]
          go_wp2_with fail
          refine (head_walk HN1.out ⟨HNB.out.1, by have := HNB.out.2.1; omega, by have := HNB.out.2.2; have := HNC.out.2.2; omega⟩).mono ?_
          rintro e w2 ⟨gh, ch, rfl, hoh, hk2, hfh⟩
          have hM2 := HM1.out.nil hk2
          have HS2 := Lib.hid (HS1.out.keep hk2 (fun h => h))
          have HN2 := Lib.hid (HN1.out.keep hk2 (fun h => h))
          have hgh : R1 gh = 0 := HM1.out.later hfh
          have hch := hoh.2.1
          have hcx2 := hoh.2.2.1
          unfold maxLen at hcx2
          have HG2 := Lib.hid (HG1.out.trans (Grew.of_nil R1 hk2))
          have hpw := puts_walk HE.out.e2 hM2 HS2.out HR1.out.1 HO1.out (by omega) 0 (by omega) (cb := ch) (hoh.row (areB_wf (headL_bytes nx))) hch (by omega) (by omega) (fun _ k hk => by rw [(blkOf_some _ _ _ _).1 hk]; exact hgh)
          obtain ⟨D2, o2, hD2⟩ : ∃ D2 o2, D1.puts 0 (headL nx) = (D2, o2) := ⟨_, _, rfl⟩
          have HL2 : Hid (D2.vs.length = d.vs.length) := Lib.hid (by have := puts_len (d := D1) (f := 0) (b := headL nx); rw [hD2] at this; exact this.trans HL1.out)
          have HO2 := Lib.hid (show D2.Ok (m + 501) from by
            have h := puts_ok HO1.out (by omega) 0 (headL_bytes nx)
            rw [hD2, headL_len] at h
            exact Dk.Ok.mono h (by unfold takesN; omega))
          rw [hD2] at hpw
          have HPW := Lib.hid hpw
          have HD2 := Lib.hid hD2
          clear hpw hD2 hM2 hgh hoh hk2 hfh
          go_wp2_with fail
          refine HPW.out.mono ?_
          rintro e w3 ⟨R3, rfl, hM3, hG3⟩
          have HM3 := Lib.hid hM3
          have HG3 := Lib.hid (HG2.out.trans hG3)
          have HS3 := Lib.hid (HS2.out.keep hG3.keeps (wr_not HR1.out.1))
          have HN3 := Lib.hid (HN2.out.keep hG3.keeps (wr_not HR1.out.2))
          have HR3 := Lib.hid (show R3 g = 0 ∧ R3 gn = 0 from ⟨by rw [hG3.same g HS2.out.lt]; exact HR1.out.1, by rw [hG3.same gn HN2.out.lt]; exact HR1.out.2⟩)
          clear hM3 hG3 HPW
          cases o2 with
          | some k =>
            rw [show errO pe (some k) = .iface 114 (.pointer (some (pe k))) from rfl]
            have HSV := Lib.hid (save_e2 HNF.out HD1.out HNXE.out HD2.out)
            go_wp2_with fail
            go_ret
            exact SaveP.mk' (r := (D2, s, some k)) HSV.out R3 rfl HM3.out HS3.out HR3.out.1 HKx.out HG3.out
          | none =>
            rw [HNO.out]
            have c2 := Blk.cell HS3.out 2 rfl
            have c3 := Blk.cell HS3.out 3 rfl
            go_upto_region 12 with fail
            refine wp_region_held_drew (S := fun w' => w'.cell? ⟨g, 2, none⟩ = some (.int .i64 s.half) ∧ w'.cell? ⟨g, 3, none⟩ = some (.int .i64 s.many)) (by kernel_rfl) ⟨c2, c3⟩ (fun hHeld => ?_)
            have hkd : Keeps Nil w3 w3.drew := (Keeps.refl Nil w3).drew
            have HM4 := Lib.hid (HM3.out.nil hkd)
            have HG4 := Lib.hid (HG3.out.trans (Grew.of_nil R3 hkd))
            have HS4 := Lib.hid (HS3.out.keep hkd (fun h => h))
            have HN4 := Lib.hid (HN3.out.keep hkd (fun h => h))
            clear hkd c2 c3
            generalize w3.drew = w4 at *
            have HFS : Hid (D2.first s.half = d.first s.half) := Lib.hid (by unfold Dk.first Dk.each; rw [HL2.out])
            have HFW := Lib.hid (first_walk HM4.out.is HS4.out (by rw [HL2.out]; exact HL.out.1) (by rw [HL2.out]; exact HL.out.2.1) s.half (by omega))
            rw [HFS.out] at HFW
            refine takeL (i := 0) (v := _) rfl (by kernel_rfl) (by kernel_rfl) (by kernel_rfl) (fun _ _ _ h => h) (Or.inl ⟨by rfl, by intro w hSw; (try dsimp only at hSw); go_simp; try with_reducible rfl⟩) (by assumption) ?_
            try simp only [Act.put, List.setIfInBounds_toArray, List.set_cons_zero, List.set_cons_succ]
            refine takeL (i := 1) (v := _) rfl (by kernel_rfl) (by kernel_rfl) (by kernel_rfl) (fun _ _ _ h => h) (Or.inl ⟨by rfl, by intro w hSw; (try dsimp only at hSw); go_simp; try with_reducible rfl⟩) (by assumption) ?_
            try simp only [Act.put, List.setIfInBounds_toArray, List.set_cons_zero, List.set_cons_succ]
            refine takeL (i := 2) (v := _) rfl (by kernel_rfl) (by kernel_rfl) (by kernel_rfl) (fun _ _ _ h => h) (Or.inl ⟨by rfl, by intro w hSw; (try dsimp only at hSw); go_simp; try with_reducible rfl⟩) (by assumption) ?_
            try simp only [Act.put, List.setIfInBounds_toArray, List.set_cons_zero, List.set_cons_succ]
            refine takeL (i := 3) (v := _) rfl (by kernel_rfl) (by kernel_rfl) (by kernel_rfl) (fun _ _ _ h => h) (Or.inl ⟨by rfl, by intro w hSw; (try dsimp only at hSw); go_simp; try with_reducible rfl⟩) (by assumption) ?_
            try simp only [Act.put, List.setIfInBounds_toArray, List.set_cons_zero, List.set_cons_succ]
            refine takeL (i := 4) (v := _) rfl (by kernel_rfl) (by kernel_rfl) (by kernel_rfl) (fun _ _ _ h => h) (Or.inl ⟨by rfl, by intro w hSw; (try dsimp only at hSw); go_simp; try with_reducible rfl⟩) (by assumption) ?_
            try simp only [Act.put, List.setIfInBounds_toArray, List.set_cons_zero, List.set_cons_succ]
            refine takeL (i := 6) (v := _) rfl (by kernel_rfl) (by kernel_rfl) (by kernel_rfl) (fun _ _ _ h => h) (Or.inl ⟨by rfl, by intro w hSw; (try dsimp only at hSw); go_simp; try with_reducible rfl⟩) (by assumption) ?_
            try simp only [Act.put, List.setIfInBounds_toArray, List.set_cons_zero, List.set_cons_succ]
            refine takeL (i := 7) (v := _) rfl (by kernel_rfl) (by kernel_rfl) (by kernel_rfl) (fun _ _ _ h => h) (Or.inl ⟨by rfl, by intro w hSw; (try dsimp only at hSw); go_simp; try with_reducible rfl⟩) (by assumption) ?_
            try simp only [Act.put, List.setIfInBounds_toArray, List.set_cons_zero, List.set_cons_succ]
            refine takeL (i := 8) (v := _) rfl (by kernel_rfl) (by kernel_rfl) (by kernel_rfl) (fun _ _ _ h => h) (Or.inl ⟨by rfl, by intro w hSw; (try dsimp only at hSw); go_simp; try with_reducible rfl⟩) (by assumption) ?_
            try simp only [Act.put, List.setIfInBounds_toArray, List.set_cons_zero, List.set_cons_succ]
            refine takeL (i := 9) (v := _) rfl (by kernel_rfl) (by kernel_rfl) (by kernel_rfl) (fun _ _ _ h => h) (Or.inl ⟨by rfl, by intro w hSw; (try dsimp only at hSw); go_simp; try with_reducible rfl⟩) (by assumption) ?_
            try simp only [Act.put, List.setIfInBounds_toArray, List.set_cons_zero, List.set_cons_succ]
            refine onlyL (i := 5) rfl (by kernel_rfl) (fun K hK => ?_)
            go_simp
            refine HFW.out.mono ?_
            rintro e w5 ⟨rfl, rfl⟩
            refine (fun hHeld => hK _ _ hHeld ?_) (hHeld)
            clear hK
            try simp only [Act.put, List.setIfInBounds_toArray, List.set_cons_zero, List.set_cons_succ]
            refine takeL (i := 10) (v := _) rfl (by kernel_rfl) (by kernel_rfl) (by kernel_rfl) (fun _ _ _ h => h) (Or.inl ⟨by rfl, by intro w hSw; (try dsimp only at hSw); go_simp; try with_reducible rfl⟩) (by assumption) ?_
            try simp only [Act.put, List.setIfInBounds_toArray, List.set_cons_zero, List.set_cons_succ]
            refine takeL (i := 11) (v := _) rfl (by kernel_rfl) (by kernel_rfl) (by kernel_rfl) (fun _ _ _ h => h) (Or.inl ⟨by rfl, by intro w hSw; (try dsimp only at hSw); go_simp; try with_reducible rfl⟩) (by assumption) ?_
            try simp only [Act.put, List.setIfInBounds_toArray, List.set_cons_zero, List.set_cons_succ]
            refine wpAnyH_done (by kernel_rfl) ?_ _
            clear hHeld
            go_wp2_with (first | (refine wpl_load rfl 93 _ rfl gn rfl HN4.out _ Tryd.underlying93 rfl Tryd.sizeSlots ?_) | (refine wpl_store rfl 93 _ _ rfl g rfl _ rfl HS4.out rfl Tryd.sizeSlots (by simp [Value.oneCell']) ?_))
            intro w6 hS6 hk6 hz6
            clear hz6
            have HM6 := Lib.hid (HM4.out.other hk6 HR3.out.1 hgw)
            have HS6 := Lib.hid (show SlAt w6 g p nx from hS6)
            have HKW := Lib.hid (((HKx.out.nil.trans HG4.out.keeps).mono (fun k h => .inl h) : Keeps (fun k => Wr R k ∨ k = g) w w4).trans (hk6.mono (fun k h => .inr h)))
            have HSM := Lib.hid (show ∀ k, k < w.heap.size → R3 k = R k from fun k hk => HG4.out.same k (Nat.lt_of_lt_of_le hk HKx.out.size))
            clear hS6 hk6
            by_cases hm0 : s.many = 0
            · have HSV := Lib.hid (save_0 HNF.out HD1.out HNXE.out HD2.out hm0)
              have hm0i : (s.many : Int) = 0 := by omega
              rw [hm0i]
              clear hm0 hm0i
              go_wp2_with fail
              go_ret
              show SaveP w0 w p g R pe (d.save s b) _ _
              rw [HSV.out]
              exact ⟨R3, rfl, HM6.out, HS6.out, HR3.out.1, HKW.out, HSM.out⟩
            · have hmd : ((s.many : Int) == 0) = false := by simpa using hm0
              have HM0 := Lib.hid hm0
              have HMB := Lib.hid (show s.many ≤ 25600 from by have := HL.out; omega)
              obtain ⟨mn, hmn⟩ : ∃ x, x = s.many := ⟨_, rfl⟩
              have HMN := Lib.hid hmn
              obtain ⟨F0, hF0⟩ : ∃ x, x = d.first s.half := ⟨_, rfl⟩
              have HF0 := Lib.hid hF0
              have hFb : F0 ≤ 1000000 := by
                have h1 := HL.out.2.1; have he : d.each ≤ 200 := by unfold Dk.each; omega
                have := Nat.mul_le_mul hh he; rw [hF0]; unfold Dk.first; omega
              have hmb : mn ≤ 25600 := by rw [hmn]; exact HMB.out
              rw [← hmn] at hmd ⊢
              rw [← hF0]
              clear hm0 hmn hF0
              go_wp2_with (at_make; refine wpl_make rfl _ _ 25 rfl 5 (.int .u8 0) 1 Tryd.underlying25 Tryd.info8 rfl .i64 .i64 mn mn _ _ rfl rfl rfl rfl (by omega) (by omega) (by unfold maxLen; omega) ?_)
              intro w7 hoz _ hk7
              obtain ⟨gz, hgz⟩ : ∃ x, w6.heap.size = x := ⟨_, rfl⟩
              have hgzf : w6.heap.size ≤ gz := by omega
              rw [hgz] at hoz ⊢
              have hgz0 : R3 gz = 0 := HM6.out.later hgzf
              clear hgz hgzf
              have hoz2 : Own w7 5 1 (some ⟨gz, 0, none⟩) mn mn (byteV (List.replicate mn 0)) := by
                unfold byteV
                rw [List.map_replicate]
                exact hoz
              have hzb : AreB (List.replicate mn 0) := fun x hx => by rw [List.eq_of_mem_replicate hx]; omega
              have hM7 := HM6.out.nil hk7
              have HS7 := Lib.hid (HS6.out.keep hk7 (fun h => h))
              have hpw := puts_walk HE.out.e2 hM7 HS7.out HR3.out.1 HO2.out (by omega) F0 hFb (cb := mn) (hoz2.row (areB_wf hzb)) (Nat.le_refl _) (by omega) (by omega) (fun _ k hk => by rw [(blkOf_some _ _ _ _).1 hk]; exact hgz0)
              obtain ⟨D3, o3, hD3⟩ : ∃ D3 o3, D2.puts F0 (List.replicate mn 0) = (D3, o3) := ⟨_, _, rfl⟩
              rw [hD3] at hpw
              have HPW := Lib.hid hpw
              have HSV : Hid (d.save s b = (D3, nx, o3)) := Lib.hid (save_3 HNF.out HD1.out HNXE.out HD2.out HM0.out (by rw [← HF0.out, ← HMN.out]; exact hD3))
              have HK7 := Lib.hid (HKW.out.trans hk7.nil)
              clear hpw hD3 hM7 hoz hoz2 hgz0 hk7 hzb
              go_wp2_with fail
              refine HPW.out.mono ?_
              rintro e w8 ⟨R8, rfl, hM8, hG8⟩
              have HF := Lib.hid (show SaveP w0 w p g R pe (d.save s b) (.returned (errO pe o3)) w8 from by
                rw [HSV.out]
                refine ⟨R8, rfl, hM8, HS7.out.keep hG8.keeps (wr_not HR3.out.1), by rw [hG8.same g HS7.out.lt]; exact HR3.out.1, ?_, fun k hk => ?_⟩
                · exact HK7.out.step hG8.keeps (fun k hk => by
                    rcases Nat.lt_or_ge k w.heap.size with h | h
                    · refine .inl (.inl ?_)
                      have := HSM.out k h
                      unfold Wr at hk ⊢
                      omega
                    · exact .inr h)
                · rw [hG8.same k (Nat.lt_of_lt_of_le hk HK7.out.size)]
                  exact HSM.out k hk)
              clear hM8 hG8
              generalize errO pe o3 = vo at *
              go_wp2_with fail
              go_ret
              exact HF.out
      · obtain ⟨nx, hnx⟩ : ∃ x, x = nextSv s b.length := ⟨_, rfl⟩
        have hnx2 : nx = ⟨sq + 1, 1 - s.half, n⟩ := by rw [hnx, HBL.out]; unfold nextSv; rw [← HSQ.out, if_pos (by omega)]
        have HNXE := Lib.hid hnx
        have hqd : decide (0 < (sq : Int)) = true := decide_eq_true (by omega)
        have hhi : ((1 - s.half : Nat) : Int) = 1 - (s.half : Int) := by omega
        have HNB : Hid (nx.seq ≤ 4294967295 ∧ nx.half ≤ 1 ∧ nx.many = n) := Lib.hid (by rw [hnx2]; exact ⟨by show sq + 1 ≤ _; omega, by show 1 - s.half ≤ 1; omega, rfl⟩)
        have HNA2 := Lib.hid (show SlAt (wA.setCell ⟨gn, 2, none⟩ (.int .i64 (1 - (s.half : Int)))) gn p nx from by
          have := HNA.out.set 2 (.int .i64 (1 - (s.half : Int)))
          rw [hnx2]
          unfold SlAt
          rw [show (((⟨sq + 1, 1 - s.half, n⟩ : Sv).half : Nat) : Int) = 1 - (s.half : Int) from hhi]
          exact this)
        have HKA2 : Hid (Keeps Nil w (wA.setCell ⟨gn, 2, none⟩ (.int .i64 (1 - (s.half : Int))))) := Lib.hid (HKA.out.setCell (.inr hvg) _)
        clear hnx hnx2 hhi
        go_upto_region 6 with fail
        clear c1 c2s c2n z2n
        generalize wA.setCell ⟨gn, 2, none⟩ (.int .i64 (1 - (s.half : Int))) = wB at *
        have HNX := HNA2
        have HKx := HKA2
        have HMx := Lib.hid (HM.out.nil HKx.out)
        have HSX := Lib.hid (HSL.out.keep HKx.out (fun h => h))
        have HRX := Lib.hid (HRB.out.keep HKx.out)
        have HNC : Hid (n ≤ cb ∧ cb ≤ 9223372036854775807 ∧ n ≤ 60000) := Lib.hid ⟨hnc, hcx, by omega⟩
        have HF1 : Hid (d.first nx.half ≤ 1000000) := Lib.hid (by have h1 := HL.out.2.1; have h2 := HNB.out.2.1; have he : d.each ≤ 200 := by unfold Dk.each; omega
                                                                  have := Nat.mul_le_mul h2 he; unfold Dk.first; omega)
        have hfx := first_walk (s := nx) HMx.out.is HNX.out HL.out.1 HL.out.2.1 nx.half (by have := HNB.out.2.1; omega)
        have HFX := Lib.hid hfx
        have c2 := Blk.cell HNX.out 2 rfl
        have hpw := puts_walk HE.out.e2 HMx.out HSX.out HG0.out HOK.out (by omega) (d.first nx.half) HF1.out (cb := cb) HRX.out HNC.out.1 HNC.out.2.1 HNC.out.2.2 HBR.out
        obtain ⟨D1, o1, hD1⟩ : ∃ D1 o1, d.puts (d.first nx.half) b = (D1, o1) := ⟨_, _, rfl⟩
        have HL1 : Hid (D1.vs.length = d.vs.length) := Lib.hid (by have := puts_len (d := d) (f := d.first nx.half) (b := b); rw [hD1] at this; exact this)
        have HO1 := Lib.hid (show D1.Ok (m + 500) from by
          have h := puts_ok HOK.out (by omega) (d.first nx.half) HBY.out
          rw [hD1, HBL.out] at h
          exact Dk.Ok.mono h (by have := HNC.out.2.2; unfold takesN; omega))
        have HK1 := Lib.hid (fun k (h : o1 = some k) => puts_lt (d := d) (f := d.first nx.half) (b := b) k (by rw [hD1]; exact h))
        rw [hD1] at hpw
        have HPW := Lib.hid hpw
        have HD1 := Lib.hid hD1
        clear hfx hpw hD1
        go_wp2_with fail
        refine HFX.out.mono ?_
        rintro e y1 ⟨rfl, rfl⟩
        clear HFX c2
        go_wp2_with fail
        refine HPW.out.mono ?_
        rintro e w1 ⟨R1, rfl, hM1, hG1⟩
        have HM1 := Lib.hid hM1
        have HG1 := Lib.hid hG1
        have HS1 := Lib.hid (HSX.out.keep hG1.keeps (wr_not HG0.out))
        have HN1 := Lib.hid (HNX.out.keep hG1.keeps (wr_not HGN.out))
        have HR1 := Lib.hid (show R1 g = 0 ∧ R1 gn = 0 from ⟨by rw [hG1.same g HSX.out.lt]; exact HG0.out, by rw [hG1.same gn HNX.out.lt]; exact HGN.out⟩)
        clear hM1 hG1 HPW
        cases o1 with
        | some k =>
          rw [show errO pe (some k) = .iface 114 (.pointer (some (pe k))) from rfl]
          have HSV := Lib.hid (save_e1 HNF.out HD1.out HNXE.out)
          go_wp2_with fail
          go_ret
          exact SaveP.mk' (r := (D1, s, some k)) HSV.out R1 rfl HM1.out HS1.out HR1.out.1 HKx.out HG1.out
        | none =>
          rw [HNO.out]
          go_wp2_with fail
          refine (head_walk HN1.out ⟨HNB.out.1, by have := HNB.out.2.1; omega, by have := HNB.out.2.2; have := HNC.out.2.2; omega⟩).mono ?_
          rintro e w2 ⟨gh, ch, rfl, hoh, hk2, hfh⟩
          have hM2 := HM1.out.nil hk2
          have HS2 := Lib.hid (HS1.out.keep hk2 (fun h => h))
          have HN2 := Lib.hid (HN1.out.keep hk2 (fun h => h))
          have hgh : R1 gh = 0 := HM1.out.later hfh
          have hch := hoh.2.1
          have hcx2 := hoh.2.2.1
          unfold maxLen at hcx2
          have HG2 := Lib.hid (HG1.out.trans (Grew.of_nil R1 hk2))
          have hpw := puts_walk HE.out.e2 hM2 HS2.out HR1.out.1 HO1.out (by omega) 0 (by omega) (cb := ch) (hoh.row (areB_wf (headL_bytes nx))) hch (by omega) (by omega) (fun _ k hk => by rw [(blkOf_some _ _ _ _).1 hk]; exact hgh)
          obtain ⟨D2, o2, hD2⟩ : ∃ D2 o2, D1.puts 0 (headL nx) = (D2, o2) := ⟨_, _, rfl⟩
          have HL2 : Hid (D2.vs.length = d.vs.length) := Lib.hid (by have := puts_len (d := D1) (f := 0) (b := headL nx); rw [hD2] at this; exact this.trans HL1.out)
          have HO2 := Lib.hid (show D2.Ok (m + 501) from by
            have h := puts_ok HO1.out (by omega) 0 (headL_bytes nx)
            rw [hD2, headL_len] at h
            exact Dk.Ok.mono h (by unfold takesN; omega))
          rw [hD2] at hpw
          have HPW := Lib.hid hpw
          have HD2 := Lib.hid hD2
          clear hpw hD2 hM2 hgh hoh hk2 hfh
          go_wp2_with fail
          refine HPW.out.mono ?_
          rintro e w3 ⟨R3, rfl, hM3, hG3⟩
          have HM3 := Lib.hid hM3
          have HG3 := Lib.hid (HG2.out.trans hG3)
          have HS3 := Lib.hid (HS2.out.keep hG3.keeps (wr_not HR1.out.1))
          have HN3 := Lib.hid (HN2.out.keep hG3.keeps (wr_not HR1.out.2))
          have HR3 := Lib.hid (show R3 g = 0 ∧ R3 gn = 0 from ⟨by rw [hG3.same g HS2.out.lt]; exact HR1.out.1, by rw [hG3.same gn HN2.out.lt]; exact HR1.out.2⟩)
          clear hM3 hG3 HPW
          cases o2 with
          | some k =>
            rw [show errO pe (some k) = .iface 114 (.pointer (some (pe k))) from rfl]
            have HSV := Lib.hid (save_e2 HNF.out HD1.out HNXE.out HD2.out)
            go_wp2_with fail
            go_ret
            exact SaveP.mk' (r := (D2, s, some k)) HSV.out R3 rfl HM3.out HS3.out HR3.out.1 HKx.out HG3.out
          | none =>
            rw [HNO.out]
            have c2 := Blk.cell HS3.out 2 rfl
            have c3 := Blk.cell HS3.out 3 rfl
            go_upto_region 12 with fail
            refine wp_region_held_drew (S := fun w' => w'.cell? ⟨g, 2, none⟩ = some (.int .i64 s.half) ∧ w'.cell? ⟨g, 3, none⟩ = some (.int .i64 s.many)) (by kernel_rfl) ⟨c2, c3⟩ (fun hHeld => ?_)
            have hkd : Keeps Nil w3 w3.drew := (Keeps.refl Nil w3).drew
            have HM4 := Lib.hid (HM3.out.nil hkd)
            have HG4 := Lib.hid (HG3.out.trans (Grew.of_nil R3 hkd))
            have HS4 := Lib.hid (HS3.out.keep hkd (fun h => h))
            have HN4 := Lib.hid (HN3.out.keep hkd (fun h => h))
            clear hkd c2 c3
            generalize w3.drew = w4 at *
            have HFS : Hid (D2.first s.half = d.first s.half) := Lib.hid (by unfold Dk.first Dk.each; rw [HL2.out])
            have HFW := Lib.hid (first_walk HM4.out.is HS4.out (by rw [HL2.out]; exact HL.out.1) (by rw [HL2.out]; exact HL.out.2.1) s.half (by omega))
            rw [HFS.out] at HFW
            refine takeL (i := 0) (v := _) rfl (by kernel_rfl) (by kernel_rfl) (by kernel_rfl) (fun _ _ _ h => h) (Or.inl ⟨by rfl, by intro w hSw; (try dsimp only at hSw); go_simp; try with_reducible rfl⟩) (by assumption) ?_
            try simp only [Act.put, List.setIfInBounds_toArray, List.set_cons_zero, List.set_cons_succ]
            refine takeL (i := 1) (v := _) rfl (by kernel_rfl) (by kernel_rfl) (by kernel_rfl) (fun _ _ _ h => h) (Or.inl ⟨by rfl, by intro w hSw; (try dsimp only at hSw); go_simp; try with_reducible rfl⟩) (by assumption) ?_
            try simp only [Act.put, List.setIfInBounds_toArray, List.set_cons_zero, List.set_cons_succ]
            refine takeL (i := 2) (v := _) rfl (by kernel_rfl) (by kernel_rfl) (by kernel_rfl) (fun _ _ _ h => h) (Or.inl ⟨by rfl, by intro w hSw; (try dsimp only at hSw); go_simp; try with_reducible rfl⟩) (by assumption) ?_
            try simp only [Act.put, List.setIfInBounds_toArray, List.set_cons_zero, List.set_cons_succ]
            refine takeL (i := 3) (v := _) rfl (by kernel_rfl) (by kernel_rfl) (by kernel_rfl) (fun _ _ _ h => h) (Or.inl ⟨by rfl, by intro w hSw; (try dsimp only at hSw); go_simp; try with_reducible rfl⟩) (by assumption) ?_
            try simp only [Act.put, List.setIfInBounds_toArray, List.set_cons_zero, List.set_cons_succ]
            refine takeL (i := 4) (v := _) rfl (by kernel_rfl) (by kernel_rfl) (by kernel_rfl) (fun _ _ _ h => h) (Or.inl ⟨by rfl, by intro w hSw; (try dsimp only at hSw); go_simp; try with_reducible rfl⟩) (by assumption) ?_
            try simp only [Act.put, List.setIfInBounds_toArray, List.set_cons_zero, List.set_cons_succ]
            refine takeL (i := 6) (v := _) rfl (by kernel_rfl) (by kernel_rfl) (by kernel_rfl) (fun _ _ _ h => h) (Or.inl ⟨by rfl, by intro w hSw; (try dsimp only at hSw); go_simp; try with_reducible rfl⟩) (by assumption) ?_
            try simp only [Act.put, List.setIfInBounds_toArray, List.set_cons_zero, List.set_cons_succ]
            refine takeL (i := 7) (v := _) rfl (by kernel_rfl) (by kernel_rfl) (by kernel_rfl) (fun _ _ _ h => h) (Or.inl ⟨by rfl, by intro w hSw; (try dsimp only at hSw); go_simp; try with_reducible rfl⟩) (by assumption) ?_
            try simp only [Act.put, List.setIfInBounds_toArray, List.set_cons_zero, List.set_cons_succ]
            refine takeL (i := 8) (v := _) rfl (by kernel_rfl) (by kernel_rfl) (by kernel_rfl) (fun _ _ _ h => h) (Or.inl ⟨by rfl, by intro w hSw; (try dsimp only at hSw); go_simp; try with_reducible rfl⟩) (by assumption) ?_
            try simp only [Act.put, List.setIfInBounds_toArray, List.set_cons_zero, List.set_cons_succ]
            refine takeL (i := 9) (v := _) rfl (by kernel_rfl) (by kernel_rfl) (by kernel_rfl) (fun _ _ _ h => h) (Or.inl ⟨by rfl, by intro w hSw; (try dsimp only at hSw); go_simp; try with_reducible rfl⟩) (by assumption) ?_
            try simp only [Act.put, List.setIfInBounds_toArray, List.set_cons_zero, List.set_cons_succ]
            refine onlyL (i := 5) rfl (by kernel_rfl) (fun K hK => ?_)
            go_simp
            refine HFW.out.mono ?_
            rintro e w5 ⟨rfl, rfl⟩
            refine (fun hHeld => hK _ _ hHeld ?_) (hHeld)
            clear hK
            try simp only [Act.put, List.setIfInBounds_toArray, List.set_cons_zero, List.set_cons_succ]
            refine takeL (i := 10) (v := _) rfl (by kernel_rfl) (by kernel_rfl) (by kernel_rfl) (fun _ _ _ h => h) (Or.inl ⟨by rfl, by intro w hSw; (try dsimp only at hSw); go_simp; try with_reducible rfl⟩) (by assumption) ?_
            try simp only [Act.put, List.setIfInBounds_toArray, List.set_cons_zero, List.set_cons_succ]
            refine takeL (i := 11) (v := _) rfl (by kernel_rfl) (by kernel_rfl) (by kernel_rfl) (fun _ _ _ h => h) (Or.inl ⟨by rfl, by intro w hSw; (try dsimp only at hSw); go_simp; try with_reducible rfl⟩) (by assumption) ?_
            try simp only [Act.put, List.setIfInBounds_toArray, List.set_cons_zero, List.set_cons_succ]
            refine wpAnyH_done (by kernel_rfl) ?_ _
            clear hHeld
            go_wp2_with (first | (refine wpl_load rfl 93 _ rfl gn rfl HN4.out _ Tryd.underlying93 rfl Tryd.sizeSlots ?_) | (refine wpl_store rfl 93 _ _ rfl g rfl _ rfl HS4.out rfl Tryd.sizeSlots (by simp [Value.oneCell']) ?_))
            intro w6 hS6 hk6 hz6
            clear hz6
            have HM6 := Lib.hid (HM4.out.other hk6 HR3.out.1 hgw)
            have HS6 := Lib.hid (show SlAt w6 g p nx from hS6)
            have HKW := Lib.hid (((HKx.out.nil.trans HG4.out.keeps).mono (fun k h => .inl h) : Keeps (fun k => Wr R k ∨ k = g) w w4).trans (hk6.mono (fun k h => .inr h)))
            have HSM := Lib.hid (show ∀ k, k < w.heap.size → R3 k = R k from fun k hk => HG4.out.same k (Nat.lt_of_lt_of_le hk HKx.out.size))
            clear hS6 hk6
            by_cases hm0 : s.many = 0
            · have HSV := Lib.hid (save_0 HNF.out HD1.out HNXE.out HD2.out hm0)
              have hm0i : (s.many : Int) = 0 := by omega
              rw [hm0i]
              clear hm0 hm0i
              go_wp2_with fail
              go_ret
              show SaveP w0 w p g R pe (d.save s b) _ _
              rw [HSV.out]
              exact ⟨R3, rfl, HM6.out, HS6.out, HR3.out.1, HKW.out, HSM.out⟩
            · have hmd : ((s.many : Int) == 0) = false := by simpa using hm0
              have HM0 := Lib.hid hm0
              have HMB := Lib.hid (show s.many ≤ 25600 from by have := HL.out; omega)
              obtain ⟨mn, hmn⟩ : ∃ x, x = s.many := ⟨_, rfl⟩
              have HMN := Lib.hid hmn
              obtain ⟨F0, hF0⟩ : ∃ x, x = d.first s.half := ⟨_, rfl⟩
              have HF0 := Lib.hid hF0
              have hFb : F0 ≤ 1000000 := by
                have h1 := HL.out.2.1; have he : d.each ≤ 200 := by unfold Dk.each; omega
                have := Nat.mul_le_mul hh he; rw [hF0]; unfold Dk.first; omega
              have hmb : mn ≤ 25600 := by rw [hmn]; exact HMB.out
              rw [← hmn] at hmd ⊢
              rw [← hF0]
              clear hm0 hmn hF0
              go_wp2_with (at_make; refine wpl_make rfl _ _ 25 rfl 5 (.int .u8 0) 1 Tryd.underlying25 Tryd.info8 rfl .i64 .i64 mn mn _ _ rfl rfl rfl rfl (by omega) (by omega) (by unfold maxLen; omega) ?_)
              intro w7 hoz _ hk7
              obtain ⟨gz, hgz⟩ : ∃ x, w6.heap.size = x := ⟨_, rfl⟩
              have hgzf : w6.heap.size ≤ gz := by omega
              rw [hgz] at hoz ⊢
              have hgz0 : R3 gz = 0 := HM6.out.later hgzf
              clear hgz hgzf
              have hoz2 : Own w7 5 1 (some ⟨gz, 0, none⟩) mn mn (byteV (List.replicate mn 0)) := by
                unfold byteV
                rw [List.map_replicate]
                exact hoz
              have hzb : AreB (List.replicate mn 0) := fun x hx => by rw [List.eq_of_mem_replicate hx]; omega
              have hM7 := HM6.out.nil hk7
              have HS7 := Lib.hid (HS6.out.keep hk7 (fun h => h))
              have hpw := puts_walk HE.out.e2 hM7 HS7.out HR3.out.1 HO2.out (by omega) F0 hFb (cb := mn) (hoz2.row (areB_wf hzb)) (Nat.le_refl _) (by omega) (by omega) (fun _ k hk => by rw [(blkOf_some _ _ _ _).1 hk]; exact hgz0)
              obtain ⟨D3, o3, hD3⟩ : ∃ D3 o3, D2.puts F0 (List.replicate mn 0) = (D3, o3) := ⟨_, _, rfl⟩
              rw [hD3] at hpw
              have HPW := Lib.hid hpw
              have HSV : Hid (d.save s b = (D3, nx, o3)) := Lib.hid (save_3 HNF.out HD1.out HNXE.out HD2.out HM0.out (by rw [← HF0.out, ← HMN.out]; exact hD3))
              have HK7 := Lib.hid (HKW.out.trans hk7.nil)
              clear hpw hD3 hM7 hoz hoz2 hgz0 hk7 hzb
              go_wp2_with fail
              refine HPW.out.mono ?_
              rintro e w8 ⟨R8, rfl, hM8, hG8⟩
              have HF := Lib.hid (show SaveP w0 w p g R pe (d.save s b) (.returned (errO pe o3)) w8 from by
                rw [HSV.out]
                refine ⟨R8, rfl, hM8, HS7.out.keep hG8.keeps (wr_not HR3.out.1), by rw [hG8.same g HS7.out.lt]; exact HR3.out.1, ?_, fun k hk => ?_⟩
                · exact HK7.out.step hG8.keeps (fun k hk => by
                    rcases Nat.lt_or_ge k w.heap.size with h | h
                    · refine .inl (.inl ?_)
                      have := HSM.out k h
                      unfold Wr at hk ⊢
                      omega
                    · exact .inr h)
                · rw [hG8.same k (Nat.lt_of_lt_of_le hk HK7.out.size)]
                  exact HSM.out k hk)
              clear hM8 hG8
              generalize errO pe o3 = vo at *
              go_wp2_with fail
              go_ret
              exact HF.out
end Go.Proofs.YtkefbgkdkmkghaaDoor
