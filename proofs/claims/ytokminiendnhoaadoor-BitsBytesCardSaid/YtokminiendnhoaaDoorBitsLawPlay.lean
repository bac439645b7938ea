/-
  The law BitsPlay's walk.
-/
import Derived.Test.YtokminiendnhoaaDoorBitsLawOf
namespace Go.Proofs.YtokminiendnhoaaDoor
open Go.RowKit

/-- Whether Set sets, and what is left. -/
def setR (n : Nat) (bs : List Int) (i : Int) : Bool := decide (0 ≤ i ∧ i < (n : Int) ∧ hasI n bs i = false)
def setN (n : Nat) (bs : List Int) (i : Int) : List Int := if 0 ≤ i ∧ i < (n : Int) ∧ hasI n bs i = false then setB bs i.toNat else bs
def SetTot (w : World) (g : Nat) (a : Option Addr) (cap n : Nat) (bs : List Int) (i : Int) (e : Ending) (w' : World) : Prop :=
  e = .returned (.bool (setR n bs i)) ∧ IsMap w' g a cap n (setN n bs i) ∧ Keeps (blkOf a) w w'
theorem set_tot {g cap n : Nat} {a : Option Addr} {bs : List Int} (i : Int) (w : World) (h : IsMap w g a cap n bs) (h1 : -9223372036854775808 ≤ i) (h2 : i ≤ 9223372036854775807) :
    Calls Tryd.prog 15 #[.pointer (some ⟨g, 0, none⟩), .int .i64 i] w (SetTot w g a cap n bs i) := by
  unfold SetTot setR setN
  by_cases hy : 0 ≤ i ∧ i < (n : Int) ∧ hasI n bs i = false
  · obtain ⟨y1, y2, y3⟩ := hy
    obtain ⟨k, rfl⟩ := Int.eq_ofNat_of_zero_le y1
    refine (set_yes k w h (by omega) y3).mono ?_
    rintro e w' ⟨rfl, hm, hk⟩
    have hh : (0 : Int) ≤ (k : Int) ∧ (k : Int) < (n : Int) ∧ hasI n bs (k : Int) = false := ⟨y1, y2, y3⟩
    rw [if_pos hh, decide_eq_true hh]
    exact ⟨rfl, hm, hk⟩
  · rw [if_neg hy, decide_eq_false hy]
    refine (set_no i w h h1 h2 ?_).mono ?_
    · by_cases y1 : i < 0
      · exact .inl y1
      · by_cases y2 : (n : Int) ≤ i
        · exact .inr (.inl y2)
        · refine .inr (.inr ?_)
          cases hb : hasI n bs i
          · exact absurd ⟨by omega, by omega, hb⟩ hy
          · rfl
    · rintro e w' ⟨rfl, rfl⟩
      exact ⟨rfl, h, Keeps.refl _ _⟩
def RefTot (w : World) (g b n : Nat) (bs : List Int) (i : Int) (e : Ending) (w' : World) : Prop :=
  e = .returned (.bool (setR n bs i)) ∧ IsRef w' g b n (setN n bs i) ∧ Keeps (One b) w w'
theorem refSet_tot {g b n : Nat} {bs : List Int} (i : Int) (w : World) (h : IsRef w g b n bs) :
    Calls Tryd.prog 20 #[.pointer (some ⟨g, 0, none⟩), .int .i64 i] w (RefTot w g b n bs i) := by
  unfold RefTot setR setN
  by_cases hy : 0 ≤ i ∧ i < (n : Int) ∧ hasI n bs i = false
  · obtain ⟨y1, y2, y3⟩ := hy
    obtain ⟨k, rfl⟩ := Int.eq_ofNat_of_zero_le y1
    refine (refSet_yes k w h (by omega) y3).mono ?_
    rintro e w' ⟨rfl, hm, hk⟩
    have hh : (0 : Int) ≤ (k : Int) ∧ (k : Int) < (n : Int) ∧ hasI n bs (k : Int) = false := ⟨y1, y2, y3⟩
    rw [if_pos hh, decide_eq_true hh]
    exact ⟨rfl, hm, hk⟩
  · rw [if_neg hy, decide_eq_false hy]
    refine (refSet_no i w h ?_).mono ?_
    · by_cases y1 : i < 0
      · exact .inl y1
      · by_cases y2 : (n : Int) ≤ i
        · exact .inr (.inl y2)
        · refine .inr (.inr ?_)
          cases hb : hasI n bs i
          · exact absurd ⟨by omega, by omega, hb⟩ hy
          · rfl
    · rintro e w' ⟨rfl, rfl⟩
      exact ⟨rfl, h, Keeps.refl _ _⟩
theorem setN_clean {n : Nat} {bs : List Int} (i : Int) (h : Clean n bs) (hl : bs.length = bytesOf n) (hw : ∀ x ∈ bs, 0 ≤ x ∧ x < 256) : Clean n (setN n bs i) := by
  unfold setN
  split
  · rename_i hy
    refine h.set ?_ hw (by omega)
    unfold bytesOf at hl
    omega
  · exact h

set_option maxRecDepth 100000 in
set_option maxHeartbeats 4000000 in
theorem bitsPlay_walk (a0 : Int) (a1 : Option Addr) (len1 cap1 : Nat) (z1 : List Int) (a2 : Int) (w : World) (w0 : (Lit.int .i64 a0).wf = true) (w1 : IsRow .i64 w a1 len1 cap1 z1) (w2 : (Lit.int .i64 a2).wf = true) :
    Calls Tryd.prog 5 #[.int .i64 a0, .slice a1 len1 cap1, .int .i64 a2] w (True_ w) := by
  have hr0 := i64_wf w0
  have hr2 := i64_wf w2
  have hrow := Row.of_isRow w1
  have hmost := hrow.most
  clear w1
  generalize z1.take len1 = zs at *
  go_enter Tryd.func5, Tryd.ntmps5
  go_wp2_with fail
  refine (bitsfirst_walk _).mono ?_
  rintro e wa ⟨rfl, hka⟩
  by_cases hlen : 60 < len1
  · go_wp2_with fail
    go_ret
    exact ⟨rfl, hka⟩
  by_cases hand : 0 < bits .and .i64 a0 3
  · go_wp2_with fail
    refine (number_walk a0 30 _ (by omega) (by omega) (by omega) (by omega)).mono ?_
    rintro e wb ⟨rfl, rfl⟩
    generalize a0 % 30 = nn at *
    go_wp2_with fail
    refine (new_walk nn _).mono ?_
    have hcap := capN_le nn
    rintro e wc ⟨g, a, cap, rfl, hm, hkc, hg, hfa⟩
    go_wp2_with fail
    refine (refNew_walk nn _).mono ?_
    clear hand
    generalize hcn : capN nn = n at *
    have HC := Lib.hid hcn
    clear hcn
    rintro e wd ⟨g2, b2, rfl, hd, hkd, hg2, hb2⟩
    have hmd := hm.keep0 hkd
    have hgl := hm.obj.lt
    have hal : ∀ k, blkOf a k → k < wc.heap.size := hm.arr.lt
    have c0 := hd.cell0
    have hk0 := (hka.trans hkc).trans hkd
    have hs1 := hka.size
    have hs2 := hkc.size
    have D : Hid (g ≠ b2 ∧ g ≠ g2 ∧ w.heap.size ≤ g ∧ w.heap.size ≤ g2 ∧ w.heap.size ≤ b2 ∧ (∀ k, blkOf a k → w.heap.size ≤ k ∧ k ≠ b2 ∧ k ≠ g2)) :=
      ⟨by omega, by omega, by omega, by omega, by omega, fun k hk => by have := hal k hk; have := hfa k hk; omega⟩
    clear hkc hkd hka hm hg hfa hg2 hb2 hgl hal hs1 hs2
    go_wp2_with fail
    go_region_held3 (fun w' => w'.cell? ⟨g2, 0, none⟩ = some (.slice (some ⟨b2, 0, none⟩) n n)) (first | go_keep | exact c0) (first | (go_at_call 11; refine (size_walk _ (hmd.keep0 ?_)).mono ?_; exact ((Keeps.refl Nil wd).drew); rintro e w4 ⟨rfl, rfl⟩))
    have hc0 : Clean n (List.replicate (bytesOf n) 0) := Clean.zero n _
    go_wp2_with fail
    go_loopw [10] (fun i wr => ∃ (j : Nat) (bs : List Int), j ≤ len1 + 1 ∧ i = .int .i64 j ∧ IsMap wr g a cap n bs ∧ IsRef wr g2 b2 n bs ∧ Clean n bs ∧ Hid (Keeps Nil w wr)) (fun i _ => len1 + 1 - (intOf i).toNat)
    case atStart => exact ⟨0, _, Nat.zero_le _, rfl, hmd.keep0 ((Keeps.refl _ _).drew), hd.keep0 ((Keeps.refl _ _).drew), hc0, hk0.drew⟩
    case round =>
      obtain ⟨j, bs, hj, rfl, hm2, hd2, hcl, hkr⟩ := hrel
      clear hmd hd c0 hk0 hc0
      by_cases hle : j ≤ len1
      · have main : ∀ (bs' : List Int) (wx : World), IsMap wx g a cap n bs' → IsRef wx g2 b2 n bs' → Clean n bs' → Hid (Keeps Nil w wx) → True := fun _ _ _ _ _ _ => trivial
        cases j with
        | zero =>
          go_wp2_with fail
          go_quiet (fail)
          rename_i nq
          go_wp2_with fail
          have hkX : Hid (Keeps Nil w (wr.drewN nq)) := hkr.out.drewN nq
          refine (count_walk _ (hm2.drewN _)).mono ?_
          rintro e wY ⟨rfl, rfl⟩
          go_wp2_with fail
          refine (refCount_walk _ (hd2.drewN _)).mono ?_
          rintro e wY ⟨rfl, rfl⟩
          generalize countI n bs = cc at *
          go_wp2_with fail
          refine (next_walk a2 _ (hm2.drewN _) (by omega) (by omega)).mono ?_
          rintro e wY ⟨rfl, q1, rfl⟩
          go_wp2_with fail
          refine (refNext_walk a2 _ (hd2.drewN _) (by omega) (by omega)).mono ?_
          rintro e wY ⟨rfl, q2, rfl⟩
          generalize nextI n bs a2 = r1 at *
          go_wp2_with fail
          refine (next_walk 0 _ (hm2.drewN _) (by omega) (by omega)).mono ?_
          rintro e wY ⟨rfl, q3, rfl⟩
          go_wp2_with fail
          refine (refNext_walk 0 _ (hd2.drewN _) (by omega) (by omega)).mono ?_
          rintro e wY ⟨rfl, q4, rfl⟩
          generalize nextI n bs 0 = r2 at *
          go_wp2_with fail
          refine (front_walk _ (hm2.drewN _)).mono ?_
          rintro e wY ⟨rfl, rfl⟩
          go_wp2_with fail
          refine (refFront_walk _ (hd2.drewN _)).mono ?_
          rintro e wY ⟨rfl, rfl⟩
          generalize frontI n bs = r3 at *
          go_wp2_with fail
          refine (has_any 0 _ (hm2.drewN _) (by omega) (by omega)).mono ?_
          rintro e wY ⟨rfl, rfl⟩
          go_wp2_with fail
          refine (refHas_walk 0 _ (hd2.drewN _)).mono ?_
          rintro e wY ⟨rfl, rfl⟩
          generalize hasI n bs 0 = r4 at *
          go_wp2_with fail
          refine (has_any a2 _ (hm2.drewN _) (by omega) (by omega)).mono ?_
          rintro e wY ⟨rfl, rfl⟩
          go_wp2_with fail
          refine (refHas_walk a2 _ (hd2.drewN _)).mono ?_
          rintro e wY ⟨rfl, rfl⟩
          generalize hasI n bs a2 = r5 at *
          go_wp2_with fail
          go_roundw
          case rel => first | exact ⟨1, bs, by omega, by first | rfl | go_num, hm2.drewN _, hd2.drewN _, hcl, hkr.out.drewN _⟩ | ((repeat apply Exists.intro); exact ⟨⟨1, bs, by omega, by first | rfl | go_num, hm2.drewN _, hd2.drewN _, hcl, hkr.out.drewN _⟩, rfl⟩)
          case measure => simp [intOf] <;> omega
        | succ k =>
          obtain ⟨bb, off, rfl, hbb, hc⟩ := hrow.cell (by omega)
          have hcell := hkr.out.cell (hc k (by omega)) (fun h => h)
          have hf := i64_wf (hrow.wf _ (hrow.at_ (show k < len1 by omega)))
          have hbb2 : ¬ blkOf a bb := fun h => by have := (D.out.2.2.2.2.2 bb h).1; omega
          have hbb3 : bb ≠ b2 := by have := D.out.2.2.2.2.1; omega
          clear hc
          generalize zs.getD k 0 = f at *
          have hk1 : (0 : Int) ≤ k := by omega
          have hk2 : (k : Int) < len1 := by omega
          have hw1 : IntKind.i64.wrap (k : Int) = k := by rw [IntKind.wrap_i64]; omega
          obtain ⟨jj, hjj⟩ : ∃ jj : Int, ((k + 1 : Nat) : Int) = jj := ⟨_, rfl⟩
          have hw2 : IntKind.i64.wrap (jj - 1) = k := by rw [← hjj, IntKind.wrap_i64]; omega
          have hw3 : IntKind.i64.wrap (jj + 1) = jj + 1 := by rw [IntKind.wrap_i64]; omega
          have hjp : 0 < jj := by omega
          have hjl : jj ≤ len1 := by omega
          have HJ := Lib.hid hjj
          rw [hjj]
          clear hjj hj
          go_wp2_with fail
          go_region_held3 (fun w' => w'.cell? ⟨bb, off + k, none⟩ = some (.int .i64 f)) (first | go_keep | exact hkB.cell (hkA.cell hcell hbb2) hbb3 | exact hkA.cell hcell hbb2) (first | (go_at_call 15; refine (set_tot f _ (hm2.keep0 ?_) (by omega) (by omega)).mono ?_; exact ((Keeps.refl Nil wr).drew); rintro e wA ⟨rfl, hmA, hkA0⟩; have hkA := (Keeps.refl (blkOf a) wr).drew.trans hkA0) | (go_at_call 20; refine (refSet_tot f _ (hd2.keep hkA ?_ ?_)).mono ?_; exact (fun h => (D.out.2.2.2.2.2 _ h).2.2 rfl); exact (fun h => (D.out.2.2.2.2.2 _ h).2.1 rfl); rintro e wB ⟨rfl, hdB, hkB⟩))
          go_wp2_with fail
          have hcX := setN_clean f hcl hm2.len hm2.wf
          have hmX := hmA.keep hkB (fun h => (D.out.1) h) (fun k' h h2 => (D.out.2.2.2.2.2 _ h).2.1 h2)
          have hdX := hdB
          have hkX : Hid (Keeps Nil w wB) := (hkr.out.step hkA (fun i hi => .inr (D.out.2.2.2.2.2 i hi).1)).step hkB (fun i hi => .inr (by rw [show i = b2 from hi]; exact D.out.2.2.2.2.1))
          clear hkA hkB hmA hdB
          refine (count_walk _ hmX).mono ?_
          rintro e wY ⟨rfl, rfl⟩
          go_wp2_with fail
          refine (refCount_walk _ hdX).mono ?_
          rintro e wY ⟨rfl, rfl⟩
          generalize countI n (setN n bs f) = cc at *
          go_wp2_with fail
          refine (next_walk a2 _ hmX (by omega) (by omega)).mono ?_
          rintro e wY ⟨rfl, q1, rfl⟩
          go_wp2_with fail
          refine (refNext_walk a2 _ (hdX.drewN _) (by omega) (by omega)).mono ?_
          rintro e wY ⟨rfl, q2, rfl⟩
          generalize nextI n (setN n bs f) a2 = r1 at *
          go_wp2_with fail
          refine (next_walk jj _ (hmX.drewN _) (by omega) (by omega)).mono ?_
          rintro e wY ⟨rfl, q3, rfl⟩
          go_wp2_with fail
          refine (refNext_walk jj _ (hdX.drewN _) (by omega) (by omega)).mono ?_
          rintro e wY ⟨rfl, q4, rfl⟩
          generalize nextI n (setN n bs f) jj = r2 at *
          go_wp2_with fail
          refine (front_walk _ (hmX.drewN _)).mono ?_
          rintro e wY ⟨rfl, rfl⟩
          go_wp2_with fail
          refine (refFront_walk _ (hdX.drewN _)).mono ?_
          rintro e wY ⟨rfl, rfl⟩
          generalize frontI n (setN n bs f) = r3 at *
          go_wp2_with fail
          refine (has_any jj _ (hmX.drewN _) (by omega) (by omega)).mono ?_
          rintro e wY ⟨rfl, rfl⟩
          go_wp2_with fail
          refine (refHas_walk jj _ (hdX.drewN _)).mono ?_
          rintro e wY ⟨rfl, rfl⟩
          generalize hasI n (setN n bs f) jj = r4 at *
          go_wp2_with fail
          refine (has_any a2 _ (hmX.drewN _) (by omega) (by omega)).mono ?_
          rintro e wY ⟨rfl, rfl⟩
          go_wp2_with fail
          refine (refHas_walk a2 _ (hdX.drewN _)).mono ?_
          rintro e wY ⟨rfl, rfl⟩
          generalize hasI n (setN n bs f) a2 = r5 at *
          go_wp2_with fail
          go_roundw
          case rel => first | exact ⟨k + 1 + 1, _, by omega, congrArg (Value.int .i64) (by have := HJ.out; first | omega | (rw [hw3]; omega) | (simp; omega)), hmX.drewN _, hdX.drewN _, hcX, hkX.out.drewN _⟩ | ((repeat apply Exists.intro); exact ⟨⟨k + 1 + 1, _, by omega, congrArg (Value.int .i64) (by have := HJ.out; first | omega | (rw [hw3]; omega) | (simp; omega)), hmX.drewN _, hdX.drewN _, hcX, hkX.out.drewN _⟩, rfl⟩)
          case measure => simp [intOf] <;> omega
      · obtain rfl : j = len1 + 1 := by omega
        go_wp2_with fail
        have hlb := hm2.len
        have hwb : ∀ x ∈ bs, (Lit.int .u8 x).wf = true := fun x hx => by have := hm2.wf x hx; simp [Lit.wf, IntKind.min, IntKind.max, IntKind.signed, IntKind.bits]; omega
        have hpk := pack_all hlb hm2.wf hcl
        have HH := Lib.hid (And.intro hlb hpk)
        clear hlb hpk
        refine (mapBytes_walk _ hm2).mono ?_
        rintro e w3 ⟨a5, c5, rfl, hown5, hk5, hf5⟩
        have hn5 : a5 = none → c5 = 0 ∧ bs.length = 0 := by
          rintro rfl
          rcases hown5 with ⟨_, _, _, ⟨_, h1, h2⟩ | ⟨_, _, h, _⟩⟩
          · exact ⟨h2, h1⟩
          · cases h
        have HN5 := Lib.hid hn5
        clear hn5
        go_wp2_with fail
        refine (of_good nn (hown5.row hwb) HN5.out (by rw [HC.out]; exact HH.out.1) (by rw [HC.out]; exact hcl)).mono ?_
        rw [HC.out]
        rintro e w4 ⟨g3, a3, cap3, rfl, hm4, hk4, _, _⟩
        go_wp2_with fail
        refine (refBytes2_walk _ ((hd2.keep0 hk5).keep0 hk4)).mono ?_
        rintro e w5 ⟨a6, c6, rfl, hown6, hk6, hf6⟩
        rw [HH.out.2] at hown6 ⊢
        have hS : sameL bs bs = true := sameL_refl bs
        go_wp2_with fail
        refine (sameBytes_walk (hown5.row hwb |>.keep (hk4.trans hk6)) (hown6.row hwb)).mono ?_
        rintro e w7 ⟨rfl, hd7⟩
        rw [hS]
        have hk7 := hd7.keeps Nil
        go_wp2_with fail
        refine (mapBytes_walk _ ((hm4.keep0 hk6).keep0 hk7)).mono ?_
        rintro e w8 ⟨a8, c8, rfl, hown8, hk8, hf8⟩
        go_wp2_with fail
        refine (sameBytes_walk (hown8.row hwb) (hown5.row hwb |>.keep (((hk4.trans hk6).trans hk7).trans hk8))).mono ?_
        rintro e w9 ⟨rfl, hd9⟩
        rw [hS]
        have hk9 := hd9.keeps Nil
        go_wp2_with fail
        refine (count_walk _ ((((hm4.keep0 hk6).keep0 hk7).keep0 hk8).keep0 hk9)).mono ?_
        rintro e w10 ⟨rfl, rfl⟩
        go_wp2_with fail
        refine (refCount_walk _ ((((((hd2.keep0 hk5).keep0 hk4).keep0 hk6).keep0 hk7).keep0 hk8).keep0 hk9)).mono ?_
        rintro e w10 ⟨rfl, rfl⟩
        generalize countI n bs = cc at *
        go_wp2_with fail
        go_ret
        exact ⟨rfl, (((((hkr.out.trans hk5).trans hk4).trans hk6).trans hk7).trans hk8).trans hk9⟩
  · go_wp2_with fail
    refine (new_walk a0 _).mono ?_
    have hcap := capN_le a0
    rintro e wc ⟨g, a, cap, rfl, hm, hkc, hg, hfa⟩
    go_wp2_with fail
    refine (refNew_walk a0 _).mono ?_
    clear hand
    generalize hcn : capN a0 = n at *
    have HC := Lib.hid hcn
    clear hcn
    rintro e wd ⟨g2, b2, rfl, hd, hkd, hg2, hb2⟩
    have hmd := hm.keep0 hkd
    have hgl := hm.obj.lt
    have hal : ∀ k, blkOf a k → k < wc.heap.size := hm.arr.lt
    have c0 := hd.cell0
    have hk0 := (hka.trans hkc).trans hkd
    have hs1 := hka.size
    have hs2 := hkc.size
    have D : Hid (g ≠ b2 ∧ g ≠ g2 ∧ w.heap.size ≤ g ∧ w.heap.size ≤ g2 ∧ w.heap.size ≤ b2 ∧ (∀ k, blkOf a k → w.heap.size ≤ k ∧ k ≠ b2 ∧ k ≠ g2)) :=
      ⟨by omega, by omega, by omega, by omega, by omega, fun k hk => by have := hal k hk; have := hfa k hk; omega⟩
    clear hkc hkd hka hm hg hfa hg2 hb2 hgl hal hs1 hs2
    go_wp2_with fail
    go_region_held3 (fun w' => w'.cell? ⟨g2, 0, none⟩ = some (.slice (some ⟨b2, 0, none⟩) n n)) (first | go_keep | exact c0) (first | (go_at_call 11; refine (size_walk _ (hmd.keep0 ?_)).mono ?_; exact ((Keeps.refl Nil wd).drew); rintro e w4 ⟨rfl, rfl⟩))
    have hc0 : Clean n (List.replicate (bytesOf n) 0) := Clean.zero n _
    go_wp2_with fail
    go_loopw [10] (fun i wr => ∃ (j : Nat) (bs : List Int), j ≤ len1 + 1 ∧ i = .int .i64 j ∧ IsMap wr g a cap n bs ∧ IsRef wr g2 b2 n bs ∧ Clean n bs ∧ Hid (Keeps Nil w wr)) (fun i _ => len1 + 1 - (intOf i).toNat)
    case atStart => exact ⟨0, _, Nat.zero_le _, rfl, hmd.keep0 ((Keeps.refl _ _).drew), hd.keep0 ((Keeps.refl _ _).drew), hc0, hk0.drew⟩
    case round =>
      obtain ⟨j, bs, hj, rfl, hm2, hd2, hcl, hkr⟩ := hrel
      clear hmd hd c0 hk0 hc0
      by_cases hle : j ≤ len1
      · have main : ∀ (bs' : List Int) (wx : World), IsMap wx g a cap n bs' → IsRef wx g2 b2 n bs' → Clean n bs' → Hid (Keeps Nil w wx) → True := fun _ _ _ _ _ _ => trivial
        cases j with
        | zero =>
          go_wp2_with fail
          go_quiet (fail)
          rename_i nq
          go_wp2_with fail
          have hkX : Hid (Keeps Nil w (wr.drewN nq)) := hkr.out.drewN nq
          refine (count_walk _ (hm2.drewN _)).mono ?_
          rintro e wY ⟨rfl, rfl⟩
          go_wp2_with fail
          refine (refCount_walk _ (hd2.drewN _)).mono ?_
          rintro e wY ⟨rfl, rfl⟩
          generalize countI n bs = cc at *
          go_wp2_with fail
          refine (next_walk a2 _ (hm2.drewN _) (by omega) (by omega)).mono ?_
          rintro e wY ⟨rfl, q1, rfl⟩
          go_wp2_with fail
          refine (refNext_walk a2 _ (hd2.drewN _) (by omega) (by omega)).mono ?_
          rintro e wY ⟨rfl, q2, rfl⟩
          generalize nextI n bs a2 = r1 at *
          go_wp2_with fail
          refine (next_walk 0 _ (hm2.drewN _) (by omega) (by omega)).mono ?_
          rintro e wY ⟨rfl, q3, rfl⟩
          go_wp2_with fail
          refine (refNext_walk 0 _ (hd2.drewN _) (by omega) (by omega)).mono ?_
          rintro e wY ⟨rfl, q4, rfl⟩
          generalize nextI n bs 0 = r2 at *
          go_wp2_with fail
          refine (front_walk _ (hm2.drewN _)).mono ?_
          rintro e wY ⟨rfl, rfl⟩
          go_wp2_with fail
          refine (refFront_walk _ (hd2.drewN _)).mono ?_
          rintro e wY ⟨rfl, rfl⟩
          generalize frontI n bs = r3 at *
          go_wp2_with fail
          refine (has_any 0 _ (hm2.drewN _) (by omega) (by omega)).mono ?_
          rintro e wY ⟨rfl, rfl⟩
          go_wp2_with fail
          refine (refHas_walk 0 _ (hd2.drewN _)).mono ?_
          rintro e wY ⟨rfl, rfl⟩
          generalize hasI n bs 0 = r4 at *
          go_wp2_with fail
          refine (has_any a2 _ (hm2.drewN _) (by omega) (by omega)).mono ?_
          rintro e wY ⟨rfl, rfl⟩
          go_wp2_with fail
          refine (refHas_walk a2 _ (hd2.drewN _)).mono ?_
          rintro e wY ⟨rfl, rfl⟩
          generalize hasI n bs a2 = r5 at *
          go_wp2_with fail
          go_roundw
          case rel => first | exact ⟨1, bs, by omega, by first | rfl | go_num, hm2.drewN _, hd2.drewN _, hcl, hkr.out.drewN _⟩ | ((repeat apply Exists.intro); exact ⟨⟨1, bs, by omega, by first | rfl | go_num, hm2.drewN _, hd2.drewN _, hcl, hkr.out.drewN _⟩, rfl⟩)
          case measure => simp [intOf] <;> omega
        | succ k =>
          obtain ⟨bb, off, rfl, hbb, hc⟩ := hrow.cell (by omega)
          have hcell := hkr.out.cell (hc k (by omega)) (fun h => h)
          have hf := i64_wf (hrow.wf _ (hrow.at_ (show k < len1 by omega)))
          have hbb2 : ¬ blkOf a bb := fun h => by have := (D.out.2.2.2.2.2 bb h).1; omega
          have hbb3 : bb ≠ b2 := by have := D.out.2.2.2.2.1; omega
          clear hc
          generalize zs.getD k 0 = f at *
          have hk1 : (0 : Int) ≤ k := by omega
          have hk2 : (k : Int) < len1 := by omega
          have hw1 : IntKind.i64.wrap (k : Int) = k := by rw [IntKind.wrap_i64]; omega
          obtain ⟨jj, hjj⟩ : ∃ jj : Int, ((k + 1 : Nat) : Int) = jj := ⟨_, rfl⟩
          have hw2 : IntKind.i64.wrap (jj - 1) = k := by rw [← hjj, IntKind.wrap_i64]; omega
          have hw3 : IntKind.i64.wrap (jj + 1) = jj + 1 := by rw [IntKind.wrap_i64]; omega
          have hjp : 0 < jj := by omega
          have hjl : jj ≤ len1 := by omega
          have HJ := Lib.hid hjj
          rw [hjj]
          clear hjj hj
          go_wp2_with fail
          go_region_held3 (fun w' => w'.cell? ⟨bb, off + k, none⟩ = some (.int .i64 f)) (first | go_keep | exact hkB.cell (hkA.cell hcell hbb2) hbb3 | exact hkA.cell hcell hbb2) (first | (go_at_call 15; refine (set_tot f _ (hm2.keep0 ?_) (by omega) (by omega)).mono ?_; exact ((Keeps.refl Nil wr).drew); rintro e wA ⟨rfl, hmA, hkA0⟩; have hkA := (Keeps.refl (blkOf a) wr).drew.trans hkA0) | (go_at_call 20; refine (refSet_tot f _ (hd2.keep hkA ?_ ?_)).mono ?_; exact (fun h => (D.out.2.2.2.2.2 _ h).2.2 rfl); exact (fun h => (D.out.2.2.2.2.2 _ h).2.1 rfl); rintro e wB ⟨rfl, hdB, hkB⟩))
          go_wp2_with fail
          have hcX := setN_clean f hcl hm2.len hm2.wf
          have hmX := hmA.keep hkB (fun h => (D.out.1) h) (fun k' h h2 => (D.out.2.2.2.2.2 _ h).2.1 h2)
          have hdX := hdB
          have hkX : Hid (Keeps Nil w wB) := (hkr.out.step hkA (fun i hi => .inr (D.out.2.2.2.2.2 i hi).1)).step hkB (fun i hi => .inr (by rw [show i = b2 from hi]; exact D.out.2.2.2.2.1))
          clear hkA hkB hmA hdB
          refine (count_walk _ hmX).mono ?_
          rintro e wY ⟨rfl, rfl⟩
          go_wp2_with fail
          refine (refCount_walk _ hdX).mono ?_
          rintro e wY ⟨rfl, rfl⟩
          generalize countI n (setN n bs f) = cc at *
          go_wp2_with fail
          refine (next_walk a2 _ hmX (by omega) (by omega)).mono ?_
          rintro e wY ⟨rfl, q1, rfl⟩
          go_wp2_with fail
          refine (refNext_walk a2 _ (hdX.drewN _) (by omega) (by omega)).mono ?_
          rintro e wY ⟨rfl, q2, rfl⟩
          generalize nextI n (setN n bs f) a2 = r1 at *
          go_wp2_with fail
          refine (next_walk jj _ (hmX.drewN _) (by omega) (by omega)).mono ?_
          rintro e wY ⟨rfl, q3, rfl⟩
          go_wp2_with fail
          refine (refNext_walk jj _ (hdX.drewN _) (by omega) (by omega)).mono ?_
          rintro e wY ⟨rfl, q4, rfl⟩
          generalize nextI n (setN n bs f) jj = r2 at *
          go_wp2_with fail
          refine (front_walk _ (hmX.drewN _)).mono ?_
          rintro e wY ⟨rfl, rfl⟩
          go_wp2_with fail
          refine (refFront_walk _ (hdX.drewN _)).mono ?_
          rintro e wY ⟨rfl, rfl⟩
          generalize frontI n (setN n bs f) = r3 at *
          go_wp2_with fail
          refine (has_any jj _ (hmX.drewN _) (by omega) (by omega)).mono ?_
          rintro e wY ⟨rfl, rfl⟩
          go_wp2_with fail
          refine (refHas_walk jj _ (hdX.drewN _)).mono ?_
          rintro e wY ⟨rfl, rfl⟩
          generalize hasI n (setN n bs f) jj = r4 at *
          go_wp2_with fail
          refine (has_any a2 _ (hmX.drewN _) (by omega) (by omega)).mono ?_
          rintro e wY ⟨rfl, rfl⟩
          go_wp2_with fail
          refine (refHas_walk a2 _ (hdX.drewN _)).mono ?_
          rintro e wY ⟨rfl, rfl⟩
          generalize hasI n (setN n bs f) a2 = r5 at *
          go_wp2_with fail
          go_roundw
          case rel => first | exact ⟨k + 1 + 1, _, by omega, congrArg (Value.int .i64) (by have := HJ.out; first | omega | (rw [hw3]; omega) | (simp; omega)), hmX.drewN _, hdX.drewN _, hcX, hkX.out.drewN _⟩ | ((repeat apply Exists.intro); exact ⟨⟨k + 1 + 1, _, by omega, congrArg (Value.int .i64) (by have := HJ.out; first | omega | (rw [hw3]; omega) | (simp; omega)), hmX.drewN _, hdX.drewN _, hcX, hkX.out.drewN _⟩, rfl⟩)
          case measure => simp [intOf] <;> omega
      · obtain rfl : j = len1 + 1 := by omega
        go_wp2_with fail
        have hlb := hm2.len
        have hwb : ∀ x ∈ bs, (Lit.int .u8 x).wf = true := fun x hx => by have := hm2.wf x hx; simp [Lit.wf, IntKind.min, IntKind.max, IntKind.signed, IntKind.bits]; omega
        have hpk := pack_all hlb hm2.wf hcl
        have HH := Lib.hid (And.intro hlb hpk)
        clear hlb hpk
        refine (mapBytes_walk _ hm2).mono ?_
        rintro e w3 ⟨a5, c5, rfl, hown5, hk5, hf5⟩
        have hn5 : a5 = none → c5 = 0 ∧ bs.length = 0 := by
          rintro rfl
          rcases hown5 with ⟨_, _, _, ⟨_, h1, h2⟩ | ⟨_, _, h, _⟩⟩
          · exact ⟨h2, h1⟩
          · cases h
        have HN5 := Lib.hid hn5
        clear hn5
        go_wp2_with fail
        refine (of_good a0 (hown5.row hwb) HN5.out (by rw [HC.out]; exact HH.out.1) (by rw [HC.out]; exact hcl)).mono ?_
        rw [HC.out]
        rintro e w4 ⟨g3, a3, cap3, rfl, hm4, hk4, _, _⟩
        go_wp2_with fail
        refine (refBytes2_walk _ ((hd2.keep0 hk5).keep0 hk4)).mono ?_
        rintro e w5 ⟨a6, c6, rfl, hown6, hk6, hf6⟩
        rw [HH.out.2] at hown6 ⊢
        have hS : sameL bs bs = true := sameL_refl bs
        go_wp2_with fail
        refine (sameBytes_walk (hown5.row hwb |>.keep (hk4.trans hk6)) (hown6.row hwb)).mono ?_
        rintro e w7 ⟨rfl, hd7⟩
        rw [hS]
        have hk7 := hd7.keeps Nil
        go_wp2_with fail
        refine (mapBytes_walk _ ((hm4.keep0 hk6).keep0 hk7)).mono ?_
        rintro e w8 ⟨a8, c8, rfl, hown8, hk8, hf8⟩
        go_wp2_with fail
        refine (sameBytes_walk (hown8.row hwb) (hown5.row hwb |>.keep (((hk4.trans hk6).trans hk7).trans hk8))).mono ?_
        rintro e w9 ⟨rfl, hd9⟩
        rw [hS]
        have hk9 := hd9.keeps Nil
        go_wp2_with fail
        refine (count_walk _ ((((hm4.keep0 hk6).keep0 hk7).keep0 hk8).keep0 hk9)).mono ?_
        rintro e w10 ⟨rfl, rfl⟩
        go_wp2_with fail
        refine (refCount_walk _ ((((((hd2.keep0 hk5).keep0 hk4).keep0 hk6).keep0 hk7).keep0 hk8).keep0 hk9)).mono ?_
        rintro e w10 ⟨rfl, rfl⟩
        generalize countI n bs = cc at *
        go_wp2_with fail
        go_ret
        exact ⟨rfl, (((((hkr.out.trans hk5).trans hk4).trans hk6).trans hk7).trans hk8).trans hk9⟩
end Go.Proofs.YtokminiendnhoaaDoor
