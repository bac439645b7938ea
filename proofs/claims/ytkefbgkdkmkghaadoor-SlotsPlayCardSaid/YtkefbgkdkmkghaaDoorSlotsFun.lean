/-
  Slots: small functions.
-/
import Derived.Test.YtkefbgkdkmkghaaDoorRefCrash
import Derived.Test.YtkefbgkdkmkghaaDoorSZeros
import Derived.Laws.BitsAllLaws
namespace Go.Proofs.YtkefbgkdkmkghaaDoor
set_option linter.unusedSimpArgs false
set_option linter.unusedVariables false
open Go.RowKit

set_option maxHeartbeats 800000 in
theorem equal_walk {w : World} {a b : Option Addr} {n m ca cb : Nat} {l r : List Int} (ha : Row .u8 w a n l) (hb : Row .u8 w b m r) :
    Calls Tryd.prog 66 #[.slice a n ca, .slice b m cb] w fun e w' => e = .returned (.bool (sameL l r)) ∧ Keeps Nil w w' := by
  have hl := ha.llen
  have hr := hb.llen
  have hma := ha.most
  by_cases hne : n = m
  · subst hne
    go_enter Tryd.func66, Tryd.ntmps66
    go_wp2
    go_loopw [13, 5] (fun i _ wr => ∃ (j : Nat), j ≤ n ∧ i = .int .i64 j ∧ Hid (Keeps Nil w wr) ∧ Hid (l.take j = r.take j)) (fun i _ _ => n - (intOf i).toNat)
    case atStart => exact ⟨0, Nat.zero_le _, rfl, Keeps.refl _ _, rfl⟩
    case round =>
      obtain ⟨j, hj, rfl, hk, heq⟩ := hrel
      by_cases hlt : j < n
      · obtain ⟨b1, o1, rfl, hb1, hc1⟩ := ha.cell (by omega)
        obtain ⟨b2, o2, rfl, hb2, hc2⟩ := hb.cell (by omega)
        have c1 := hk.out.cell (hc1 j hlt) (fun h => h)
        have c2 := hk.out.cell (hc2 j hlt) (fun h => h)
        clear hc1 hc2
        have hx : l.getD j 0 = l[j]'(by omega) := by simp [List.getD, show j < l.length by omega]
        have hy : r.getD j 0 = r[j]'(by omega) := by simp [List.getD, show j < r.length by omega]
        by_cases e : l.getD j 0 = r.getD j 0
        · have hnx : l.take (j + 1) = r.take (j + 1) := by
            rw [List.take_succ_eq_append_getElem (by omega), List.take_succ_eq_append_getElem (by omega), heq.out, ← hx, ← hy, e]
          have HN := Lib.hid hnx
          clear hnx hx hy
          rw [e] at c1
          generalize r.getD j 0 = y at *
          clear e
          have hyy : (y == y) = true := by simp
          go_wp2
          go_quiet (fail)
          have HK := Lib.hid (hk.out.drewN nq)
          generalize wr.drewN nq = wq at *
          go_wp2
          go_roundw
          case rel => first | exact ⟨j + 1, by omega, by go_num, HK, HN⟩ | ((repeat apply Exists.intro); exact ⟨⟨j + 1, by omega, by go_num, HK, HN⟩, rfl⟩)
          case measure => first | (simp [intOf]; done) | (simp [intOf]; omega)
        · have hf : sameL l r = false := by
            unfold sameL
            rw [beq_eq_false_iff_ne]
            intro h
            exact e (by rw [h])
          have HF := Lib.hid hf
          have he : (l.getD j 0 == r.getD j 0) = false := by rw [beq_eq_false_iff_ne]; exact e
          clear hf hx hy e
          generalize l.getD j 0 = x at *
          generalize r.getD j 0 = y at *
          go_wp2
          go_quiet (fail)
          have HK := Lib.hid (hk.out.drewN nq)
          generalize wr.drewN nq = wq at *
          go_wp2
          go_ret
          exact ⟨by rw [HF.out]; rfl, HK.out⟩
      · obtain rfl : j = n := by omega
        have hf : sameL l r = true := by
          unfold sameL
          have := heq.out
          rw [List.take_of_length_le (by omega), List.take_of_length_le (by omega)] at this
          simp [this]
        have HF := Lib.hid hf
        clear hf
        go_wp2
        go_ret
        exact ⟨by rw [HF.out]; rfl, hk.out⟩
  · have hf : sameL l r = false := by
      unfold sameL
      rw [beq_eq_false_iff_ne]
      intro h
      exact hne (by rw [← hl, ← hr, h])
    have HF := Lib.hid hf
    have he : ((n : Int) != (m : Int)) = true := by rw [bne_iff_ne]; omega
    clear hf
    go_enter Tryd.func66, Tryd.ntmps66
    go_wp2
    go_ret
    exact ⟨by rw [HF.out]; rfl, Keeps.refl _ _⟩

/-- What a disk keeps as its state: how often, which half, how many bytes. -/
structure Sv where
  seq : Nat
  half : Nat
  many : Nat
def Dk.each (d : Dk) : Nat := (d.vs.length - 1) / 2
def Dk.room (d : Dk) : Nat := d.each * 128
def Dk.first (d : Dk) (h : Nat) : Nat := 1 + h * d.each
def takesN (n : Nat) : Nat := (n + 127) / 128
/-- The program's object. -/
def SlAt (w : World) (g p : Nat) (s : Sv) : Prop := Blk w g [.pointer (some ⟨p, 0, none⟩), .int .i64 s.seq, .int .i64 s.half, .int .i64 s.many] 93
theorem i64_or_nat (a b : Nat) (ha : a < 4611686018427387904) (hb : b < 4611686018427387904) : bits .or .i64 (a : Int) (b : Int) = ((a ||| b : Nat) : Int) := by
  have hx : a ||| b < 2 ^ 62 := Nat.or_lt_two_pow (by omega) (by omega)
  have h1 : (BitVec.ofInt 64 (a : Int)).toNat = a := by
    rw [BitVec.ofInt_natCast, BitVec.toNat_ofNat]; exact Nat.mod_eq_of_lt (by omega)
  have h2 : (BitVec.ofInt 64 (b : Int)).toNat = b := by
    rw [BitVec.ofInt_natCast, BitVec.toNat_ofNat]; exact Nat.mod_eq_of_lt (by omega)
  show IntKind.i64.wrap ((BitVec.ofInt 64 (a : Int) ||| BitVec.ofInt 64 (b : Int)).toNat : Int) = _
  rw [BitVec.toNat_or, h1, h2, IntKind.wrap_i64]
  omega
theorem or64 (n P : Nat) (hP : 2 ^ n = P) (a x : Int) (ha : 0 ≤ a) (ha2 : a < P) (hx : 0 ≤ x) (h : a + P * x < 4294967296) : bits .or .i64 a (x * P) = a + P * x := by
  obtain ⟨A, rfl⟩ := Int.eq_ofNat_of_zero_le ha
  obtain ⟨X, rfl⟩ := Int.eq_ofNat_of_zero_le hx
  have h1 : A < 2 ^ n := by rw [hP]; omega
  have h5 : ((P : Int) * (X : Int)) = ((P * X : Nat) : Int) := by simp
  have h2 : A + P * X < 4294967296 := by rw [h5] at h; omega
  have h3 : ((X : Int) * (P : Int)) = ((X * P : Nat) : Int) := by simp
  have h4 : X * P = P * X := Nat.mul_comm _ _
  rw [h3, h5, h4, i64_or_nat A (P * X) (by omega) (by omega), Nat.or_comm, ← hP, ← Nat.two_pow_add_eq_or_of_lt h1]
  omega
theorem or4s (a b c d : Int) (ha : 0 ≤ a ∧ a ≤ 255) (hb : 0 ≤ b ∧ b ≤ 255) (hc : 0 ≤ c ∧ c ≤ 255) (hd : 0 ≤ d ∧ d ≤ 255) :
    bits .or .i64 (bits .or .i64 (bits .or .i64 a (b * 256)) (c * 65536)) (d * 16777216) = a + 256 * b + 65536 * c + 16777216 * d := by
  have h1 := or64 8 256 (by decide) a b ha.1 (by omega) hb.1 (by omega)
  have h2 := or64 16 65536 (by decide) (a + 256 * b) c (by omega) (by omega) hc.1 (by omega)
  have h3 := or64 24 16777216 (by decide) (a + 256 * b + 65536 * c) d (by omega) (by omega) hd.1 (by omega)
  have e1 : ((256 : Nat) : Int) = 256 := rfl
  have e2 : ((65536 : Nat) : Int) = 65536 := rfl
  have e3 : ((16777216 : Nat) : Int) = 16777216 := rfl
  rw [e1] at h1
  rw [e2] at h2
  rw [e3] at h3
  rw [h1, h2, h3]
/-- Four bytes' number, the least first. -/
def num4 (l : List Int) (at_ : Nat) : Int := l.getD at_ 0 + 256 * l.getD (at_ + 1) 0 + 65536 * l.getD (at_ + 2) 0 + 16777216 * l.getD (at_ + 3) 0
theorem num4_bounds {l : List Int} (h : AreB l) {t : Nat} (ht : t + 4 ≤ l.length) : 0 ≤ num4 l t ∧ num4 l t < 4294967296 := by
  have key : ∀ i, i < l.length → 0 ≤ l.getD i 0 ∧ l.getD i 0 < 256 := fun i hi => h _ (by simp [List.getD, hi])
  have h0 := key t (by omega)
  have h1 := key (t + 1) (by omega)
  have h2 := key (t + 2) (by omega)
  have h3 := key (t + 3) (by omega)
  unfold num4
  omega
set_option maxHeartbeats 1600000 in
theorem num_walk {w : World} {b off n c : Nat} {l : List Int} (h : Row .u8 w (some ⟨b, off, none⟩) n l) (hn : 4 ≤ n) :
    Calls Tryd.prog 68 #[.slice (some ⟨b, off, none⟩) n c] w fun e w' => e = .returned (.int .i64 (num4 l 0)) ∧ Keeps Nil w w' := by
  have hll := h.llen
  have hm := h.most
  have hb : ∀ i, i < 4 → 0 ≤ l.getD i 0 ∧ l.getD i 0 ≤ 255 := fun i hi => u8_wf (h.wf (l.getD i 0) (by simp [List.getD, show i < l.length by omega]))
  have hb0 := hb 0 (by omega)
  have hb1 := hb 1 (by omega)
  have hb2 := hb 2 (by omega)
  have hb3 := hb 3 (by omega)
  have HN := Lib.hid (show num4 l 0 = l.getD 0 0 + 256 * l.getD 1 0 + 65536 * l.getD 2 0 + 16777216 * l.getD 3 0 by simp [num4])
  obtain ⟨b', off', hae, hbb, hc⟩ := h.cell (by omega)
  cases hae
  have d0 := hc 0 (by omega)
  have d1 := hc 1 (by omega)
  have d2 := hc 2 (by omega)
  have d3 := hc 3 (by omega)
  simp only [Nat.add_zero] at d0
  clear hc hb h hll
  have hn0 : (0 : Int) < n := by omega
  have hn1 : (1 : Int) < n := by omega
  have hn2 : (2 : Int) < n := by omega
  have hn3 : (3 : Int) < n := by omega
  generalize l.getD 0 0 = x0 at *
  generalize l.getD 1 0 = x1 at *
  generalize l.getD 2 0 = x2 at *
  generalize l.getD 3 0 = x3 at *
  go_enter Tryd.func68, Tryd.ntmps68
  go_wp2_with fail
  go_quiet (fail)
  go_wp2_with fail
  go_ret
  refine ⟨?_, (Keeps.refl Nil w).drewN _⟩
  rw [HN.out, ← or4s x0 x1 x2 x3 hb0 hb1 hb2 hb3]
  rfl
set_option maxHeartbeats 400000 in
theorem takes_walk (n : Nat) (w : World) (hn : n ≤ 4294967295) : Calls Tryd.prog 58 #[.int .i64 n] w fun e w' => e = .returned (.int .i64 (takesN n)) ∧ w = w' := by
  have h1 : ((n : Int) + 128 - 1) / 128 = ((takesN n : Nat) : Int) := by unfold takesN; omega
  have HQ := Lib.hid h1
  clear h1
  go_enter Tryd.func58, Tryd.ntmps58
  go_wp2_with fail
  go_ret
  exact ⟨by rw [← HQ.out]; rfl, rfl⟩
section
variable {w : World} {p g : Nat} {R : Roles} {d : Dk} {s : Sv}
set_option maxHeartbeats 400000 in
theorem each_walk (h : IsDisk w p R d) (hs : SlAt w g p s) (h1 : 1 ≤ d.vs.length) :
    Calls Tryd.prog 57 #[.pointer (some ⟨g, 0, none⟩)] w fun e w' => e = .returned (.int .i64 d.each) ∧ w = w' := by
  have c0 := hs.cell 0 rfl
  have hq : ((d.vs.length : Int) - 1) / 2 = ((d.each : Nat) : Int) := by unfold Dk.each; omega
  have HQ := Lib.hid hq
  have HS := Lib.hid (size_walk h)
  have hb : d.vs.length ≤ 9223372036854775807 := by
    obtain ⟨a, cap, tab, hA⟩ := h
    have h2 := hA.own.2.1
    have h3 := hA.own.2.2.1
    unfold maxLen at h3
    omega
  clear hq h hs
  generalize d.vs.length = N at *
  go_enter Tryd.func57, Tryd.ntmps57
  go_wp2_with fail
  refine HS.out.mono ?_
  rintro e w' ⟨rfl, rfl⟩
  go_wp2_with fail
  go_ret
  exact ⟨by rw [← HQ.out]; rfl, rfl⟩
set_option maxHeartbeats 400000 in
theorem room_walk (h : IsDisk w p R d) (hs : SlAt w g p s) (h1 : 1 ≤ d.vs.length) (h4 : d.vs.length ≤ 400) :
    Calls Tryd.prog 38 #[.pointer (some ⟨g, 0, none⟩)] w fun e w' => e = .returned (.int .i64 d.room) ∧ w = w' := by
  have hq : (d.each : Int) * 128 = ((d.room : Nat) : Int) := by unfold Dk.room; omega
  have he : d.each ≤ 200 := by unfold Dk.each; omega
  have HQ := Lib.hid hq
  have HE := Lib.hid (each_walk h hs h1)
  clear hq h hs
  generalize d.each = N at *
  go_enter Tryd.func38, Tryd.ntmps38
  go_wp2_with fail
  refine HE.out.mono ?_
  rintro e w' ⟨rfl, rfl⟩
  go_wp2_with fail
  go_ret
  exact ⟨by rw [← HQ.out]; rfl, rfl⟩
set_option maxHeartbeats 400000 in
theorem first_walk (h : IsDisk w p R d) (hs : SlAt w g p s) (h1 : 1 ≤ d.vs.length) (h4 : d.vs.length ≤ 400) (hf : Nat) (hf1 : hf ≤ 1000) :
    Calls Tryd.prog 55 #[.pointer (some ⟨g, 0, none⟩), .int .i64 hf] w fun e w' => e = .returned (.int .i64 (d.first hf)) ∧ w = w' := by
  have he : d.each ≤ 200 := by unfold Dk.each; omega
  have hm : hf * d.each ≤ 1000 * 200 := Nat.mul_le_mul hf1 he
  obtain ⟨M, hM⟩ : ∃ M, M = hf * d.each := ⟨_, rfl⟩
  have hq : 1 + (M : Int) = ((d.first hf : Nat) : Int) := by unfold Dk.first; rw [← hM]; omega
  have hx : (hf : Int) * (d.each : Int) = (M : Int) := by rw [hM]; simp
  have HQ := Lib.hid hq
  have HE := Lib.hid (each_walk h hs h1)
  rw [← hM] at hm
  clear hq h hs hM
  generalize d.each = N at *
  go_enter Tryd.func55, Tryd.ntmps55
  go_wp2_with fail
  refine HE.out.mono ?_
  rintro e w' ⟨rfl, rfl⟩
  go_wp2_with fail
  go_ret
  exact ⟨by rw [← HQ.out]; rfl, rfl⟩
set_option maxHeartbeats 400000 in
theorem seq_walk (hs : SlAt w g p s) :
    Calls Tryd.prog 39 #[.pointer (some ⟨g, 0, none⟩)] w fun e w' => e = .returned (.int .i64 s.seq) ∧ w = w' := by
  have c1 := hs.cell 1 rfl
  clear hs
  go_enter Tryd.func39, Tryd.ntmps39
  go_wp2_with fail
  go_ret
  exact ⟨rfl, rfl⟩
end
/-- Bytes, and zeros up to a sector. -/
def secL (b : List Int) : List Int := b ++ List.replicate (128 - b.length) 0
theorem secL_len {b : List Int} (h : b.length ≤ 128) : (secL b).length = 128 := by simp [secL]; omega
theorem secL_bytes {b : List Int} (h : AreB b) : AreB (secL b) := areB_append h (areB_zeros _)
set_option maxHeartbeats 800000 in
theorem sector_walk {w : World} {a : Option Addr} {n c : Nat} {b : List Int} (h : Row .u8 w a n b) (hnil : a = none → c = 0 ∧ n = 0) (hn : n ≤ 128) :
    Calls Tryd.prog 67 #[.slice a n c] w fun e w' => ∃ g cap, e = .returned (.slice (some ⟨g, 0, none⟩) 128 cap) ∧ Own w' 5 1 (some ⟨g, 0, none⟩) cap 128 (byteV (secL b)) ∧ Keeps Nil w w' ∧ w.heap.size ≤ g := by
  have hl := h.llen
  have HC := Lib.hid (cloneB_walk (cap := c) h hnil (by omega))
  have hby := wf_areB h.wf
  have HB := Lib.hid hby
  obtain ⟨k, hk⟩ : ∃ k, k = 128 - n := ⟨_, rfl⟩
  have hks : (128 : Int) - n = (k : Int) := by omega
  have HS : Hid (b ++ List.replicate k 0 = secL b) := Lib.hid (by unfold secL; rw [hl, hk])
  have hnk : n + k = 128 := by omega
  clear hby h hk hnil
  go_enter Tryd.func67, Tryd.ntmps67
  go_wp2_with fail
  refine HC.out.mono ?_
  rintro e w1 ⟨a1, c1, rfl, ho, hk1, hf1⟩
  rw [hl] at ho ⊢
  have HO := Lib.hid (And.intro ho (And.intro hk1 hf1))
  clear ho hk1 hf1 HC hl
  go_wp2_with (at_builtin; go_must (refine wpl_zeros rfl _ _ 25 3 rfl 5 .i64 .i64 Tryd.underlying25 Tryd.underlying3 Tryd.infoU8z a1 c1 n b rfl HO.out.1 HB.out k rfl (by omega) ?_))
  intro a2 c2 w2 ho2 hk2 hf2
  rw [HS.out] at ho2
  obtain ⟨g, hg, _, _⟩ := ho2.some (by omega)
  subst hg
  have HF := Lib.hid (And.intro ho2 (And.intro (HO.out.2.1.step hk2 (fun i hi => .inr (HO.out.2.2 i hi))) (show w.heap.size ≤ g from (hf2 g ((blkOf_some _ _ _ _).2 rfl)).elim (HO.out.2.2 g) (fun e => Nat.le_trans HO.out.2.1.size e))))
  clear ho2 hk2 hf2
  go_wp2_with fail
  go_ret
  exact ⟨g, c2, rfl, HF.out.1, HF.out.2.1, HF.out.2.2⟩
end Go.Proofs.YtkefbgkdkmkghaaDoor
