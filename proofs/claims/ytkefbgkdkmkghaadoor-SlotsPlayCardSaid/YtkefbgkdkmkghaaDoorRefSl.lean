/-
  The document's slots: small functions.
-/
import Derived.Test.YtkefbgkdkmkghaaDoorSlotsSt
import Derived.Deep.RegionHeld3
namespace Go.Proofs.YtkefbgkdkmkghaaDoor
set_option linter.unusedSimpArgs false
set_option linter.unusedVariables false
open Go.RowKit

/-- The document's object. -/
def RSlAt (w : World) (g q : Nat) (s : Sv) : Prop := Blk w g [.pointer (some ⟨q, 0, none⟩), .int .i64 s.seq, .int .i64 s.half, .int .i64 s.many] 78
theorem RSlAt.keep {S : Nat → Prop} {w w' : World} {g p : Nat} {s : Sv} (h : RSlAt w g p s) (hk : Keeps S w w') (hn : ¬ S g) : RSlAt w' g p s := Blk.keep h hk hn
theorem RSlAt.lt {w : World} {g p : Nat} {s : Sv} (h : RSlAt w g p s) : g < w.heap.size := Blk.lt h
section
variable {w : World} {q g : Nat} {Q : Roles} {d : Dk} {s : Sv}
set_option maxHeartbeats 400000 in
theorem half_walk (h : IsRef w q Q d) (hs : RSlAt w g q s) (h1 : 1 ≤ d.vs.length) (h4 : d.vs.length ≤ 400) :
    Calls Tryd.prog 62 #[.pointer (some ⟨g, 0, none⟩)] w fun e w' => e = .returned (.int .i64 d.each) ∧ w = w' := by
  have c0 := hs.cell 0 rfl
  have hq : ((d.vs.length : Int) - 1) / 2 = ((d.each : Nat) : Int) := by unfold Dk.each; omega
  have HQ := Lib.hid hq
  obtain ⟨a, cap, tab, hA⟩ := h
  have d0 := hA.obj.cell 0 rfl
  clear hq hA hs
  generalize d.vs.length = N at *
  go_enter Tryd.func62, Tryd.ntmps62
  go_wp2_with fail
  go_ret
  exact ⟨by rw [← HQ.out]; rfl, rfl⟩
set_option maxHeartbeats 400000 in
theorem refroom_walk (h : IsRef w q Q d) (hs : RSlAt w g q s) (h1 : 1 ≤ d.vs.length) (h4 : d.vs.length ≤ 400) :
    Calls Tryd.prog 44 #[.pointer (some ⟨g, 0, none⟩)] w fun e w' => e = .returned (.int .i64 d.room) ∧ w = w' := by
  have hq : (d.each : Int) * 128 = ((d.room : Nat) : Int) := by unfold Dk.room; omega
  have he : d.each ≤ 200 := by unfold Dk.each; omega
  have HQ := Lib.hid hq
  have HE := Lib.hid (half_walk h hs h1 h4)
  clear hq h hs
  generalize d.each = N at *
  go_enter Tryd.func44, Tryd.ntmps44
  go_wp2_with fail
  refine HE.out.mono ?_
  rintro e w' ⟨rfl, rfl⟩
  go_wp2_with fail
  go_ret
  exact ⟨by rw [← HQ.out]; rfl, rfl⟩
end
set_option maxHeartbeats 400000 in
theorem need_walk (n : Nat) (w : World) (hn : n ≤ 4294967295) : Calls Tryd.prog 63 #[.int .i64 n] w fun e w' => e = .returned (.int .i64 (takesN n)) ∧ w = w' := by
  have h1 : ((n : Int) + 128 - 1) / 128 = ((takesN n : Nat) : Int) := by unfold takesN; omega
  have HQ := Lib.hid h1
  clear h1
  go_enter Tryd.func63, Tryd.ntmps63
  go_wp2_with fail
  go_ret
  exact ⟨by rw [← HQ.out]; rfl, rfl⟩
/-- Are all zeros? -/
def zeroL (l : List Int) : Bool := l.all (· == 0)
theorem zeroL_iff {l : List Int} (h : l.length = 128) : zeroL l = true ↔ l = zsec := by
  unfold zeroL zsec
  rw [List.all_eq_true, List.eq_replicate_iff]
  exact ⟨fun hh => ⟨h, fun b hb => by simpa using hh b hb⟩, fun hh x hx => by simpa using hh.2 x hx⟩
set_option maxHeartbeats 800000 in
theorem zero_walk {w : World} {a : Option Addr} {n c : Nat} {l : List Int} (ha : Row .u8 w a n l) :
    Calls Tryd.prog 59 #[.slice a n c] w fun e w' => e = .returned (.bool (zeroL l)) ∧ w = w' := by
  have hl := ha.llen
  have hma := ha.most
  go_enter Tryd.func59, Tryd.ntmps59
  go_wp2
  go_loopw [3] (fun i wr => ∃ (j : Nat), j ≤ n ∧ i = .int .i64 j ∧ w = wr ∧ Hid (∀ x ∈ l.take j, x = 0)) (fun i _ => n - (intOf i).toNat)
  case atStart => exact ⟨0, Nat.zero_le _, rfl, rfl, Lib.hid (fun x hx => by simp at hx)⟩
  case round =>
    obtain ⟨j, hj, rfl, rfl, hz⟩ := hrel
    by_cases hlt : j < n
    · obtain ⟨b1, o1, rfl, hb1, hc1⟩ := ha.cell (by omega)
      have c1 := hc1 j hlt
      clear hc1
      have hx : l.getD j 0 = l[j]'(by omega) := by simp [List.getD, show j < l.length by omega]
      by_cases e : l.getD j 0 = 0
      · have hnx : ∀ x ∈ l.take (j + 1), x = 0 := fun x hx' => by
          rw [List.take_succ_eq_append_getElem (by omega), List.mem_append, List.mem_singleton, ← hx, e] at hx'
          exact hx'.elim (hz.out x) id
        have HN := Lib.hid hnx
        rw [e] at c1
        clear hnx hx e
        go_wp2
        go_roundw
        case rel => exact ⟨j + 1, by omega, by go_num, by first | rfl | trivial, HN⟩
        case measure => first | (simp [intOf]; done) | (simp [intOf]; omega)
      · have hf : zeroL l = false := by
          unfold zeroL
          rw [Bool.eq_false_iff]
          intro h
          rw [List.all_eq_true] at h
          have := h (l[j]'(by omega)) (List.getElem_mem _)
          rw [← hx] at this
          exact e (by simpa using this)
        have HF := Lib.hid hf
        have he : (l.getD j 0 == 0) = false := by rw [beq_eq_false_iff_ne]; exact e
        clear hf hx e
        generalize l.getD j 0 = x at *
        go_wp2
        go_ret
        exact ⟨by rw [HF.out]; rfl, rfl⟩
    · obtain rfl : j = n := by omega
      have hf : zeroL l = true := by
        unfold zeroL
        rw [List.all_eq_true]
        intro x hx
        have := hz.out x (by rw [List.take_of_length_le (by omega)]; exact hx)
        simpa using this
      have HF := Lib.hid hf
      clear hf
      go_wp2
      go_ret
      exact ⟨by rw [HF.out]; rfl, rfl⟩
theorem or32 (n P : Nat) (hP : 2 ^ n = P) (a x : Int) (ha : 0 ≤ a) (ha2 : a < P) (hx : 0 ≤ x) (h : a + P * x < 4294967296) : bits .or .u32 a (x * P) = a + P * x := by
  obtain ⟨A, rfl⟩ := Int.eq_ofNat_of_zero_le ha
  obtain ⟨X, rfl⟩ := Int.eq_ofNat_of_zero_le hx
  have h1 : A < 2 ^ n := by rw [hP]; omega
  have h5 : ((P : Int) * (X : Int)) = ((P * X : Nat) : Int) := by simp
  have h2 : A + P * X < 4294967296 := by rw [h5] at h; omega
  have h3 : ((X : Int) * (P : Int)) = ((X * P : Nat) : Int) := by simp
  have h4 : X * P = P * X := Nat.mul_comm _ _
  rw [h3, h5, h4, u32_or_nat A (P * X) (by omega) (by omega), Nat.or_comm, ← hP, ← Nat.two_pow_add_eq_or_of_lt h1]
  omega
theorem or4 (a b c d : Int) (ha : 0 ≤ a ∧ a ≤ 255) (hb : 0 ≤ b ∧ b ≤ 255) (hc : 0 ≤ c ∧ c ≤ 255) (hd : 0 ≤ d ∧ d ≤ 255) :
    bits .or .u32 (bits .or .u32 (bits .or .u32 a (b * 256)) (c * 65536)) (d * 16777216) = a + 256 * b + 65536 * c + 16777216 * d := by
  have h1 := or32 8 256 (by decide) a b ha.1 (by omega) hb.1 (by omega)
  have h2 := or32 16 65536 (by decide) (a + 256 * b) c (by omega) (by omega) hc.1 (by omega)
  have h3 := or32 24 16777216 (by decide) (a + 256 * b + 65536 * c) d (by omega) (by omega) hd.1 (by omega)
  have e1 : ((256 : Nat) : Int) = 256 := rfl
  have e2 : ((65536 : Nat) : Int) = 65536 := rfl
  have e3 : ((16777216 : Nat) : Int) = 16777216 := rfl
  rw [e1] at h1
  rw [e2] at h2
  rw [e3] at h3
  rw [h1, h2, h3]
set_option maxHeartbeats 1600000 in
theorem get32_walk {w : World} {a : Option Addr} {c : Nat} {l : List Int} (h : Row .u8 w a 4 l) :
    Calls Tryd.prog 60 #[.slice a 4 c] w fun e w' => e = .returned (.int .u32 (num4 l 0)) ∧ Keeps Nil w w' := by
  have hll := h.llen
  have hb : ∀ i, i < 4 → 0 ≤ l.getD i 0 ∧ l.getD i 0 ≤ 255 := fun i hi => u8_wf (h.wf (l.getD i 0) (by simp [List.getD, show i < l.length by omega]))
  have hb0 := hb 0 (by omega)
  have hb1 := hb 1 (by omega)
  have hb2 := hb 2 (by omega)
  have hb3 := hb 3 (by omega)
  have HN := Lib.hid (show num4 l 0 = l.getD 0 0 + 256 * l.getD 1 0 + 65536 * l.getD 2 0 + 16777216 * l.getD 3 0 by simp [num4])
  obtain ⟨b, off, rfl, hbb, hc⟩ := h.cell (by omega)
  have d0 := hc 0 (by omega)
  have d1 := hc 1 (by omega)
  have d2 := hc 2 (by omega)
  have d3 := hc 3 (by omega)
  simp only [Nat.add_zero] at d0
  clear hc hb h hll
  generalize l.getD 0 0 = x0 at *
  generalize l.getD 1 0 = x1 at *
  generalize l.getD 2 0 = x2 at *
  generalize l.getD 3 0 = x3 at *
  go_enter Tryd.func60, Tryd.ntmps60
  go_wp2_with fail
  go_quiet (fail)
  go_wp2_with fail
  go_ret
  refine ⟨?_, (Keeps.refl Nil w).drewN _⟩
  rw [HN.out, ← or4 x0 x1 x2 x3 hb0 hb1 hb2 hb3]
  rfl
theorem Src.many {w : World} {g : Nat} {l : List Int} {T : TypeId} (h : Blk w g (byteV l) T) (n : Nat) (hn : n = l.length) : Src w (some ⟨g, 0, none⟩) n n 1 (byteV l) := by
  subst hn
  refine ⟨by simp [byteV], fun u hu => by obtain ⟨x, _, rfl⟩ := List.mem_map.1 hu; rfl, .inr ⟨_, rfl, fun j u hu => ?_⟩⟩
  rw [Addr.add_lit]
  simpa using h.cell j hu
def le4 (n : Int) : List Int := [n % 256, n / 256 % 256, n / 65536 % 256, n / 16777216]
theorem le4_s (n : Int) (h0 : 0 ≤ n) (h1 : n < 4294967296) : le4 n = le4s n := by
  unfold le4 le4s
  rw [show n / 16777216 % 256 = n / 16777216 by omega]
def PutPost32 (a : Option Addr) (L : Nat) (l : List Int) (n : Int) (w : World) (e : Ending) (w2 : World) : Prop :=
  ∃ a' cap', e = .returned (.slice a' (L + 4) cap') ∧ Own w2 5 1 a' cap' (L + 4) (byteV (l ++ le4s n)) ∧ Keeps (blkOf a) w w2 ∧ ∀ k, blkOf a' k → blkOf a k ∨ w.heap.size ≤ k
set_option maxHeartbeats 800000 in
theorem put32_walk {w : World} {cap L : Nat} {a : Option Addr} {l : List Int} (ho : Own w 5 1 a cap L (byteV l)) (n : Int) (hn0 : 0 ≤ n) (hn : n < 4294967296) (hl : L ≤ 100000) :
    Calls Tryd.prog 71 #[.slice a L cap, .int .u32 n] w (PutPost32 a L l n w) := by
  have hmx := ho.2.2.1
  have hlt := ho.lt
  have HLE := Lib.hid (le4_s n hn0 hn)
  go_enter Tryd.func71, Tryd.ntmps71
  go_wp2_with (first | (refine wpList_bs rfl 25 5 4 _ rfl (byteV (le4 n)) Tryd.underlying25 Tryd.bs8 rfl (by decide) (by decide) rfl (by simp [Value.cells, byteV, le4]) ?_) | (at_builtin; go_must (refine wpl_append rfl _ _ 25 rfl 5 1 1 Tryd.underlying25 Tryd.info8s (by omega) _ _ L _ rfl (ho.keep0 ((Keeps.refl _ _).alloc _)) _ 4 4 (byteV (le4 n)) rfl (Src.many (Blk.new _ _ _) 4 rfl) (by unfold maxLen; omega) (by omega) ?_)))
  intro a' cap' w2 hown2 hk2 hf2 _
  have hk1 : Keeps Nil w (w.alloc (.cells (byteV (le4 n)).toArray 5)) := (Keeps.refl Nil w).alloc _
  go_wp2_with fail
  go_ret
  refine ⟨a', cap', rfl, by rw [byteV_append, ← HLE.out]; exact hown2, (hk1.nil (S := blkOf a)).step hk2 (fun i hi => .inl hi), fun k hk => ?_⟩
  rcases hf2 k hk with h | h
  · exact .inl h
  · right; omega
def lenOf : Value → Nat
  | .slice _ n _ => n
  | _ => 0
theorem headBare_split (s : Sv) : headBare s = ((magicL ++ le4s s.seq) ++ [(s.half : Int) % 256]) ++ le4s s.many := rfl
set_option maxRecDepth 20000 in
set_option maxHeartbeats 3200000 in
theorem refhead_walk {w : World} {g q : Nat} {s : Sv} (hs : RSlAt w g q s) (hb : s.seq ≤ 4294967295 ∧ s.half ≤ 255 ∧ s.many ≤ 4294967295) :
    Calls Tryd.prog 61 #[.pointer (some ⟨g, 0, none⟩)] w fun e w' => ∃ a cap, e = .returned (.slice a 128 cap) ∧ Own w' 5 1 a cap 128 (byteV (headL s)) ∧ Keeps Nil w w' ∧ ∀ k, blkOf a k → w.heap.size ≤ k := by
  have c1 := hs.cell 1 rfl
  have HSL := Lib.hid hs
  obtain ⟨hb1, hb2, hb3⟩ := hb
  have HHB : ∃ HB, Hid (HB = ((magicL ++ le4s s.seq) ++ [(s.half : Int) % 256]) ++ le4s s.many ∧ HB = headBare s) := ⟨_, Lib.hid ⟨rfl, rfl⟩⟩
  obtain ⟨HB, HHB⟩ := HHB
  obtain ⟨SQ, hSQ⟩ : ∃ x : Int, x = (s.seq : Int) := ⟨_, rfl⟩
  obtain ⟨SH, hSH⟩ : ∃ x : Int, x = (s.half : Int) := ⟨_, rfl⟩
  obtain ⟨SM, hSM⟩ : ∃ x : Int, x = (s.many : Int) := ⟨_, rfl⟩
  have HSS := Lib.hid (And.intro hSQ (And.intro hSH hSM))
  rw [← hSQ] at c1 HHB
  rw [← hSH, ← hSM] at HHB
  have hq1 : 0 ≤ SQ ∧ SQ < 4294967296 := by omega
  have hh1 : 0 ≤ SH ∧ SH ≤ 255 := by omega
  have hm1 : 0 ≤ SM ∧ SM < 4294967296 := by omega
  have hqw : IntKind.u32.wrap SQ = SQ := by rw [IntKind.wrap_u32]; omega
  have hmw : IntKind.u32.wrap SM = SM := by rw [IntKind.wrap_u32]; omega
  have hhw : IntKind.u8.wrap SH = SH % 256 := by rw [IntKind.wrap_u8]
  clear hSQ hSH hSM hb1 hb2 hb3 hs
  have c1a : (w.alloc (.cells #[.int .u8 67, .int .u8 79, .int .u8 85, .int .u8 82] 5)).cell? ⟨g, 1, none⟩ = some (.int .i64 SQ) := ((Keeps.refl Nil w).alloc _).cell c1 (fun h => h)
  go_enter Tryd.func61, Tryd.ntmps61
  go_wp2_with (refine wpList_bs rfl 25 5 4 _ rfl (byteV magicL) Tryd.underlying25 Tryd.bs8 rfl (by decide) (by decide) rfl (by simp [Value.cells, byteV, magicL]) ?_)
  have hbM : Blk (w.alloc (.cells #[.int .u8 67, .int .u8 79, .int .u8 85, .int .u8 82] 5)) w.heap.size (byteV magicL) 5 := Blk.new w (byteV magicL) 5
  have hkM : Keeps Nil w (w.alloc (.cells #[.int .u8 67, .int .u8 79, .int .u8 85, .int .u8 82] 5)) := (Keeps.refl _ _).alloc _
  generalize w.alloc (.cells #[.int .u8 67, .int .u8 79, .int .u8 85, .int .u8 82] 5) = wA at *
  have hoM : Own wA 5 1 (some ⟨w.heap.size, 0, none⟩) 4 4 (byteV magicL) := own_lit hbM rfl (by decide)
  obtain ⟨gM, hgM⟩ : ∃ x, w.heap.size = x := ⟨_, rfl⟩
  have hgMf : w.heap.size ≤ gM := by omega
  rw [hgM] at hoM ⊢
  clear hbM hgM c1 c1a
  have HPM := Lib.hid (put32_walk hoM SQ hq1.1 hq1.2 (by omega))
  have HK0 := Lib.hid hkM
  clear hkM hoM
  refine HPM.out.mono ?_
  rintro e w1 ⟨a1, p1, rfl, ho1, hk1, hf1⟩
  have HO1 := Lib.hid (And.intro ho1 (And.intro (HK0.out.step hk1 (fun k hk => .inr (by rw [(blkOf_some _ _ _ _).1 hk]; exact hgMf))) (show ∀ k, blkOf a1 k → w.heap.size ≤ k from fun k hk => (hf1 k hk).elim (fun h => by rw [(blkOf_some _ _ _ _).1 h]; exact hgMf) (fun h => Nat.le_trans HK0.out.size h))))
  clear ho1 hk1 hf1 HPM
  have hs1 := HSL.out.keep HO1.out.2.1 (fun h => h)
  have c2 := Blk.cell hs1 2 rfl
  have c3 := Blk.cell hs1 3 rfl
  rw [← HSS.out.2.1] at c2
  rw [← HSS.out.2.2] at c3
  clear hs1
  go_upto_region 2 with fail
  refine wp_region_held_drew (S := fun w' => w'.cell? ⟨g, 2, none⟩ = some (.int .i64 SH) ∧ w'.cell? ⟨g, 3, none⟩ = some (.int .i64 SM)) (by kernel_rfl) ⟨c2, c3⟩ (fun hHeld => ?_)
  have hkd : Keeps Nil w1 w1.drew := (Keeps.refl Nil w1).drew
  have HKD := Lib.hid (HO1.out.2.1.trans hkd)
  have HOv := Lib.hid (HO1.out.1.keep0 hkd)
  have HFv := Lib.hid HO1.out.2.2
  have c2' := hkd.cell c2 (fun h => h)
  have c3' := hkd.cell c3 (fun h => h)
  clear hkd c2 c3 HO1 HK0
  generalize w1.drew = v0 at *
  refine takeL (i := 0) (v := _) rfl (by kernel_rfl) (by kernel_rfl) (by kernel_rfl) (fun _ _ _ h => h) (Or.inl ⟨by rfl, by intro w hSw; (try dsimp only at hSw); go_simp; try with_reducible rfl⟩) (by assumption) ?_
  try simp only [Act.put, List.setIfInBounds_toArray, List.set_cons_zero, List.set_cons_succ]
  refine takeL (i := 1) (v := _) rfl (by kernel_rfl) (by kernel_rfl) (by kernel_rfl) (fun _ _ _ h => h) (Or.inl ⟨by rfl, by intro w hSw; (try dsimp only at hSw); go_simp; try with_reducible rfl⟩) (by assumption) ?_
  try simp only [Act.put, List.setIfInBounds_toArray, List.set_cons_zero, List.set_cons_succ]
  refine takeL (i := 2) (v := _) rfl (by kernel_rfl) (by kernel_rfl) (by kernel_rfl) (fun _ _ _ h => h) (Or.inl ⟨by rfl, by intro w hSw; (try dsimp only at hSw); go_simp; try with_reducible rfl⟩) (by assumption) ?_
  try simp only [Act.put, List.setIfInBounds_toArray, List.set_cons_zero, List.set_cons_succ]
  refine takeL (i := 3) (v := _) rfl (by kernel_rfl) (by kernel_rfl) (by kernel_rfl) (fun _ _ _ h => h) (Or.inl ⟨by rfl, by intro w hSw; (try dsimp only at hSw); go_simp; try with_reducible rfl⟩) (by assumption) ?_
  try simp only [Act.put, List.setIfInBounds_toArray, List.set_cons_zero, List.set_cons_succ]
  refine takeL (i := 4) (v := _) rfl (by kernel_rfl) (by kernel_rfl) (by kernel_rfl) (fun _ _ _ h => h) (Or.inl ⟨by rfl, by intro w hSw; (try dsimp only at hSw); go_simp; try with_reducible rfl⟩) (by assumption) ?_
  try simp only [Act.put, List.setIfInBounds_toArray, List.set_cons_zero, List.set_cons_succ]
  refine takeL (i := 5) (v := _) rfl (by kernel_rfl) (by kernel_rfl) (by kernel_rfl) (fun _ _ _ h => h) (Or.inl ⟨by rfl, by intro w hSw; (try dsimp only at hSw); go_simp; try with_reducible rfl⟩) (by assumption) ?_
  try simp only [Act.put, List.setIfInBounds_toArray, List.set_cons_zero, List.set_cons_succ]
  refine takeL (i := 8) (v := _) rfl (by kernel_rfl) (by kernel_rfl) (by kernel_rfl) (fun _ _ _ h => h) (Or.inl ⟨by rfl, by intro w hSw; (try dsimp only at hSw); go_simp; try with_reducible rfl⟩) (by assumption) ?_
  try simp only [Act.put, List.setIfInBounds_toArray, List.set_cons_zero, List.set_cons_succ]
  refine takeL (i := 9) (v := _) rfl (by kernel_rfl) (by kernel_rfl) (by kernel_rfl) (fun _ _ _ h => h) (Or.inl ⟨by rfl, by intro w hSw; (try dsimp only at hSw); go_simp; try with_reducible rfl⟩) (by assumption) ?_
  try simp only [Act.put, List.setIfInBounds_toArray, List.set_cons_zero, List.set_cons_succ]
  refine takeL (i := 10) (v := _) rfl (by kernel_rfl) (by kernel_rfl) (by kernel_rfl) (fun _ _ _ h => h) (Or.inl ⟨by rfl, by intro w hSw; (try dsimp only at hSw); go_simp; try with_reducible rfl⟩) (by assumption) ?_
  try simp only [Act.put, List.setIfInBounds_toArray, List.set_cons_zero, List.set_cons_succ]
  refine takeL (i := 11) (v := _) rfl (by kernel_rfl) (by kernel_rfl) (by kernel_rfl) (fun _ _ _ h => h) (Or.inl ⟨by rfl, by intro w hSw; (try dsimp only at hSw); go_simp; try with_reducible rfl⟩) (by assumption) ?_
  try simp only [Act.put, List.setIfInBounds_toArray, List.set_cons_zero, List.set_cons_succ]
  refine takeL (i := 12) (v := _) rfl (by kernel_rfl) (by kernel_rfl) (by kernel_rfl) (fun _ _ _ h => h) (Or.inl ⟨by rfl, by intro w hSw; (try dsimp only at hSw); go_simp; try with_reducible rfl⟩) (by assumption) ?_
  try simp only [Act.put, List.setIfInBounds_toArray, List.set_cons_zero, List.set_cons_succ]
  refine onlyL (i := 6) rfl (by kernel_rfl) (fun K hK => ?_)
  refine step_bsK rfl 25 5 1 _ rfl (byteV [SH % 256]) Tryd.underlying25 Tryd.bs8 rfl (by decide) (by decide) (by simp [Act.eval, byteV]) (by simp [Value.cells, byteV]) ?_
  intro g6 w6 hg6 hb6 qk6
  clear hg6
  refine (fun hHeld => hK _ _ hHeld ?_) (⟨qk6.cell c2' (fun h => h), qk6.cell c3' (fun h => h)⟩)
  clear hK
  try simp only [Act.put, List.setIfInBounds_toArray, List.set_cons_zero, List.set_cons_succ]
  refine onlyL (i := 7) rfl (by kernel_rfl) (fun K hK => ?_)
  refine step_appendO rfl _ _ 25 rfl 5 1 1 Tryd.underlying25 Tryd.info8s (by omega) a1 p1 8 (byteV (magicL ++ le4s SQ)) rfl (HOv.out.keep0 qk6) (some ⟨g6, 0, none⟩) 1 1 (byteV [SH % 256]) rfl (Src.one hb6 rfl) (by unfold maxLen; omega) (by omega) ?_
  intro a7 c7 w7 ho7 hk7 hf7
  rw [← byteV_append] at ho7
  have hkA : Keeps Nil v0 w7 → True := fun _ => trivial
  have hf7w : ∀ k, blkOf a7 k → w.heap.size ≤ k := fun k hk => (hf7 k hk).elim (HFv.out k) (fun e => by have := HKD.out.size; have := qk6.size; omega)
  have hKw : Keeps Nil w w7 := (HKD.out.trans qk6).step hk7 (fun k hk => .inr (HFv.out k hk))
  have d2 := hk7.cell (qk6.cell c2' (fun h => h)) (fun h => by have := HFv.out g h; have := HSL.out.lt; omega)
  have d3 := hk7.cell (qk6.cell c3' (fun h => h)) (fun h => by have := HFv.out g h; have := HSL.out.lt; omega)
  refine (fun hHeld => hK _ _ hHeld ?_) (⟨d2, d3⟩)
  clear hK
  try simp only [Act.put, List.setIfInBounds_toArray, List.set_cons_zero, List.set_cons_succ]
  refine onlyL (i := 13) rfl (by kernel_rfl) (fun K hK => ?_)
  go_simp
  refine (put32_walk ho7 SM hm1.1 hm1.2 (by omega)).mono ?_
  rintro e w13 ⟨a13, c13, rfl, ho13, hk13, hf13⟩
  have hf13w : ∀ k, blkOf a13 k → w.heap.size ≤ k := fun k hk => (hf13 k hk).elim (hf7w k) (fun h => Nat.le_trans hKw.size h)
  have hKz : Keeps Nil w w13 := hKw.step hk13 (fun k hk => .inr (hf7w k hk))
  refine (fun hHeld => hK _ _ hHeld ?_) (⟨hk13.cell d2 (fun h => by have := hf7w g h; have := HSL.out.lt; omega), hk13.cell d3 (fun h => by have := hf7w g h; have := HSL.out.lt; omega)⟩)
  clear hK
  try simp only [Act.put, List.setIfInBounds_toArray, List.set_cons_zero, List.set_cons_succ]
  refine takeL (i := 14) (v := _) rfl (by kernel_rfl) (by kernel_rfl) (by kernel_rfl) (fun _ _ _ h => h) (Or.inl ⟨by rfl, by intro w hSw; (try dsimp only at hSw); go_simp; try with_reducible rfl⟩) (by assumption) ?_
  try simp only [Act.put, List.setIfInBounds_toArray, List.set_cons_zero, List.set_cons_succ]
  refine wpAnyH_done (by kernel_rfl) ?_ _
  have HB2 := Lib.hid (show Own w13 5 1 a13 c13 13 (byteV HB) ∧ Keeps Nil w w13 ∧ (∀ k, blkOf a13 k → w.heap.size ≤ k) from ⟨by rw [HHB.out.1]; exact ho13, hKz, hf13w⟩)
  clear ho13 hf13 hf13w hKw ho7 hf7 hf7w hb6 hHeld hKz hk13 hk7 qk6 d2 d3 c2' c3'
  go_wp2_with fail
  go_loopw [3] (fun x wr => ∃ (j : Nat) (a : Option Addr) (c n : Nat), x = .slice a n c ∧ Hid (n = 13 + j) ∧ n ≤ 128 ∧ Hid (Own wr 5 1 a c n (byteV (HB ++ List.replicate j 0))) ∧ Hid (Keeps Nil w wr) ∧ Hid (∀ k, blkOf a k → w.heap.size ≤ k)) (fun x _ => 128 - (lenOf x))
  case atStart => exact ⟨0, a13, c13, 13, rfl, Lib.hid rfl, by omega, Lib.hid (by simpa using HB2.out.1), Lib.hid HB2.out.2.1, Lib.hid HB2.out.2.2⟩
  case round =>
    obtain ⟨j, a, c, n, rfl, hn, hn2, hO, hkr, hfr⟩ := hrel
    by_cases hlt : n < 128
    · have hni : (n : Int) < 128 := by omega
      have HS : Hid (byteV (HB ++ List.replicate (j + 1) 0) = byteV (HB ++ List.replicate j 0) ++ [.int .u8 0]) := Lib.hid (by rw [List.replicate_succ', ← List.append_assoc]; unfold byteV; rw [List.map_append]; rfl)
      clear HB2
      go_wp2_with (first | (refine wpList_bs rfl 25 5 1 _ rfl [.int .u8 0] Tryd.underlying25 Tryd.bs8 rfl (by decide) (by decide) rfl (by simp [Value.cells]) ?_) | (at_builtin; go_must (refine wpl_append rfl _ _ 25 rfl 5 1 1 Tryd.underlying25 Tryd.info8s (by omega) _ _ n _ rfl (hO.out.keep0 ((Keeps.refl _ _).alloc _)) _ 1 1 [.int .u8 0] rfl (Src.one (Blk.new _ _ _) rfl) (by unfold maxLen; omega) (by omega) ?_)))
      intro a2 cap2 w2 hown2 hk2 hf2 _
      rw [← HS.out] at hown2
      have HO2 := Lib.hid hown2
      have HK2 := Lib.hid ((hkr.out.alloc _).step hk2 (fun i hi => .inr (hfr.out i hi)))
      have HF2 := Lib.hid (show ∀ k, blkOf a2 k → w.heap.size ≤ k from fun k hk => by
          rcases hf2 k hk with h' | h'
          · exact hfr.out k h'
          · rw [h']; have := hkr.out.size; simp; omega)
      clear hown2 hk2 hf2
      go_wp2_with fail
      have HN1 := Lib.hid (show n + 1 = 13 + (j + 1) by have := hn.out; omega)
      go_roundw
      case rel => (repeat apply Exists.intro); exact ⟨⟨j + 1, a2, cap2, n + 1, by go_num, HN1, by omega, HO2, HK2, HF2⟩, rfl⟩
      case measure => first | (simp [lenOf]; done) | (simp [lenOf]; omega)
    · obtain rfl : n = 128 := by omega
      have hll : HB ++ List.replicate j 0 = headL s := by rw [HHB.out.2]; unfold headL secL; rw [headBare_len, show 128 - 13 = j by have := hn.out; omega]
      have HL := Lib.hid hll
      have hni : ¬ ((128 : Int) < 128) := by omega
      clear hll
      go_wp2_with fail
      go_ret
      exact ⟨a, c, rfl, by rw [← HL.out]; exact hO.out, hkr.out, hfr.out⟩
/-- What the document's Load hands out. -/
def RLoadP (w : World) (l : List Int) (n : Nat) (e : Ending) (w' : World) : Prop := ∃ a cap, e = .returned (.tuple #[.slice a n cap, .int .i64 0]) ∧ Row .u8 w' a n l ∧ Keeps Nil w w' ∧ ∀ k, blkOf a k → w.heap.size ≤ k
set_option maxRecDepth 20000 in
set_option maxHeartbeats 3200000 in
theorem refload_walk {w : World} {q g : Nat} {Q : Roles} {d : Dk} {s : Sv} (hD : IsRef w q Q d) (hs : RSlAt w g q s) {m : Nat} (hok : d.Ok m) (hm9 : m ≤ 100000) (ho : d.off = false) (h1 : 1 ≤ d.vs.length) (hf : d.first s.half + takesN s.many ≤ d.vs.length) (hm : s.many ≤ 60000) (hh : s.half ≤ 1) :
    Calls Tryd.prog 43 #[.pointer (some ⟨g, 0, none⟩)] w (RLoadP w (d.loadV s) s.many) := by
  have HD := Lib.hid hD
  have HSL := Lib.hid hs
  have HOK := Lib.hid hok
  have HO := Lib.hid ho
  have h4 := hok.size
  have HC0 : Hid (codeO none = 0) := Lib.hid rfl
  have HTK := Lib.hid (fun w => need_walk s.many w (by omega))
  obtain ⟨T, hT⟩ : ∃ T, T = takesN s.many := ⟨_, rfl⟩
  have hTb : s.many ≤ 128 * T ∧ T ≤ 500 := by rw [hT]; unfold takesN; omega
  rw [← hT] at HTK hf
  have HLV : Hid (d.loadV s = (d.loadTo s T).take s.many) := Lib.hid (by rw [hT]; rfl)
  have HHW := Lib.hid (fun w (hD : IsRef w q Q d) (hS : RSlAt w g q s) => half_walk hD hS h1 h4)
  have he : d.each ≤ 200 := by unfold Dk.each; omega
  have hml : s.half * d.each ≤ 1 * 200 := Nat.mul_le_mul hh he
  obtain ⟨M, hM⟩ : ∃ M, M = s.half * d.each := ⟨_, rfl⟩
  obtain ⟨F, hF⟩ : ∃ F, F = d.first s.half := ⟨_, rfl⟩
  have hFM : F = 1 + M := by rw [hF, hM]; rfl
  obtain ⟨N, hN⟩ : ∃ N, N = d.each := ⟨_, rfl⟩
  have hx : (s.half : Int) * (N : Int) = (M : Int) := by rw [hM, hN]; simp
  rw [← hM] at hml
  rw [← hN] at HHW
  rw [← hF] at hf
  have HFF := Lib.hid hF
  obtain ⟨hv, hhv⟩ : ∃ hv, hv = s.half := ⟨_, rfl⟩
  have c3 := Blk.cell hs 3 rfl
  have hw1 : IntKind.i64.wrap ((hv : Int) * (N : Int)) = (M : Int) := by rw [hhv, hx, IntKind.wrap_i64]; omega
  have hw2 : IntKind.i64.wrap (1 + (M : Int)) = (F : Int) := by rw [IntKind.wrap_i64]; omega
  have HHV := Lib.hid hhv
  clear hD hs hok ho hT hF hM hN hx hhv
  go_enter Tryd.func43, Tryd.ntmps43
  go_wp2_with fail
  go_loopw [5, 4, 6, 7] (fun x o _ _ wr => ∃ (j : Nat) (ao : Option Addr) (no co : Nat), x = .int .i64 j ∧ j ≤ T ∧ o = .slice ao no co ∧ Hid (no = 128 * j) ∧ Hid (Own wr 5 1 ao co no (byteV (d.loadTo s j))) ∧ Hid (Keeps Nil w wr) ∧ Hid (∀ k, blkOf ao k → w.heap.size ≤ k)) (fun x _ _ _ _ => T - (intOf x).toNat)
  case atStart => exact ⟨0, none, 0, 0, rfl, Nat.zero_le _, rfl, Lib.hid rfl, Lib.hid (Own.nil _ _ _), Lib.hid (Keeps.refl _ _), Lib.hid (fun k hk => (blkOf_none k hk).elim)⟩
  case round =>
    obtain ⟨j, ao, no, co, rfl, hj, rfl, hno, hO, hkj, hfr⟩ := hrel
    have hS := HSL.out.keep hkj.out (fun h => h)
    have c3r := hkj.out.cell c3 (fun h => h)
    go_wp2_with fail
    refine (HTK.out wr).mono ?_
    rintro e w1 ⟨rfl, rfl⟩
    by_cases hjT : j < T
    · have hj1 : (j : Int) < T := by omega
      have hj0 : (0 : Int) ≤ j := by omega
      have c0 := Blk.cell hS 0 rfl
      have c2 := Blk.cell hS 2 rfl
      rw [← HHV.out] at c2
      obtain ⟨I, hI⟩ : ∃ I, I = F + j := ⟨_, rfl⟩
      have hfj : IntKind.i64.wrap (1 + (M : Int) + (j : Int)) = (I : Int) := by rw [hI, show 1 + (M : Int) + j = ((F + j : Nat) : Int) by omega]; exact IntWalk.i64_in _ (by omega)
      have hrd := readOn HO.out (i := I) (by omega)
      have hlv := lastV_okS HOK.out (i := I) (by omega)
      have hsu := loadTo_succ d s j
      rw [← HFF.out, ← hI] at hsu
      have HRD := Lib.hid (And.intro hrd (And.intro hlv hsu))
      have hno3 : no + 128 ≤ 100000 := by have := hno.out; omega
      clear hI hrd hlv hsu c3 c3r
      go_upto_region 5 with fail
      refine wp_region_held_drew (S := fun w' => w'.cell? ⟨g, 0, none⟩ = some (.pointer (some ⟨q, 0, none⟩)) ∧ w'.cell? ⟨g, 2, none⟩ = some (.int .i64 hv)) (by kernel_rfl) ⟨c0, c2⟩ (fun hHeld => ?_)
      have hkd : Keeps Nil wr wr.drew := (Keeps.refl Nil wr).drew
      have HDv := Lib.hid (HD.out.keep0 (hkj.out.trans hkd))
      have HSv := Lib.hid (hS.keep hkd (fun h => h))
      have HKv := Lib.hid (hkj.out.trans hkd)
      have HOv := Lib.hid (hO.out.keep0 hkd)
      clear hkd c0 c2 hS hO hkj
      generalize wr.drew = v0 at *
      refine takeL (i := 0) (v := _) rfl (by kernel_rfl) (by kernel_rfl) (by kernel_rfl) (fun _ _ _ h => h) (Or.inl ⟨by rfl, by intro w hSw; (try dsimp only at hSw); go_simp; try with_reducible rfl⟩) (by assumption) ?_
      try simp only [Act.put, List.setIfInBounds_toArray, List.set_cons_zero, List.set_cons_succ]
      refine takeL (i := 1) (v := _) rfl (by kernel_rfl) (by kernel_rfl) (by kernel_rfl) (fun _ _ _ h => h) (Or.inl ⟨by rfl, by intro w hSw; (try dsimp only at hSw); go_simp; try with_reducible rfl⟩) (by assumption) ?_
      try simp only [Act.put, List.setIfInBounds_toArray, List.set_cons_zero, List.set_cons_succ]
      refine takeL (i := 2) (v := _) rfl (by kernel_rfl) (by kernel_rfl) (by kernel_rfl) (fun _ _ _ h => h) (Or.inl ⟨by rfl, by intro w hSw; (try dsimp only at hSw); go_simp; try with_reducible rfl⟩) (by assumption) ?_
      try simp only [Act.put, List.setIfInBounds_toArray, List.set_cons_zero, List.set_cons_succ]
      refine takeL (i := 3) (v := _) rfl (by kernel_rfl) (by kernel_rfl) (by kernel_rfl) (fun _ _ _ h => h) (Or.inl ⟨by rfl, by intro w hSw; (try dsimp only at hSw); go_simp; try with_reducible rfl⟩) (by assumption) ?_
      try simp only [Act.put, List.setIfInBounds_toArray, List.set_cons_zero, List.set_cons_succ]
      refine takeL (i := 4) (v := _) rfl (by kernel_rfl) (by kernel_rfl) (by kernel_rfl) (fun _ _ _ h => h) (Or.inl ⟨by rfl, by intro w hSw; (try dsimp only at hSw); go_simp; try with_reducible rfl⟩) (by assumption) ?_
      try simp only [Act.put, List.setIfInBounds_toArray, List.set_cons_zero, List.set_cons_succ]
      refine takeL (i := 5) (v := _) rfl (by kernel_rfl) (by kernel_rfl) (by kernel_rfl) (fun _ _ _ h => h) (Or.inl ⟨by rfl, by intro w hSw; (try dsimp only at hSw); go_simp; try with_reducible rfl⟩) (by assumption) ?_
      try simp only [Act.put, List.setIfInBounds_toArray, List.set_cons_zero, List.set_cons_succ]
      refine takeL (i := 6) (v := _) rfl (by kernel_rfl) (by kernel_rfl) (by kernel_rfl) (fun _ _ _ h => h) (Or.inl ⟨by rfl, by intro w hSw; (try dsimp only at hSw); go_simp; try with_reducible rfl⟩) (by assumption) ?_
      try simp only [Act.put, List.setIfInBounds_toArray, List.set_cons_zero, List.set_cons_succ]
      refine takeL (i := 7) (v := _) rfl (by kernel_rfl) (by kernel_rfl) (by kernel_rfl) (fun _ _ _ h => h) (Or.inl ⟨by rfl, by intro w hSw; (try dsimp only at hSw); go_simp; try with_reducible rfl⟩) (by assumption) ?_
      try simp only [Act.put, List.setIfInBounds_toArray, List.set_cons_zero, List.set_cons_succ]
      refine takeL (i := 8) (v := _) rfl (by kernel_rfl) (by kernel_rfl) (by kernel_rfl) (fun _ _ _ h => h) (Or.inl ⟨by rfl, by intro w hSw; (try dsimp only at hSw); go_simp; try with_reducible rfl⟩) (by assumption) ?_
      try simp only [Act.put, List.setIfInBounds_toArray, List.set_cons_zero, List.set_cons_succ]
      refine takeL (i := 12) (v := _) rfl (by kernel_rfl) (by kernel_rfl) (by kernel_rfl) (fun _ _ _ h => h) (Or.inl ⟨by rfl, by intro w hSw; (try dsimp only at hSw); go_simp; try with_reducible rfl⟩) (by assumption) ?_
      try simp only [Act.put, List.setIfInBounds_toArray, List.set_cons_zero, List.set_cons_succ]
      refine onlyL (i := 9) rfl (by kernel_rfl) (fun K hK => ?_)
      go_simp
      refine (HHW.out v0 HDv.out HSv.out).mono ?_
      rintro e w2 ⟨rfl, rfl⟩
      refine (fun hHeld => hK _ _ hHeld ?_) (hHeld)
      clear hK
      try simp only [Act.put, List.setIfInBounds_toArray, List.set_cons_zero, List.set_cons_succ]
      refine takeL (i := 10) (v := _) rfl (by kernel_rfl) (by kernel_rfl) (by kernel_rfl) (fun _ _ _ h => h) (Or.inl ⟨by rfl, by intro w hSw; (try dsimp only at hSw); go_simp; try with_reducible rfl⟩) (by assumption) ?_
      try simp only [Act.put, List.setIfInBounds_toArray, List.set_cons_zero, List.set_cons_succ]
      refine takeL (i := 11) (v := _) rfl (by kernel_rfl) (by kernel_rfl) (by kernel_rfl) (fun _ _ _ h => h) (Or.inl ⟨by rfl, by intro w hSw; (try dsimp only at hSw); go_simp; try with_reducible rfl⟩) (by assumption) ?_
      try simp only [Act.put, List.setIfInBounds_toArray, List.set_cons_zero, List.set_cons_succ]
      refine takeL (i := 13) (v := _) rfl (by kernel_rfl) (by kernel_rfl) (by kernel_rfl) (fun _ _ _ h => h) (Or.inl ⟨by rfl, by intro w hSw; (try dsimp only at hSw); go_simp; try with_reducible rfl⟩) (by assumption) ?_
      try simp only [Act.put, List.setIfInBounds_toArray, List.set_cons_zero, List.set_cons_succ]
      refine onlyL (i := 14) rfl (by kernel_rfl) (fun K hK => ?_)
      go_simp
      have hmr := refread_walk HDv.out HOK.out (by omega) (I : Nat)
      rw [HRD.out.1.1, HRD.out.1.2] at hmr
      refine hmr.mono ?_
      clear hmr
      rintro e w3 ⟨ar, nr, cr, rfl, hor, hnl, hk3, hf3⟩
      rw [HRD.out.2.1.1] at hnl
      rw [HC0.out]
      subst hnl
      refine (fun hHeld => hK _ _ hHeld ?_) (⟨hk3.cell hHeld.1 (fun h => h), hk3.cell hHeld.2 (fun h => h)⟩)
      clear hK
      try simp only [Act.put, List.setIfInBounds_toArray, List.set_cons_zero, List.set_cons_succ]
      refine takeL (i := 15) (v := _) rfl (by kernel_rfl) (by kernel_rfl) (by kernel_rfl) (fun _ _ _ h => h) (Or.inl ⟨by rfl, by intro w hSw; (try dsimp only at hSw); go_simp; try with_reducible rfl⟩) (by assumption) ?_
      try simp only [Act.put, List.setIfInBounds_toArray, List.set_cons_zero, List.set_cons_succ]
      refine takeL (i := 16) (v := _) rfl (by kernel_rfl) (by kernel_rfl) (by kernel_rfl) (fun _ _ _ h => h) (Or.inl ⟨by rfl, by intro w hSw; (try dsimp only at hSw); go_simp; try with_reducible rfl⟩) (by assumption) ?_
      try simp only [Act.put, List.setIfInBounds_toArray, List.set_cons_zero, List.set_cons_succ]
      refine takeL (i := 17) (v := _) rfl (by kernel_rfl) (by kernel_rfl) (by kernel_rfl) (fun _ _ _ h => h) (Or.inl ⟨by rfl, by intro w hSw; (try dsimp only at hSw); go_simp; try with_reducible rfl⟩) (by assumption) ?_
      try simp only [Act.put, List.setIfInBounds_toArray, List.set_cons_zero, List.set_cons_succ]
      refine takeL (i := 18) (v := _) rfl (by kernel_rfl) (by kernel_rfl) (by kernel_rfl) (fun _ _ _ h => h) (Or.inl ⟨by rfl, by intro w hSw; (try dsimp only at hSw); go_simp; try with_reducible rfl⟩) (by assumption) ?_
      try simp only [Act.put, List.setIfInBounds_toArray, List.set_cons_zero, List.set_cons_succ]
      refine takeL (i := 19) (v := _) rfl (by kernel_rfl) (by kernel_rfl) (by kernel_rfl) (fun _ _ _ h => h) (Or.inl ⟨by rfl, by intro w hSw; (try dsimp only at hSw); go_simp; try with_reducible rfl⟩) (by assumption) ?_
      try simp only [Act.put, List.setIfInBounds_toArray, List.set_cons_zero, List.set_cons_succ]
      refine wpAnyH_done (by kernel_rfl) ?_ _
      have HR3 := Lib.hid (And.intro hor (And.intro (HKv.out.trans hk3) (HOv.out.keep0 hk3)))
      clear hHeld hor hk3 hf3 HDv HSv HKv HOv
      have HSR := Lib.hid (HR3.out.1.src (fun u hu => by obtain ⟨x, _, rfl⟩ := List.mem_map.1 hu; rfl))
      go_wp2_with (at_builtin; go_must (refine wpl_append rfl _ _ 25 rfl 5 1 1 Tryd.underlying25 Tryd.info8s (by omega) ao co no _ rfl HR3.out.2.2 ar 128 cr (byteV (lastV (d.at_ I))) rfl HSR.out (by unfold maxLen; omega) (by omega) ?_))
      intro a5 c5 w5 hO5 hk5 hf5 _
      have HX := Lib.hid (And.intro (show Own w5 5 1 a5 c5 (no + 128) (byteV (d.loadTo s (j + 1))) by rw [HRD.out.2.2, byteV_append]; exact hO5) (And.intro (HR3.out.2.1.step hk5 (fun k hk => .inr (hfr.out k hk))) (fun k (hk : blkOf a5 k) => (hf5 k hk).elim (hfr.out k) (fun e => by have := HR3.out.2.1.size; omega))))
      clear hO5 hk5 hf5
      go_wp2_with fail
      exact ⟨⟨j + 1, a5, no + 128, c5, by go_num, by omega, rfl, Lib.hid (by have := hno.out; omega), Lib.hid HX.out.1, Lib.hid HX.out.2.1, Lib.hid HX.out.2.2⟩, by first | (simp [intOf]; done) | (simp [intOf]; omega)⟩
    · obtain rfl : j = T := by omega
      have hjj : ¬ ((j : Int) < j) := by omega
      have hll := loadTo_len HOK.out s j (by rw [← HFF.out]; exact hf)
      have hnoj := hno.out
      have hcap := hO.out.2.1
      have hcx := hO.out.2.2.1
      unfold maxLen at hcx
      have hsm : (s.many : Int) ≤ co := by omega
      have hrow := (hO.out.row (areB_wf hll.2)).head (m := s.many) (by omega)
      rw [← HLV.out] at hrow
      have HF := Lib.hid (And.intro hrow (And.intro hkj.out hfr.out))
      clear hll hrow hO hkj hnoj c3 hS
      go_wp2_with fail
      go_ret2
      exact ⟨ao, co, rfl, HF.out.1, HF.out.2.1, HF.out.2.2⟩
end Go.Proofs.YtkefbgkdkmkghaaDoor
