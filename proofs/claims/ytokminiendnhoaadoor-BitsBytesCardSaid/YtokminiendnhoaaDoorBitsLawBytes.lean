/-
  The law BitsBytes' walk.
-/
import Derived.Test.YtokminiendnhoaaDoorBitsLawPlay
namespace Go.Proofs.YtokminiendnhoaaDoor
open Go.RowKit

/-- What stands behind the first i elements. -/
theorem Row.drop {k : IntKind} {w : World} {b o len : Nat} {l : List Int} (h : Row k w (some ⟨b, o, none⟩) len l) (i : Nat) (hi : i ≤ len) : Row k w (some ⟨b, o + i, none⟩) (len - i) (l.drop i) := by
  have hl := h.llen
  refine ⟨by rw [List.length_drop]; omega, by have := h.most; omega, fun h0 => ?_, fun n hn => h.wf n (List.mem_of_mem_drop hn)⟩
  obtain ⟨b', o', he, hb, hc⟩ := h.cell (by omega)
  cases he
  refine ⟨b, o + i, rfl, hb, fun j hj => ?_⟩
  have := hc (i + j) (by omega)
  rw [Nat.add_assoc, this]
  simp [List.getD]

theorem xor_all : ((List.range 256).all fun (x : Nat) => (bits .xor .u8 IntKind.u8.max (x : Int) != (x : Int)) && (decide (0 ≤ bits .xor .u8 IntKind.u8.max (x : Int)) && decide (bits .xor .u8 IntKind.u8.max (x : Int) < 256))) = true := by kernel_rfl
theorem xor_not (x : Int) (h0 : 0 ≤ x) (h1 : x < 256) : bits .xor .u8 IntKind.u8.max x ≠ x ∧ 0 ≤ bits .xor .u8 IntKind.u8.max x ∧ bits .xor .u8 IntKind.u8.max x < 256 := by
  obtain ⟨n, rfl⟩ := Int.eq_ofNat_of_zero_le h0
  have := List.all_eq_true.1 xor_all n (List.mem_range.2 (by omega))
  simp only [Bool.and_eq_true, bne_iff_ne, decide_eq_true_eq] at this
  exact this

set_option maxRecDepth 100000 in
set_option maxHeartbeats 40000000 in
theorem bitsBytes_walk (a0 : Int) (a1 : Option Addr) (len1 cap1 : Nat) (z1 : List Int) (a2 : Int) (w : World) (w0 : (Lit.int .i64 a0).wf = true) (w1 : IsRow .i64 w a1 len1 cap1 z1) (w2 : (Lit.int .i64 a2).wf = true) {p : Nat → Addr} (hE : Errs w p) :
    Calls Tryd.prog 4 #[.int .i64 a0, .slice a1 len1 cap1, .int .i64 a2] w (True_ w) := by
  have hr0 := i64_wf w0
  have hr2 := i64_wf w2
  have hrow := Row.of_isRow w1
  have hmost := hrow.most
  clear w1
  generalize z1.take len1 = zs at *
  have hn0 : 0 ≤ a0 % 60 := Int.emod_nonneg _ (by omega)
  have hn1 : a0 % 60 < 60 := Int.emod_lt_of_pos _ (by omega)
  go_enter Tryd.func4, Tryd.ntmps4
  go_wp2_with fail
  refine (bitsfirst_walk _).mono ?_
  rintro e wa ⟨rfl, hka⟩
  by_cases hlen : 40 < len1
  · go_wp2_with fail
    go_ret
    exact ⟨rfl, hka⟩
  · go_wp2_with fail
    refine (number_walk a0 60 _ (by omega) (by omega) (by omega) (by omega)).mono ?_
    rintro e wa ⟨rfl, rfl⟩
    generalize a0 % 60 = nn at *
    obtain ⟨n0, rfl⟩ := Int.eq_ofNat_of_zero_le hn0
    obtain ⟨n, hn, hn2, hn3⟩ : ∃ n : Nat, (n0 : Int) + 1 = n ∧ 1 ≤ n ∧ n ≤ 60 := ⟨n0 + 1, by omega, by omega, by omega⟩
    have HN0 := Lib.hid hn
    clear hn
    go_wp2_with fail
    rw [HN0.out]
    have hcap : capN n = n := by unfold capN; omega
    refine (new_walk _ _).mono ?_
    rw [hcap]
    have HC := Lib.hid hcap
    clear hcap
    rintro e wb ⟨g, a, cap, rfl, hm, hkb, hg, hb⟩
    clear HN0 hn0 hn1
    go_wp2_with fail
    have hk1 : Keeps Nil w wb := hka.trans hkb
    have D : Hid (∀ k, blkOf a k → w.heap.size ≤ k) := fun k h => Nat.le_trans hka.size (hb k h)
    have hc0 : Clean n (List.replicate (bytesOf n) 0) := Clean.zero n _
    clear hkb hka hg hb
    go_loopw [9] (fun i wr => ∃ (j : Nat) (bs : List Int), j ≤ len1 ∧ i = .int .i64 j ∧ IsMap wr g a cap n bs ∧ Clean n bs ∧ Hid (Keeps Nil w wr)) (fun i _ => len1 - (intOf i).toNat)
    case atStart => exact ⟨0, _, Nat.zero_le _, rfl, hm, hc0, hk1⟩
    case round =>
      obtain ⟨j, bs, hj, rfl, hm2, hcl, hkr⟩ := hrel
      clear hm hk1 hc0
      by_cases hlt : j < len1
      · obtain ⟨bb, off, rfl, hbb, hc⟩ := hrow.cell (by omega)
        have hcell := hkr.out.cell (hc j hlt) (fun h => h)
        have hf := i64_wf (hrow.wf _ (hrow.at_ hlt))
        clear hc
        generalize zs.getD j 0 = f at *
        go_wp2_with fail
        refine (number_walk f n _ (by omega) (by omega) (by omega) (by omega)).mono ?_
        rintro e wc ⟨rfl, rfl⟩
        have hb0 : 0 ≤ f % n := Int.emod_nonneg _ (by omega)
        have hb1 : f % n < n := Int.emod_lt_of_pos _ (by omega)
        generalize f % n = f2 at *
        go_wp2_with fail
        refine (set_tot f2 _ hm2 (by omega) (by omega)).mono ?_
        rintro e wd ⟨rfl, hm3, hk3⟩
        have hcX := setN_clean f2 hcl hm2.len hm2.wf
        have hkw := hkr.out.step hk3 (fun i hi => .inr (D.out i hi))
        go_wp2_with fail
        go_roundw
        case rel => first | exact ⟨j + 1, _, by omega, by go_num, hm3, hcX, hkw⟩ | ((repeat apply Exists.intro); exact ⟨⟨j + 1, _, by omega, by go_num, hm3, hcX, hkw⟩, rfl⟩)
        case measure => simp [intOf]; omega
      · obtain rfl : j = len1 := by omega
        have hlb := hm2.len
        have hwb : ∀ x ∈ bs, (Lit.int .u8 x).wf = true := fun x hx => by have := hm2.wf x hx; simp [Lit.wf, IntKind.min, IntKind.max, IntKind.signed, IntKind.bits]; omega
        have hw7 : IntKind.i64.wrap ((n : Int) + 7) = n + 7 := by rw [IntKind.wrap_i64]; omega
        have hL1 : 1 ≤ bs.length := by rw [hlb]; unfold bytesOf; omega
        have hL2 : bs.length ≤ 8 := by rw [hlb]; unfold bytesOf; omega
        have hdiv : ((bs.length : Int) != ((n : Int) + 7) / 8) = false := by
          have : ((bs.length : Nat) : Int) = ((n : Int) + 7) / 8 := by rw [hlb]; unfold bytesOf; omega
          rw [this]
          exact bne_self_eq_false _
        have HL := Lib.hid hlb
        clear hlb
        go_wp2_with fail
        refine (mapBytes_walk _ hm2).mono ?_
        rintro e w3 ⟨a5, c5, rfl, hown5, hk5, hf5⟩
        have hm3 := hm2.keep0 hk5
        have hk3 := hkr.out.trans hk5
        obtain ⟨b5, rfl, hb5, hrg⟩ := hown5.some hL1
        have hg5 : g ≠ b5 := by
          have := hf5 b5 ((blkOf_some _ _ _ _).2 rfl)
          have := hm2.obj.lt
          omega
        have ha5 : ∀ k, blkOf a k → k ≠ b5 := fun k h => by
          have := hf5 b5 ((blkOf_some _ _ _ _).2 rfl)
          have := hm2.arr.lt k h
          omega
        have hw5 : w.heap.size ≤ b5 := Nat.le_trans hkr.out.size (hf5 b5 ((blkOf_some _ _ _ _).2 rfl))
        have HH := Lib.hid (And.intro hg5 (And.intro ha5 (And.intro hw5 hrg)))
        clear hg5 ha5 hw5 hrg hf5 hk5 hkr hm2
        go_wp2_with fail
        go_loopw [11] (fun v wr => ∃ i q : Nat, i ≤ n ∧ v = .int .i64 i ∧ wr = w3.drewN q) (fun v _ => n - (intOf v).toNat)
        case atStart => exact ⟨0, 0, Nat.zero_le _, rfl, rfl⟩
        case round =>
          obtain ⟨i, q, hi, rfl, rfl⟩ := hrel
          by_cases hin : i < n
          · have hrow5 : Row .u8 w3 (some ⟨b5, 0, none⟩) bs.length bs := hown5.row hwb
            have hlt : i / 8 < bs.length := by rw [HL.out]; unfold bytesOf; omega
            obtain ⟨bb, off, he, hbb, hc⟩ := hrow5.cell (by omega)
            injection he with he
            injection he with he1 he2 he3
            subst he1 he2
            have c2 := ((Keeps.refl Nil w3).drewN q).cell (hc (i / 8) hlt) (fun h => h)
            have hr := hm3.rng (i / 8)
            have hF : (bits .and .u8 (bs.getD (i / 8) 0 / 2 ^ (i % 8)) 1 == 1) = hasI n bs (i : Int) := by
              have hp : (0 : Int) < 2 ^ (i % 8) := Int.pow_pos (by omega)
              rw [and1 _ (Int.ediv_nonneg hr.1 (by omega)) (Int.lt_of_le_of_lt (Int.ediv_le_self _ hr.1) hr.2)]
              simp [hasI, hasB, hin]
            clear hc hbb hr hrow5
            generalize bs.getD (i / 8) 0 = x at *
            simp only [Nat.zero_add] at c2
            have q1 : (i : Int).tdiv 8 = ((i / 8 : Nat) : Int) := by rw [Int.tdiv_eq_ediv_of_nonneg (by omega)]; omega
            have q2 : (i : Int) / 8 = ((i / 8 : Nat) : Int) := by omega
            have q3 : (i : Int).tmod 8 = ((i % 8 : Nat) : Int) := by rw [Int.tmod_eq_emod_of_nonneg (by omega)]; omega
            have q4 : (i : Int) % 8 = ((i % 8 : Nat) : Int) := by omega
            have hm8 : i % 8 < 8 := by omega
            generalize i / 8 = d at *
            generalize i % 8 = m at *
            have d1 : (0 : Int) ≤ d := by omega
            have d2 : (d : Int) < bs.length := by omega
            have m1 : (0 : Int) ≤ m := by omega
            have m2 : IntKind.i64.wrap (d : Int) = d := by rw [IntKind.wrap_i64]; omega
            have m4 : IntKind.u64.wrap (m : Int) = m := by rw [IntKind.wrap_u64]; omega
            have m5 : min m 8 = m := by omega
            have m3 : IntKind.i64.wrap (m : Int) = m := by rw [IntKind.wrap_i64]; omega
            go_wp2_with fail
            have c2d : (w3.drewN q).drew.cell? ⟨b5, d, none⟩ = some (.int .u8 x) := c2
            go_region_held3 (fun w' => w'.cell? ⟨b5, d, none⟩ = some (.int .u8 x)) (first | exact c2d | exact c2 | go_keep) (first | (go_at_call 16; refine (has_any (i : Int) _ (hm3.keep0 ?_) (by omega) (by omega)).mono ?_; exact ((Keeps.refl Nil w3).drewN q).drew; rintro e w4 ⟨rfl, rfl⟩))
            go_wp2_with fail
            go_roundw
            case rel => first | exact ⟨i + 1, q + 1, by omega, by go_num, rfl⟩ | ((repeat apply Exists.intro); exact ⟨⟨i + 1, q + 1, by omega, by go_num, rfl⟩, rfl⟩)
            case measure => simp [intOf]; omega
          · obtain rfl : i = n := by omega
            have hmv := hm3.drewN q
            have hkv := hk3.drewN q
            have hov := hown5.keep0 ((Keeps.refl Nil w3).drewN q)
            have hsv : (w3.drewN q).heap.size = w3.heap.size := rfl
            have hlv : b5 < (w3.drewN q).heap.size := hov.lt b5 ((blkOf_some _ _ _ _).2 rfl)
            have hev := hE.keep hkv
            have hE0 := Lib.hid hE
            have hrv : Row .u8 (w3.drewN q) (some ⟨b5, 0, none⟩) bs.length bs := hov.row hwb
            clear hm3 hk3 hown5 hsv hE
            generalize w3.drewN q = wv at *
            go_wp2_with fail
            refine (refBytes_walk hrv (by omega)).mono ?_
            rintro e w6 ⟨a6, c6, rfl, hown6, hk6, hf6⟩
            go_wp2_with fail
            refine (number_walk a2 3 _ (by omega) (by omega) (by omega) (by omega)).mono ?_
            rintro e w6x ⟨rfl, rfl⟩
            have hk30 : 0 ≤ a2 % 3 := Int.emod_nonneg _ (by omega)
            have hk31 : a2 % 3 < 3 := Int.emod_lt_of_pos _ (by omega)
            generalize a2 % 3 = k3 at *
            by_cases h30 : k3 = 0
            · subst h30
              go_wp2_with (first | (refine wpList_bs rfl 22 5 1 _ rfl [.int .u8 0] Tryd.underlying22 Tryd.bs8 rfl (by decide) (by decide) rfl (by simp [Value.cells]) ?_) | (at_builtin; go_must (refine wpl_append rfl _ _ 22 rfl 5 1 1 Tryd.underlying22 Tryd.info8s (by omega) _ _ bs.length _ rfl (hown6.keep0 ((Keeps.refl _ _).alloc _)) _ 1 1 [.int .u8 0] rfl (Src.one (Blk.new _ _ _) rfl) (by unfold maxLen; omega) (by omega) ?_)))
              intro a7 c7 w7 hown7 hk7 hf7 _
              have hK7 : Keeps Nil wv w7 := (hk6.alloc _).step hk7 (fun i hi => .inr (hf6 i hi))
              have hrow7 : Row .u8 w7 a7 (bs.length + 1) (bs ++ [0]) := by
                refine Own.row (l := bs ++ [0]) (by simpa [byteV] using hown7) ?_
                intro x hx
                rcases List.mem_append.1 hx with h | h
                · exact hwb x h
                · rw [List.mem_singleton.1 h]; decide
              have hbad : ¬ ((bs ++ [0]).length = bytesOf (capN (i : Int)) ∧ Clean (capN (i : Int)) (bs ++ [0])) := by
                rw [HC.out, ← HL.out]
                simp
              clear hown7 hk7 hf7 hown6 hk6 hf6
              go_wp2_with fail
              refine (of_bad (hev.keep hK7) (i : Int) hrow7 hbad).mono ?_
              rintro e w8 ⟨rfl, hk8⟩
              have hK8 := hK7.trans hk8
              clear hK7 hk8 hrow7 hbad
              go_wp2_with fail
              refine (of_good (i : Int) (hrv.keep hK8) (fun h => by cases h) (by rw [HC.out]; exact HL.out) (by rw [HC.out]; exact hcl)).mono ?_
              rw [HC.out]
              rintro e w9 ⟨g9, a9, c9, rfl, hm9, hk9, hg9, hf9⟩
              have hK9 := hK8.trans hk9
              have h89 := hK8.size
              obtain ⟨o1, o2, o3, hov4⟩ := hov.keep0 hK9
              rcases hov4 with ⟨h, _⟩ | ⟨g0, sp, h, hB, o4⟩
              · cases h
              injection h with h
              injection h with h
              subst h
              have hb0 : (byteV bs ++ sp)[0]? = some (.int .u8 (bs.getD 0 0)) := by
                have : 0 < bs.length := by omega
                rw [List.getElem?_append_left (by simpa [byteV] using this)]
                simp [byteV, List.getD, this]
              have cb := hB.cell 0 hb0
              have zb := hB.frozen 0
              have hx0 := hm9.rng 0
              generalize hx : bs.getD 0 0 = x0 at *
              have hxor := xor_not x0 hx0.1 hx0.2
              have hB10 := hB.set 0 (.int .u8 (bits .xor .u8 IntKind.u8.max x0))
              have hk10 : Keeps (One b5) w9 (w9.setCell ⟨b5, 0, none⟩ (.int .u8 (bits .xor .u8 IntKind.u8.max x0))) := (Keeps.refl (One b5) w9).setOne 0 _
              have hown10 : Own (w9.setCell ⟨b5, 0, none⟩ (.int .u8 (bits .xor .u8 IntKind.u8.max x0))) 5 1 (some ⟨b5, 0, none⟩) c5 bs.length (byteV (bs.set 0 (bits .xor .u8 IntKind.u8.max x0))) := by
                refine ⟨by simp [byteV], o2, o3, .inr ⟨b5, sp, rfl, ?_, by simpa [byteV] using o4⟩⟩
                have e : (byteV bs ++ sp).set 0 (.int .u8 (bits .xor .u8 IntKind.u8.max x0)) = byteV (bs.set 0 (bits .xor .u8 IntKind.u8.max x0)) ++ sp := by
                  have : 0 < bs.length := by omega
                  rw [List.set_append_left _ _ (by simpa [byteV] using this)]
                  simp [byteV, List.map_set]
                rw [← e]
                exact hB10
              have hrow10 : Row .u8 (w9.setCell ⟨b5, 0, none⟩ (.int .u8 (bits .xor .u8 IntKind.u8.max x0))) (some ⟨b5, 0, none⟩) bs.length (bs.set 0 (bits .xor .u8 IntKind.u8.max x0)) := by
                refine hown10.row ?_
                intro y hy
                rcases List.mem_or_eq_of_mem_set hy with h | h
                · exact hwb y h
                · rw [h]
                  have := hxor
                  simp [Lit.wf, IntKind.min, IntKind.max, IntKind.signed, IntKind.bits] at this ⊢
                  omega
              have hsame : sameL bs (bs.set 0 (bits .xor .u8 IntKind.u8.max x0)) = false := by
                simp only [sameL, beq_eq_false_iff_ne]
                intro e
                have h0 : (bs.set 0 (bits .xor .u8 IntKind.u8.max x0)).getD 0 0 = bits .xor .u8 IntKind.u8.max x0 := by
                  have : 0 < bs.length := by omega
                  simp [List.getD, this]
                rw [← e, hx] at h0
                exact hxor.1 h0.symm
              have hk9b := hkv.trans hK9
              have hm10 := (hmv.keep0 hK9).keep hk10 (fun h => HH.out.1 h) (fun k h h2 => HH.out.2.1 k h h2)
              have hx10 := hm9.keep hk10 (fun h => by have : g9 = b5 := h; omega) (fun k h h2 => by have : k = b5 := h2; have := hf9 k h; omega)
              have hK10 : Keeps Nil w (w9.setCell ⟨b5, 0, none⟩ (.int .u8 (bits .xor .u8 IntKind.u8.max x0))) := hk9b.step hk10 (fun i hi => .inr (by rw [show i = b5 from hi]; exact HH.out.2.2.1))
              have H9 := Lib.hid (And.intro hm10 (And.intro hx10 (And.intro hK10 (And.intro hrow10 hsame))))
              clear hov hm9 hg9 hf9 hk9 hK8 hb0 hB10 hown10 hrow10 hsame hm10 hx10 hK10 hk10 hk9b
              unfold errV
              go_wp2_with fail
              generalize hy : bits .xor .u8 IntKind.u8.max x0 = y at *
              generalize w9.setCell ⟨b5, 0, none⟩ (.int .u8 y) = w10 at *
              have hiv : isV (101 + ((4 : Nat) : Int)) false 0 105 = true := by decide
              refine (is_walk (hE0.out.keep H9.out.2.2.1) (.inr (.inl ⟨4, by decide, rfl, rfl, rfl, rfl⟩)) 105).mono ?_
              rintro e w11 ⟨rfl, hk11⟩
              rw [hiv]
              go_wp2_with fail
              refine (count_walk _ (H9.out.2.1.keep0 hk11)).mono ?_
              rintro e w12 ⟨rfl, rfl⟩
              go_wp2_with fail
              refine (count_walk _ (H9.out.1.keep0 hk11)).mono ?_
              rintro e w12 ⟨rfl, rfl⟩
              generalize countI i bs = cc at *
              go_wp2_with fail
              refine (mapBytes_walk _ (H9.out.1.keep0 hk11)).mono ?_
              rintro e w12 ⟨a12, c12, rfl, hown12, hk12, hf12⟩
              go_wp2_with fail
              refine (sameBytes_walk (hown12.row hwb) ((H9.out.2.2.2.1.keep hk11).keep hk12)).mono ?_
              rintro e w13 ⟨rfl, hd13⟩
              rw [H9.out.2.2.2.2]
              go_wp2_with fail
              go_ret
              exact ⟨rfl, ((H9.out.2.2.1.trans hk11).trans hk12).trans (hd13.keeps Nil)⟩
            · by_cases h31 : k3 = 1
              · subst h31
                obtain ⟨b6, rfl, hb6, hr6⟩ := hown6.some hL1
                have hc6 := hown6.2.1
                have hl1 : (1 : Int) ≤ bs.length := by omega
                have hl2 : (bs.length : Int) ≤ c6 := by omega
                have hrow6 := (hown6.row hwb).drop 1 hL1
                have hK7 : Keeps Nil wv w6 := hk6
                have hbad : ¬ ((bs.drop 1).length = bytesOf (capN (i : Int)) ∧ Clean (capN (i : Int)) (bs.drop 1)) := by
                  rw [HC.out, ← HL.out]
                  simp
                  omega
                by_cases hc1 : c6 ≤ 1
                · have hc1' : c6 = 1 := by omega
                  have hL0 : bs.length = 1 := by omega
                  subst hc1'
                  have hrow7 : Row .u8 w6 (some ⟨b6, 0, none⟩) 0 (bs.drop 1) := ⟨by have := hrow6.llen; omega, by omega, fun h => by omega, hrow6.wf⟩
                  clear hL0
                  clear hown6 hk6 hf6 hrow6 hr6
                  generalize w6 = w7 at *
                  go_wp2_with fail
                  refine (of_bad (hev.keep hK7) (i : Int) hrow7 hbad).mono ?_
                  rintro e w8 ⟨rfl, hk8⟩
                  have hK8 := hK7.trans hk8
                  clear hK7 hk8 hrow7 hbad
                  go_wp2_with fail
                  refine (of_good (i : Int) (hrv.keep hK8) (fun h => by cases h) (by rw [HC.out]; exact HL.out) (by rw [HC.out]; exact hcl)).mono ?_
                  rw [HC.out]
                  rintro e w9 ⟨g9, a9, c9, rfl, hm9, hk9, hg9, hf9⟩
                  have hK9 := hK8.trans hk9
                  have h89 := hK8.size
                  obtain ⟨o1, o2, o3, hov4⟩ := hov.keep0 hK9
                  rcases hov4 with ⟨h, _⟩ | ⟨g0, sp, h, hB, o4⟩
                  · cases h
                  injection h with h
                  injection h with h
                  subst h
                  have hb0 : (byteV bs ++ sp)[0]? = some (.int .u8 (bs.getD 0 0)) := by
                    have : 0 < bs.length := by omega
                    rw [List.getElem?_append_left (by simpa [byteV] using this)]
                    simp [byteV, List.getD, this]
                  have cb := hB.cell 0 hb0
                  have zb := hB.frozen 0
                  have hx0 := hm9.rng 0
                  generalize hx : bs.getD 0 0 = x0 at *
                  have hxor := xor_not x0 hx0.1 hx0.2
                  have hB10 := hB.set 0 (.int .u8 (bits .xor .u8 IntKind.u8.max x0))
                  have hk10 : Keeps (One b5) w9 (w9.setCell ⟨b5, 0, none⟩ (.int .u8 (bits .xor .u8 IntKind.u8.max x0))) := (Keeps.refl (One b5) w9).setOne 0 _
                  have hown10 : Own (w9.setCell ⟨b5, 0, none⟩ (.int .u8 (bits .xor .u8 IntKind.u8.max x0))) 5 1 (some ⟨b5, 0, none⟩) c5 bs.length (byteV (bs.set 0 (bits .xor .u8 IntKind.u8.max x0))) := by
                    refine ⟨by simp [byteV], o2, o3, .inr ⟨b5, sp, rfl, ?_, by simpa [byteV] using o4⟩⟩
                    have e : (byteV bs ++ sp).set 0 (.int .u8 (bits .xor .u8 IntKind.u8.max x0)) = byteV (bs.set 0 (bits .xor .u8 IntKind.u8.max x0)) ++ sp := by
                      have : 0 < bs.length := by omega
                      rw [List.set_append_left _ _ (by simpa [byteV] using this)]
                      simp [byteV, List.map_set]
                    rw [← e]
                    exact hB10
                  have hrow10 : Row .u8 (w9.setCell ⟨b5, 0, none⟩ (.int .u8 (bits .xor .u8 IntKind.u8.max x0))) (some ⟨b5, 0, none⟩) bs.length (bs.set 0 (bits .xor .u8 IntKind.u8.max x0)) := by
                    refine hown10.row ?_
                    intro y hy
                    rcases List.mem_or_eq_of_mem_set hy with h | h
                    · exact hwb y h
                    · rw [h]
                      have := hxor
                      simp [Lit.wf, IntKind.min, IntKind.max, IntKind.signed, IntKind.bits] at this ⊢
                      omega
                  have hsame : sameL bs (bs.set 0 (bits .xor .u8 IntKind.u8.max x0)) = false := by
                    simp only [sameL, beq_eq_false_iff_ne]
                    intro e
                    have h0 : (bs.set 0 (bits .xor .u8 IntKind.u8.max x0)).getD 0 0 = bits .xor .u8 IntKind.u8.max x0 := by
                      have : 0 < bs.length := by omega
                      simp [List.getD, this]
                    rw [← e, hx] at h0
                    exact hxor.1 h0.symm
                  have hk9b := hkv.trans hK9
                  have hm10 := (hmv.keep0 hK9).keep hk10 (fun h => HH.out.1 h) (fun k h h2 => HH.out.2.1 k h h2)
                  have hx10 := hm9.keep hk10 (fun h => by have : g9 = b5 := h; omega) (fun k h h2 => by have : k = b5 := h2; have := hf9 k h; omega)
                  have hK10 : Keeps Nil w (w9.setCell ⟨b5, 0, none⟩ (.int .u8 (bits .xor .u8 IntKind.u8.max x0))) := hk9b.step hk10 (fun i hi => .inr (by rw [show i = b5 from hi]; exact HH.out.2.2.1))
                  have H9 := Lib.hid (And.intro hm10 (And.intro hx10 (And.intro hK10 (And.intro hrow10 hsame))))
                  clear hov hm9 hg9 hf9 hk9 hK8 hb0 hB10 hown10 hrow10 hsame hm10 hx10 hK10 hk10 hk9b
                  unfold errV
                  go_wp2_with fail
                  generalize hy : bits .xor .u8 IntKind.u8.max x0 = y at *
                  generalize w9.setCell ⟨b5, 0, none⟩ (.int .u8 y) = w10 at *
                  have hiv : isV (101 + ((4 : Nat) : Int)) false 0 105 = true := by decide
                  refine (is_walk (hE0.out.keep H9.out.2.2.1) (.inr (.inl ⟨4, by decide, rfl, rfl, rfl, rfl⟩)) 105).mono ?_
                  rintro e w11 ⟨rfl, hk11⟩
                  rw [hiv]
                  go_wp2_with fail
                  refine (count_walk _ (H9.out.2.1.keep0 hk11)).mono ?_
                  rintro e w12 ⟨rfl, rfl⟩
                  go_wp2_with fail
                  refine (count_walk _ (H9.out.1.keep0 hk11)).mono ?_
                  rintro e w12 ⟨rfl, rfl⟩
                  generalize countI i bs = cc at *
                  go_wp2_with fail
                  refine (mapBytes_walk _ (H9.out.1.keep0 hk11)).mono ?_
                  rintro e w12 ⟨a12, c12, rfl, hown12, hk12, hf12⟩
                  go_wp2_with fail
                  refine (sameBytes_walk (hown12.row hwb) ((H9.out.2.2.2.1.keep hk11).keep hk12)).mono ?_
                  rintro e w13 ⟨rfl, hd13⟩
                  rw [H9.out.2.2.2.2]
                  go_wp2_with fail
                  go_ret
                  exact ⟨rfl, ((H9.out.2.2.1.trans hk11).trans hk12).trans (hd13.keeps Nil)⟩
                · have hc2 : (1 : Int) < c6 := by omega
                  have hrow7 := hrow6
                  clear hown6 hk6 hf6 hrow6 hr6
                  generalize w6 = w7 at *
                  go_wp2_with fail
                  refine (of_bad (hev.keep hK7) (i : Int) hrow7 hbad).mono ?_
                  rintro e w8 ⟨rfl, hk8⟩
                  have hK8 := hK7.trans hk8
                  clear hK7 hk8 hrow7 hbad
                  go_wp2_with fail
                  refine (of_good (i : Int) (hrv.keep hK8) (fun h => by cases h) (by rw [HC.out]; exact HL.out) (by rw [HC.out]; exact hcl)).mono ?_
                  rw [HC.out]
                  rintro e w9 ⟨g9, a9, c9, rfl, hm9, hk9, hg9, hf9⟩
                  have hK9 := hK8.trans hk9
                  have h89 := hK8.size
                  obtain ⟨o1, o2, o3, hov4⟩ := hov.keep0 hK9
                  rcases hov4 with ⟨h, _⟩ | ⟨g0, sp, h, hB, o4⟩
                  · cases h
                  injection h with h
                  injection h with h
                  subst h
                  have hb0 : (byteV bs ++ sp)[0]? = some (.int .u8 (bs.getD 0 0)) := by
                    have : 0 < bs.length := by omega
                    rw [List.getElem?_append_left (by simpa [byteV] using this)]
                    simp [byteV, List.getD, this]
                  have cb := hB.cell 0 hb0
                  have zb := hB.frozen 0
                  have hx0 := hm9.rng 0
                  generalize hx : bs.getD 0 0 = x0 at *
                  have hxor := xor_not x0 hx0.1 hx0.2
                  have hB10 := hB.set 0 (.int .u8 (bits .xor .u8 IntKind.u8.max x0))
                  have hk10 : Keeps (One b5) w9 (w9.setCell ⟨b5, 0, none⟩ (.int .u8 (bits .xor .u8 IntKind.u8.max x0))) := (Keeps.refl (One b5) w9).setOne 0 _
                  have hown10 : Own (w9.setCell ⟨b5, 0, none⟩ (.int .u8 (bits .xor .u8 IntKind.u8.max x0))) 5 1 (some ⟨b5, 0, none⟩) c5 bs.length (byteV (bs.set 0 (bits .xor .u8 IntKind.u8.max x0))) := by
                    refine ⟨by simp [byteV], o2, o3, .inr ⟨b5, sp, rfl, ?_, by simpa [byteV] using o4⟩⟩
                    have e : (byteV bs ++ sp).set 0 (.int .u8 (bits .xor .u8 IntKind.u8.max x0)) = byteV (bs.set 0 (bits .xor .u8 IntKind.u8.max x0)) ++ sp := by
                      have : 0 < bs.length := by omega
                      rw [List.set_append_left _ _ (by simpa [byteV] using this)]
                      simp [byteV, List.map_set]
                    rw [← e]
                    exact hB10
                  have hrow10 : Row .u8 (w9.setCell ⟨b5, 0, none⟩ (.int .u8 (bits .xor .u8 IntKind.u8.max x0))) (some ⟨b5, 0, none⟩) bs.length (bs.set 0 (bits .xor .u8 IntKind.u8.max x0)) := by
                    refine hown10.row ?_
                    intro y hy
                    rcases List.mem_or_eq_of_mem_set hy with h | h
                    · exact hwb y h
                    · rw [h]
                      have := hxor
                      simp [Lit.wf, IntKind.min, IntKind.max, IntKind.signed, IntKind.bits] at this ⊢
                      omega
                  have hsame : sameL bs (bs.set 0 (bits .xor .u8 IntKind.u8.max x0)) = false := by
                    simp only [sameL, beq_eq_false_iff_ne]
                    intro e
                    have h0 : (bs.set 0 (bits .xor .u8 IntKind.u8.max x0)).getD 0 0 = bits .xor .u8 IntKind.u8.max x0 := by
                      have : 0 < bs.length := by omega
                      simp [List.getD, this]
                    rw [← e, hx] at h0
                    exact hxor.1 h0.symm
                  have hk9b := hkv.trans hK9
                  have hm10 := (hmv.keep0 hK9).keep hk10 (fun h => HH.out.1 h) (fun k h h2 => HH.out.2.1 k h h2)
                  have hx10 := hm9.keep hk10 (fun h => by have : g9 = b5 := h; omega) (fun k h h2 => by have : k = b5 := h2; have := hf9 k h; omega)
                  have hK10 : Keeps Nil w (w9.setCell ⟨b5, 0, none⟩ (.int .u8 (bits .xor .u8 IntKind.u8.max x0))) := hk9b.step hk10 (fun i hi => .inr (by rw [show i = b5 from hi]; exact HH.out.2.2.1))
                  have H9 := Lib.hid (And.intro hm10 (And.intro hx10 (And.intro hK10 (And.intro hrow10 hsame))))
                  clear hov hm9 hg9 hf9 hk9 hK8 hb0 hB10 hown10 hrow10 hsame hm10 hx10 hK10 hk10 hk9b
                  unfold errV
                  go_wp2_with fail
                  generalize hy : bits .xor .u8 IntKind.u8.max x0 = y at *
                  generalize w9.setCell ⟨b5, 0, none⟩ (.int .u8 y) = w10 at *
                  have hiv : isV (101 + ((4 : Nat) : Int)) false 0 105 = true := by decide
                  refine (is_walk (hE0.out.keep H9.out.2.2.1) (.inr (.inl ⟨4, by decide, rfl, rfl, rfl, rfl⟩)) 105).mono ?_
                  rintro e w11 ⟨rfl, hk11⟩
                  rw [hiv]
                  go_wp2_with fail
                  refine (count_walk _ (H9.out.2.1.keep0 hk11)).mono ?_
                  rintro e w12 ⟨rfl, rfl⟩
                  go_wp2_with fail
                  refine (count_walk _ (H9.out.1.keep0 hk11)).mono ?_
                  rintro e w12 ⟨rfl, rfl⟩
                  generalize countI i bs = cc at *
                  go_wp2_with fail
                  refine (mapBytes_walk _ (H9.out.1.keep0 hk11)).mono ?_
                  rintro e w12 ⟨a12, c12, rfl, hown12, hk12, hf12⟩
                  go_wp2_with fail
                  refine (sameBytes_walk (hown12.row hwb) ((H9.out.2.2.2.1.keep hk11).keep hk12)).mono ?_
                  rintro e w13 ⟨rfl, hd13⟩
                  rw [H9.out.2.2.2.2]
                  go_wp2_with fail
                  go_ret
                  exact ⟨rfl, ((H9.out.2.2.1.trans hk11).trans hk12).trans (hd13.keeps Nil)⟩
              · have h32 : k3 = 2 := by omega
                subst h32
                by_cases h8 : i % 8 = 0
                · have h8' : (i : Int) % 8 = 0 := by omega
                  have h8'' : (i : Int).tmod 8 = 0 := by rw [Int.tmod_eq_emod_of_nonneg (by omega)]; omega
                  go_wp2_with (first | (refine wpList_bs rfl 22 5 1 _ rfl [.int .u8 1] Tryd.underlying22 Tryd.bs8 rfl (by decide) (by decide) rfl (by simp [Value.cells]) ?_) | (at_builtin; go_must (refine wpl_append rfl _ _ 22 rfl 5 1 1 Tryd.underlying22 Tryd.info8s (by omega) _ _ bs.length _ rfl (hown6.keep0 ((Keeps.refl _ _).alloc _)) _ 1 1 [.int .u8 1] rfl (Src.one (Blk.new _ _ _) rfl) (by unfold maxLen; omega) (by omega) ?_)))
                  intro a7 c7 w7 hown7 hk7 hf7 _
                  have hK7 : Keeps Nil wv w7 := (hk6.alloc _).step hk7 (fun i hi => .inr (hf6 i hi))
                  have hrow7 : Row .u8 w7 a7 (bs.length + 1) (bs ++ [1]) := by
                    refine Own.row (l := bs ++ [1]) (by simpa [byteV] using hown7) ?_
                    intro x hx
                    rcases List.mem_append.1 hx with h | h
                    · exact hwb x h
                    · rw [List.mem_singleton.1 h]; decide
                  have hbad : ¬ ((bs ++ [1]).length = bytesOf (capN (i : Int)) ∧ Clean (capN (i : Int)) (bs ++ [1])) := by
                    rw [HC.out, ← HL.out]
                    simp
                  clear hown7 hk7 hf7 hown6 hk6 hf6
                  go_wp2_with fail
                  refine (of_bad (hev.keep hK7) (i : Int) hrow7 hbad).mono ?_
                  rintro e w8 ⟨rfl, hk8⟩
                  have hK8 := hK7.trans hk8
                  clear hK7 hk8 hrow7 hbad
                  go_wp2_with fail
                  refine (of_good (i : Int) (hrv.keep hK8) (fun h => by cases h) (by rw [HC.out]; exact HL.out) (by rw [HC.out]; exact hcl)).mono ?_
                  rw [HC.out]
                  rintro e w9 ⟨g9, a9, c9, rfl, hm9, hk9, hg9, hf9⟩
                  have hK9 := hK8.trans hk9
                  have h89 := hK8.size
                  obtain ⟨o1, o2, o3, hov4⟩ := hov.keep0 hK9
                  rcases hov4 with ⟨h, _⟩ | ⟨g0, sp, h, hB, o4⟩
                  · cases h
                  injection h with h
                  injection h with h
                  subst h
                  have hb0 : (byteV bs ++ sp)[0]? = some (.int .u8 (bs.getD 0 0)) := by
                    have : 0 < bs.length := by omega
                    rw [List.getElem?_append_left (by simpa [byteV] using this)]
                    simp [byteV, List.getD, this]
                  have cb := hB.cell 0 hb0
                  have zb := hB.frozen 0
                  have hx0 := hm9.rng 0
                  generalize hx : bs.getD 0 0 = x0 at *
                  have hxor := xor_not x0 hx0.1 hx0.2
                  have hB10 := hB.set 0 (.int .u8 (bits .xor .u8 IntKind.u8.max x0))
                  have hk10 : Keeps (One b5) w9 (w9.setCell ⟨b5, 0, none⟩ (.int .u8 (bits .xor .u8 IntKind.u8.max x0))) := (Keeps.refl (One b5) w9).setOne 0 _
                  have hown10 : Own (w9.setCell ⟨b5, 0, none⟩ (.int .u8 (bits .xor .u8 IntKind.u8.max x0))) 5 1 (some ⟨b5, 0, none⟩) c5 bs.length (byteV (bs.set 0 (bits .xor .u8 IntKind.u8.max x0))) := by
                    refine ⟨by simp [byteV], o2, o3, .inr ⟨b5, sp, rfl, ?_, by simpa [byteV] using o4⟩⟩
                    have e : (byteV bs ++ sp).set 0 (.int .u8 (bits .xor .u8 IntKind.u8.max x0)) = byteV (bs.set 0 (bits .xor .u8 IntKind.u8.max x0)) ++ sp := by
                      have : 0 < bs.length := by omega
                      rw [List.set_append_left _ _ (by simpa [byteV] using this)]
                      simp [byteV, List.map_set]
                    rw [← e]
                    exact hB10
                  have hrow10 : Row .u8 (w9.setCell ⟨b5, 0, none⟩ (.int .u8 (bits .xor .u8 IntKind.u8.max x0))) (some ⟨b5, 0, none⟩) bs.length (bs.set 0 (bits .xor .u8 IntKind.u8.max x0)) := by
                    refine hown10.row ?_
                    intro y hy
                    rcases List.mem_or_eq_of_mem_set hy with h | h
                    · exact hwb y h
                    · rw [h]
                      have := hxor
                      simp [Lit.wf, IntKind.min, IntKind.max, IntKind.signed, IntKind.bits] at this ⊢
                      omega
                  have hsame : sameL bs (bs.set 0 (bits .xor .u8 IntKind.u8.max x0)) = false := by
                    simp only [sameL, beq_eq_false_iff_ne]
                    intro e
                    have h0 : (bs.set 0 (bits .xor .u8 IntKind.u8.max x0)).getD 0 0 = bits .xor .u8 IntKind.u8.max x0 := by
                      have : 0 < bs.length := by omega
                      simp [List.getD, this]
                    rw [← e, hx] at h0
                    exact hxor.1 h0.symm
                  have hk9b := hkv.trans hK9
                  have hm10 := (hmv.keep0 hK9).keep hk10 (fun h => HH.out.1 h) (fun k h h2 => HH.out.2.1 k h h2)
                  have hx10 := hm9.keep hk10 (fun h => by have : g9 = b5 := h; omega) (fun k h h2 => by have : k = b5 := h2; have := hf9 k h; omega)
                  have hK10 : Keeps Nil w (w9.setCell ⟨b5, 0, none⟩ (.int .u8 (bits .xor .u8 IntKind.u8.max x0))) := hk9b.step hk10 (fun i hi => .inr (by rw [show i = b5 from hi]; exact HH.out.2.2.1))
                  have H9 := Lib.hid (And.intro hm10 (And.intro hx10 (And.intro hK10 (And.intro hrow10 hsame))))
                  clear hov hm9 hg9 hf9 hk9 hK8 hb0 hB10 hown10 hrow10 hsame hm10 hx10 hK10 hk10 hk9b
                  unfold errV
                  go_wp2_with fail
                  generalize hy : bits .xor .u8 IntKind.u8.max x0 = y at *
                  generalize w9.setCell ⟨b5, 0, none⟩ (.int .u8 y) = w10 at *
                  have hiv : isV (101 + ((4 : Nat) : Int)) false 0 105 = true := by decide
                  refine (is_walk (hE0.out.keep H9.out.2.2.1) (.inr (.inl ⟨4, by decide, rfl, rfl, rfl, rfl⟩)) 105).mono ?_
                  rintro e w11 ⟨rfl, hk11⟩
                  rw [hiv]
                  go_wp2_with fail
                  refine (count_walk _ (H9.out.2.1.keep0 hk11)).mono ?_
                  rintro e w12 ⟨rfl, rfl⟩
                  go_wp2_with fail
                  refine (count_walk _ (H9.out.1.keep0 hk11)).mono ?_
                  rintro e w12 ⟨rfl, rfl⟩
                  generalize countI i bs = cc at *
                  go_wp2_with fail
                  refine (mapBytes_walk _ (H9.out.1.keep0 hk11)).mono ?_
                  rintro e w12 ⟨a12, c12, rfl, hown12, hk12, hf12⟩
                  go_wp2_with fail
                  refine (sameBytes_walk (hown12.row hwb) ((H9.out.2.2.2.1.keep hk11).keep hk12)).mono ?_
                  rintro e w13 ⟨rfl, hd13⟩
                  rw [H9.out.2.2.2.2]
                  go_wp2_with fail
                  go_ret
                  exact ⟨rfl, ((H9.out.2.2.1.trans hk11).trans hk12).trans (hd13.keeps Nil)⟩
                · have hLi : bs.length - 1 = i / 8 := by rw [HL.out]; unfold bytesOf; omega
                  obtain ⟨b6, rfl, hb6, hr6⟩ := hown6.some hL1
                  have hbi : i / 8 < bs.length := by omega
                  obtain ⟨o1, o2, o3, hov6⟩ := hown6
                  rcases hov6 with ⟨h, _⟩ | ⟨g0, sp, h, hB, o4⟩
                  · cases h
                  injection h with h
                  injection h with h
                  subst h
                  have hb0 : (byteV bs ++ sp)[i / 8]? = some (.int .u8 (bs.getD (i / 8) 0)) := by
                    rw [List.getElem?_append_left (by simpa [byteV] using hbi)]
                    simp [byteV, List.getD, hbi]
                  have cb := hB.cell (i / 8) hb0
                  have zb := hB.frozen (i / 8)
                  have hset := hasB_set bs i i hbi hmv.wf
                  have hs0 : setB bs i = bs.set (i / 8) (bits .or .u8 (bs.getD (i / 8) 0) (2 ^ (i % 8) % 256)) := rfl
                  have hsw := setB_wf i hmv.wf
                  have hB7 := hB.set (i / 8) (.int .u8 (bits .or .u8 (bs.getD (i / 8) 0) (2 ^ (i % 8) % 256)))
                  have e : (byteV bs ++ sp).set (i / 8) (.int .u8 (bits .or .u8 (bs.getD (i / 8) 0) (2 ^ (i % 8) % 256))) = byteV (setB bs i) ++ sp := by
                    rw [List.set_append_left _ _ (by simpa [byteV] using hbi), hs0]
                    simp [byteV, List.map_set]
                  rw [e] at hB7
                  have q3 : (i : Int).tmod 8 = ((i % 8 : Nat) : Int) := by rw [Int.tmod_eq_emod_of_nonneg (by omega)]; omega
                  have q4 : (i : Int) % 8 = ((i % 8 : Nat) : Int) := by omega
                  have q5 : IntKind.i64.wrap ((bs.length : Int) - 1) = ((i / 8 : Nat) : Int) := by rw [IntKind.wrap_i64]; omega
                  have hne : (((i % 8 : Nat) : Int) == 0) = false := by rw [beq_eq_false_iff_ne]; omega
                  have hm8 : i % 8 < 8 := by omega
                  generalize hdd : i / 8 = d at *
                  generalize hmm : i % 8 = m at *
                  have d1 : (0 : Int) ≤ d := by omega
                  have d2 : (d : Int) < bs.length := by omega
                  have m1 : (0 : Int) ≤ m := by omega
                  have m3 : IntKind.i64.wrap (m : Int) = m := by rw [IntKind.wrap_i64]; omega
                  have m4 : IntKind.u64.wrap (m : Int) = m := by rw [IntKind.wrap_u64]; omega
                  have m5 : min m 8 = m := by omega
                  have HG := Lib.hid (And.intro hset (And.intro hs0 (And.intro hsw (And.intro hB7 (And.intro hdd hmm)))))
                  clear hset hs0 hsw hB7 hdd hmm e hb0
                  generalize bs.getD d 0 = x6 at *
                  go_wp2_with fail
                  have hK7 : Keeps Nil wv (w6.setCell ⟨b6, d, none⟩ (.int .u8 (bits .or .u8 x6 (2 ^ m % 256)))) := hk6.setCell (p := ⟨b6, d, none⟩) (.inr (hf6 b6 ((blkOf_some _ _ _ _).2 rfl))) _
                  have hrow7 : Row .u8 (w6.setCell ⟨b6, d, none⟩ (.int .u8 (bits .or .u8 x6 (2 ^ m % 256)))) (some ⟨b6, 0, none⟩) bs.length (setB bs i) := by
                    have hl7 : (byteV (setB bs i)).length = bs.length := by simp [byteV, HG.out.2.2.1.1]
                    refine Own.row (e := 5) (cap := c6) (l := setB bs i) ⟨by rw [Nat.mul_one]; exact hl7, o2, o3, .inr ⟨b6, sp, rfl, HG.out.2.2.2.1, ?_⟩⟩ ?_
                    · rw [← o4]; simp [byteV, HG.out.2.2.1.1]
                    · intro x hx
                      have := HG.out.2.2.1.2 x hx
                      simp [Lit.wf, IntKind.min, IntKind.max, IntKind.signed, IntKind.bits]
                      omega
                  have hbad : ¬ ((setB bs i).length = bytesOf (capN (i : Int)) ∧ Clean (capN (i : Int)) (setB bs i)) := by
                    rw [HC.out]
                    rintro ⟨_, hcc⟩
                    have h1 := hcc i (Nat.le_refl _)
                    rw [HG.out.1] at h1
                    simp at h1
                  clear hk6 hf6 hr6
                  generalize w6.setCell ⟨b6, d, none⟩ (.int .u8 (bits .or .u8 x6 (2 ^ m % 256))) = w7 at *
                  refine (of_bad (hev.keep hK7) (i : Int) hrow7 hbad).mono ?_
                  rintro e w8 ⟨rfl, hk8⟩
                  have hK8 := hK7.trans hk8
                  clear hK7 hk8 hrow7 hbad
                  go_wp2_with fail
                  refine (of_good (i : Int) (hrv.keep hK8) (fun h => by cases h) (by rw [HC.out]; exact HL.out) (by rw [HC.out]; exact hcl)).mono ?_
                  rw [HC.out]
                  rintro e w9 ⟨g9, a9, c9, rfl, hm9, hk9, hg9, hf9⟩
                  have hK9 := hK8.trans hk9
                  have h89 := hK8.size
                  obtain ⟨o1, o2, o3, hov4⟩ := hov.keep0 hK9
                  rcases hov4 with ⟨h, _⟩ | ⟨g0, sp, h, hB, o4⟩
                  · cases h
                  injection h with h
                  injection h with h
                  subst h
                  have hb0 : (byteV bs ++ sp)[0]? = some (.int .u8 (bs.getD 0 0)) := by
                    have : 0 < bs.length := by omega
                    rw [List.getElem?_append_left (by simpa [byteV] using this)]
                    simp [byteV, List.getD, this]
                  have cb := hB.cell 0 hb0
                  have zb := hB.frozen 0
                  have hx0 := hm9.rng 0
                  generalize hx : bs.getD 0 0 = x0 at *
                  have hxor := xor_not x0 hx0.1 hx0.2
                  have hB10 := hB.set 0 (.int .u8 (bits .xor .u8 IntKind.u8.max x0))
                  have hk10 : Keeps (One b5) w9 (w9.setCell ⟨b5, 0, none⟩ (.int .u8 (bits .xor .u8 IntKind.u8.max x0))) := (Keeps.refl (One b5) w9).setOne 0 _
                  have hown10 : Own (w9.setCell ⟨b5, 0, none⟩ (.int .u8 (bits .xor .u8 IntKind.u8.max x0))) 5 1 (some ⟨b5, 0, none⟩) c5 bs.length (byteV (bs.set 0 (bits .xor .u8 IntKind.u8.max x0))) := by
                    refine ⟨by simp [byteV], o2, o3, .inr ⟨b5, sp, rfl, ?_, by simpa [byteV] using o4⟩⟩
                    have e : (byteV bs ++ sp).set 0 (.int .u8 (bits .xor .u8 IntKind.u8.max x0)) = byteV (bs.set 0 (bits .xor .u8 IntKind.u8.max x0)) ++ sp := by
                      have : 0 < bs.length := by omega
                      rw [List.set_append_left _ _ (by simpa [byteV] using this)]
                      simp [byteV, List.map_set]
                    rw [← e]
                    exact hB10
                  have hrow10 : Row .u8 (w9.setCell ⟨b5, 0, none⟩ (.int .u8 (bits .xor .u8 IntKind.u8.max x0))) (some ⟨b5, 0, none⟩) bs.length (bs.set 0 (bits .xor .u8 IntKind.u8.max x0)) := by
                    refine hown10.row ?_
                    intro y hy
                    rcases List.mem_or_eq_of_mem_set hy with h | h
                    · exact hwb y h
                    · rw [h]
                      have := hxor
                      simp [Lit.wf, IntKind.min, IntKind.max, IntKind.signed, IntKind.bits] at this ⊢
                      omega
                  have hsame : sameL bs (bs.set 0 (bits .xor .u8 IntKind.u8.max x0)) = false := by
                    simp only [sameL, beq_eq_false_iff_ne]
                    intro e
                    have h0 : (bs.set 0 (bits .xor .u8 IntKind.u8.max x0)).getD 0 0 = bits .xor .u8 IntKind.u8.max x0 := by
                      have : 0 < bs.length := by omega
                      simp [List.getD, this]
                    rw [← e, hx] at h0
                    exact hxor.1 h0.symm
                  have hk9b := hkv.trans hK9
                  have hm10 := (hmv.keep0 hK9).keep hk10 (fun h => HH.out.1 h) (fun k h h2 => HH.out.2.1 k h h2)
                  have hx10 := hm9.keep hk10 (fun h => by have : g9 = b5 := h; omega) (fun k h h2 => by have : k = b5 := h2; have := hf9 k h; omega)
                  have hK10 : Keeps Nil w (w9.setCell ⟨b5, 0, none⟩ (.int .u8 (bits .xor .u8 IntKind.u8.max x0))) := hk9b.step hk10 (fun i hi => .inr (by rw [show i = b5 from hi]; exact HH.out.2.2.1))
                  have H9 := Lib.hid (And.intro hm10 (And.intro hx10 (And.intro hK10 (And.intro hrow10 hsame))))
                  clear hov hm9 hg9 hf9 hk9 hK8 hb0 hB10 hown10 hrow10 hsame hm10 hx10 hK10 hk10 hk9b
                  unfold errV
                  go_wp2_with fail
                  generalize hy : bits .xor .u8 IntKind.u8.max x0 = y at *
                  generalize w9.setCell ⟨b5, 0, none⟩ (.int .u8 y) = w10 at *
                  have hiv : isV (101 + ((4 : Nat) : Int)) false 0 105 = true := by decide
                  refine (is_walk (hE0.out.keep H9.out.2.2.1) (.inr (.inl ⟨4, by decide, rfl, rfl, rfl, rfl⟩)) 105).mono ?_
                  rintro e w11 ⟨rfl, hk11⟩
                  rw [hiv]
                  go_wp2_with fail
                  refine (count_walk _ (H9.out.2.1.keep0 hk11)).mono ?_
                  rintro e w12 ⟨rfl, rfl⟩
                  go_wp2_with fail
                  refine (count_walk _ (H9.out.1.keep0 hk11)).mono ?_
                  rintro e w12 ⟨rfl, rfl⟩
                  generalize countI i bs = cc at *
                  go_wp2_with fail
                  refine (mapBytes_walk _ (H9.out.1.keep0 hk11)).mono ?_
                  rintro e w12 ⟨a12, c12, rfl, hown12, hk12, hf12⟩
                  go_wp2_with fail
                  refine (sameBytes_walk (hown12.row hwb) ((H9.out.2.2.2.1.keep hk11).keep hk12)).mono ?_
                  rintro e w13 ⟨rfl, hd13⟩
                  rw [H9.out.2.2.2.2]
                  go_wp2_with fail
                  go_ret
                  exact ⟨rfl, ((H9.out.2.2.1.trans hk11).trans hk12).trans (hd13.keeps Nil)⟩
end Go.Proofs.YtokminiendnhoaaDoor
