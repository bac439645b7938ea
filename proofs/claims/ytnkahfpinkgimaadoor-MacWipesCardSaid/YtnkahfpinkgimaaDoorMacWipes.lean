/-
  mac.Wipe; the law MacWipes.
-/
import Derived.Test.YtnkahfpinkgimaaDoorMacPrefixes
import Derived.Lib.SliceRun
namespace Go.Proofs.YtnkahfpinkgimaaDoor
open Go.RowKit

theorem Tryd.zeroU8 (w : World) : (zeroValue 5).run Tryd.prog w = .ok (.int .u8 0) w := by kernel_rfl
theorem wipe_none {w : World} (a : Option Addr) (cap : Nat) : Calls Tryd.prog 25 #[.slice a 0 cap] w fun e w' => e = .returned (.tuple #[]) ∧ w = w' := by
  have hr : (Builtin.clear_ #[27] 0 #[.slice a 0 cap]).run Tryd.prog w = .ok (.tuple #[]) w := by
    cases a <;> simp [Builtin.clear_, run_underlying Tryd.underlying27]
  go_enter Tryd.func25, Tryd.ntmps25
  go_wp2_with fail
  go_end0
  exact ⟨rfl, rfl⟩
theorem wipe_walk {w : World} {g off n cap : Nat} {cs : List Value} {T : TypeId} (hb : Blk w g cs T) (hn : 0 < n) (hl : off + n ≤ cs.length) :
    Calls Tryd.prog 25 #[.slice (some ⟨g, off, none⟩) n cap] w fun e w' => e = .returned (.tuple #[]) ∧ Blk w' g (splice cs off (List.replicate n (.int .u8 0))) T ∧ Keeps (One g) w w' := by
  have ht := hb.there (o := off) (n := n) hl
  have hr := Lib.run_clear_slice (P := Tryd.prog) w 27 5 0 (.int .u8 0) Tryd.underlying27 Tryd.zeroU8 rfl rfl g off n cap hn (fun j hj => (ht j hj).1) (fun j hj => (ht j hj).2)
  have h1 := hb.setCells (List.replicate n (.int .u8 0)) off (by rw [List.length_replicate]; exact hl)
  have h2 := Keeps.setCells (g := g) (List.replicate n (.int .u8 0)) off (Keeps.refl _ w)
  have H := Lib.hid (And.intro h1 h2)
  clear ht h1 h2 hb hl
  go_enter Tryd.func25, Tryd.ntmps25
  go_wp2_with fail
  go_end0
  exact ⟨rfl, H.out⟩

/-- A list with zeros in it. -/
def wiped (l : List Int) (o n : Nat) : List Int := l.take o ++ List.replicate n 0 ++ l.drop (o + n)
theorem wiped_len {l : List Int} {o n : Nat} (h : o + n ≤ l.length) : (wiped l o n).length = l.length := by simp [wiped]; omega
theorem wiped_nil (l : List Int) (o : Nat) : wiped l o 0 = l := by simp [wiped]
theorem wiped_bytes {l : List Int} (h : AreB l) (o n : Nat) : AreB (wiped l o n) := areB_append (areB_append (fun x hx => h x (List.mem_of_mem_take hx)) (areB_zeros n)) (fun x hx => h x (List.mem_of_mem_drop hx))
theorem wiped_at {l : List Int} {o n i : Nat} (h : o + n ≤ l.length) (hi : i < l.length) : (wiped l o n).getD i 0 = if o ≤ i ∧ i < o + n then 0 else l.getD i 0 := by
  unfold wiped
  simp only [List.getD]
  by_cases h1 : i < o
  · rw [List.append_assoc, List.getElem?_append_left (by simp; omega), if_neg (by omega)]
    simp [h1]
  · by_cases h2 : i < o + n
    · rw [List.append_assoc, List.getElem?_append_right (by simp; omega), List.getElem?_append_left (by simp; omega), if_pos (by omega)]
      simp only [List.length_take, List.getElem?_replicate]
      rw [if_pos (by omega)]
      rfl
    · rw [List.getElem?_append_right (by simp; omega), if_neg (by omega)]
      simp
      congr 1
      congr 1
      omega
theorem splice_wiped {l : List Int} {sp : List Value} {o n : Nat} (h : o + n ≤ l.length) : splice (byteV l ++ sp) o (List.replicate n (.int .u8 0)) = byteV (wiped l o n) ++ sp := by
  unfold splice wiped
  rw [List.take_append_of_le_length (by rw [byteV_len]; omega), List.drop_append_of_le_length (by rw [byteV_len, List.length_replicate]; omega), List.length_replicate]
  simp [byteV, List.map_take, List.map_drop]

set_option maxRecDepth 20000 in
set_option maxHeartbeats 3200000 in
theorem macWipes_walk (a0 : Option Addr) (len0 cap0 : Nat) (z0 : List Int) (a1 a2 : Int) (w : World) (w0 : IsRow .u8 w a0 len0 cap0 z0) (w1 : (Lit.int .i64 a1).wf = true) (w2 : (Lit.int .i64 a2).wf = true) :
    Calls Tryd.prog 9 #[.slice a0 len0 cap0, .int .i64 a1, .int .i64 a2] w (TrueS w) := by
  have h1 := i64_wf w1
  have h2 := i64_wf w2
  have p0 := PieceOk.of_isRow w0
  clear w0 w1 w2
  have m0 : len0 ≤ 9223372036854775807 := p0.1.most
  by_cases b0 : 100 < len0
  · clear p0
    go_enter Tryd.func9, Tryd.ntmps9
    go_wp2_with fail
    refine (macfirst_walk w).mono ?_
    rintro e w1 ⟨rfl, hk1⟩
    go_wp2_with fail
    go_ret
    exact ⟨by first | rfl | simp, hk1⟩
  have hrow : Row .u8 w a0 len0 (z0.take len0) := p0.1
  clear p0
  generalize z0.take len0 = Z at *
  have hZl := hrow.llen
  have hZb := hrow.bytes
  have HR := Lib.hid hrow
  clear hrow
  go_enter Tryd.func9, Tryd.ntmps9
  go_wp2_with fail
  refine (macfirst_walk w).mono ?_
  rintro e w1 ⟨rfl, hk1⟩
  have HB := Lib.hid (refBytes_walk (cap := cap0) (HR.out.keep hk1) (by omega))
  have hs1 := hk1.size
  go_wp2_with fail
  refine HB.out.mono ?_
  rintro e w2 ⟨ac, c2, rfl, ho2, hk2, hf2⟩
  rw [hZl] at ho2 ⊢
  have hk12 := hk1.trans hk2
  clear HB hk2
  go_wp2_with fail
  refine (number_walk a1 (len0 + 1) _ h1.1 h1.2 (by omega) (by omega)).mono ?_
  rintro e w3 ⟨rfl, rfl⟩
  obtain ⟨f, hff, hf3⟩ := modNat a1 (len0 + 1) (by omega)
  rw [hff]
  clear hff h1
  have hq1 : IntKind.i64.wrap ((len0 : Int) - f) = (len0 : Int) - f := by rw [IntKind.wrap_i64]; omega
  have hq2 : IntKind.i64.wrap ((len0 : Int) - f + 1) = (len0 : Int) - f + 1 := by rw [IntKind.wrap_i64]; omega
  go_wp2_with fail
  refine (number_walk a2 ((len0 : Int) - f + 1) _ h2.1 h2.2 (by omega) (by omega)).mono ?_
  rintro e w3 ⟨rfl, rfl⟩
  obtain ⟨n, hnn, hn3⟩ := modNat a2 ((len0 : Int) - f + 1) (by omega)
  rw [hnn]
  clear hnn h2 hq1 hq2
  have hlc := ho2.2.1
  have hfn : f + n ≤ len0 := by omega
  have hi1 : (f : Int) ≤ (f : Int) + (n : Int) := by omega
  have hi2 : (f : Int) + (n : Int) ≤ c2 := by omega
  have hi3 : (f : Int) ≤ c2 := by omega
  clear hf3 hn3
  by_cases hl0 : len0 = 0
  · subst hl0
    obtain rfl : f = 0 := by omega
    obtain rfl : n = 0 := by omega
    have HW := Lib.hid (fun a c => @wipe_none w2 a c)
    have HL := Lib.hid hk12
    clear ho2 hf2
    have hcc : c2 = 0 ∨ ¬ c2 = 0 := by omega
    go_wp2_with fail
    refine (HW.out _ _).mono ?_
    rintro e wS ⟨rfl, rfl⟩
    go_wp2_with fail
    go_loopw [9] (fun v wr => v = .int .i64 0 ∧ wr = w2) (fun _ _ => 0)
    case atStart => exact ⟨rfl, rfl⟩
    case round =>
      obtain ⟨rfl, rfl⟩ := hrel
      go_wp2_with fail
      go_ret
      exact ⟨by first | rfl | simp, HL.out⟩
  obtain ⟨gd, sp, rfl, hbd, hcl⟩ := ho2.openB (by omega)
  by_cases hn0 : n = 0
  · subst hn0
    have HW := Lib.hid (fun a c => @wipe_none w2 a c)
    have hr2 := ho2.row (areB_wf hZb)
    rw [← wiped_nil Z f] at hr2
    by_cases hcf : c2 = f
    · subst hcf
      go_wp2_with fail
      refine (HW.out _ _).mono ?_
      rintro e wS ⟨rfl, rfl⟩
      have hKS := hk12
      have hrS := hr2
      generalize w2 = wS at *
      -- wS: the world behind; hKS : Keeps Nil w wS; hrS : Row .u8 wS a2 len0 (wiped Z c2 0)
      have hrB := HR.out.keep hKS
      have HRS := Lib.hid (And.intro hrS hrB)
      clear hrS hrB
      go_wp2_with fail
      go_loopw [9] (fun v wr => ∃ (i q : Nat), i ≤ len0 ∧ v = .int .i64 i ∧ wr = wS.drewN q) (fun v _ => len0 - (intOf v).toNat)
      case atStart => exact ⟨0, 0, by omega, rfl, rfl⟩
      case round =>
        obtain ⟨i, q, hi, rfl, rfl⟩ := hrel
        by_cases hil : i < len0
        · obtain ⟨b1, o1, ha1, _, hc1⟩ := HRS.out.1.cell (by omega)
          cases ha1
          obtain ⟨b2, o2, rfl, _, hc2⟩ := HRS.out.2.cell (by omega)
          have x1 := hc1 i hil
          have x2 := hc2 i hil
          rw [wiped_at (by omega) (by omega)] at x1
          rw [Nat.zero_add] at x1
          clear hc1 hc2
          by_cases hin : c2 ≤ i ∧ i < c2 + 0
          · rw [if_pos hin] at x1
            have hg1 : (c2 : Int) ≤ i := by omega
            have hg2 : (i : Int) < (c2 : Int) := by omega
            clear hin
            generalize Z.getD i 0 = y at *
            go_wp2_with fail
            go_quiet (fail)
            go_wp2_with fail
            go_roundw
            case rel => first | exact ⟨i + 1, _, by omega, by go_num, rfl⟩ | ((repeat apply Exists.intro); exact ⟨⟨i + 1, _, by omega, by go_num, rfl⟩, rfl⟩)
            case measure => simp [intOf]; omega
          · rw [if_neg hin] at x1
            generalize Z.getD i 0 = y at *
            have hyy : (y != y) = false := by simp
            by_cases hg1 : c2 ≤ i
            · have hg1' : (c2 : Int) ≤ i := by omega
              have hg2 : ¬ (i : Int) < (c2 : Int) := by omega
              clear hin hg1
              go_wp2_with fail
              go_quiet (fail)
              go_wp2_with fail
              go_roundw
              case rel => first | exact ⟨i + 1, _, by omega, by go_num, rfl⟩ | ((repeat apply Exists.intro); exact ⟨⟨i + 1, _, by omega, by go_num, rfl⟩, rfl⟩)
              case measure => simp [intOf]; omega
            · have hg1' : ¬ (c2 : Int) ≤ i := by omega
              clear hin hg1
              go_wp2_with fail
              go_quiet (fail)
              go_wp2_with fail
              go_roundw
              case rel => first | exact ⟨i + 1, _, by omega, by go_num, rfl⟩ | ((repeat apply Exists.intro); exact ⟨⟨i + 1, _, by omega, by go_num, rfl⟩, rfl⟩)
              case measure => simp [intOf]; omega
        · obtain rfl : i = len0 := by omega
          go_wp2_with fail
          go_ret
          exact ⟨by first | rfl | simp, hKS.drewN q⟩
    · have hc2 : ¬ f = c2 := fun h => hcf h.symm
      have hc3 : ¬ c2 - f = 0 := by omega
      go_wp2_with fail
      refine (HW.out _ _).mono ?_
      rintro e wS ⟨rfl, rfl⟩
      have hKS := hk12
      have hrS := hr2
      generalize w2 = wS at *
      -- wS: the world behind; hKS : Keeps Nil w wS; hrS : Row .u8 wS a2 len0 (wiped Z f 0)
      have hrB := HR.out.keep hKS
      have HRS := Lib.hid (And.intro hrS hrB)
      clear hrS hrB
      go_wp2_with fail
      go_loopw [9] (fun v wr => ∃ (i q : Nat), i ≤ len0 ∧ v = .int .i64 i ∧ wr = wS.drewN q) (fun v _ => len0 - (intOf v).toNat)
      case atStart => exact ⟨0, 0, by omega, rfl, rfl⟩
      case round =>
        obtain ⟨i, q, hi, rfl, rfl⟩ := hrel
        by_cases hil : i < len0
        · obtain ⟨b1, o1, ha1, _, hc1⟩ := HRS.out.1.cell (by omega)
          cases ha1
          obtain ⟨b2, o2, rfl, _, hc2⟩ := HRS.out.2.cell (by omega)
          have x1 := hc1 i hil
          have x2 := hc2 i hil
          rw [wiped_at (by omega) (by omega)] at x1
          rw [Nat.zero_add] at x1
          clear hc1 hc2
          by_cases hin : f ≤ i ∧ i < f + 0
          · rw [if_pos hin] at x1
            have hg1 : (f : Int) ≤ i := by omega
            have hg2 : (i : Int) < (f : Int) := by omega
            clear hin
            generalize Z.getD i 0 = y at *
            go_wp2_with fail
            go_quiet (fail)
            go_wp2_with fail
            go_roundw
            case rel => first | exact ⟨i + 1, _, by omega, by go_num, rfl⟩ | ((repeat apply Exists.intro); exact ⟨⟨i + 1, _, by omega, by go_num, rfl⟩, rfl⟩)
            case measure => simp [intOf]; omega
          · rw [if_neg hin] at x1
            generalize Z.getD i 0 = y at *
            have hyy : (y != y) = false := by simp
            by_cases hg1 : f ≤ i
            · have hg1' : (f : Int) ≤ i := by omega
              have hg2 : ¬ (i : Int) < (f : Int) := by omega
              clear hin hg1
              go_wp2_with fail
              go_quiet (fail)
              go_wp2_with fail
              go_roundw
              case rel => first | exact ⟨i + 1, _, by omega, by go_num, rfl⟩ | ((repeat apply Exists.intro); exact ⟨⟨i + 1, _, by omega, by go_num, rfl⟩, rfl⟩)
              case measure => simp [intOf]; omega
            · have hg1' : ¬ (f : Int) ≤ i := by omega
              clear hin hg1
              go_wp2_with fail
              go_quiet (fail)
              go_wp2_with fail
              go_roundw
              case rel => first | exact ⟨i + 1, _, by omega, by go_num, rfl⟩ | ((repeat apply Exists.intro); exact ⟨⟨i + 1, _, by omega, by go_num, rfl⟩, rfl⟩)
              case measure => simp [intOf]; omega
        · obtain rfl : i = len0 := by omega
          go_wp2_with fail
          go_ret
          exact ⟨by first | rfl | simp, hKS.drewN q⟩
  · have hgd := hf2 gd ((blkOf_some _ _ _ _).2 rfl)
    have hw := wipe_walk (cap := c2 - f) (off := f) hbd (show 0 < n by omega) (by omega)
    rw [splice_wiped (by omega)] at hw
    have HW := Lib.hid hw
    have hc1 : ¬ c2 = f := by omega
    have hc2 : ¬ f = c2 := by omega
    have hc3 : ¬ c2 - f = 0 := by omega
    clear hw hbd ho2 hf2
    go_wp2_with fail
    refine HW.out.mono ?_
    rintro e wS ⟨rfl, hbS, hkS⟩
    have hrS : Row .u8 wS (some ⟨gd, 0, none⟩) len0 (wiped Z f n) := hbS.rowPre (wiped_bytes hZb _ _) (by rw [wiped_len (by omega)]; exact hZl) (by omega)
    have hKS : Keeps Nil w wS := hk12.step hkS (fun i hi => .inr (by rw [show i = gd from hi]; omega))
    clear hbS hkS HW
    -- wS: the world behind; hKS : Keeps Nil w wS; hrS : Row .u8 wS a2 len0 (wiped Z f n)
    have hrB := HR.out.keep hKS
    have HRS := Lib.hid (And.intro hrS hrB)
    clear hrS hrB
    go_wp2_with fail
    go_loopw [9] (fun v wr => ∃ (i q : Nat), i ≤ len0 ∧ v = .int .i64 i ∧ wr = wS.drewN q) (fun v _ => len0 - (intOf v).toNat)
    case atStart => exact ⟨0, 0, by omega, rfl, rfl⟩
    case round =>
      obtain ⟨i, q, hi, rfl, rfl⟩ := hrel
      by_cases hil : i < len0
      · obtain ⟨b1, o1, ha1, _, hc1⟩ := HRS.out.1.cell (by omega)
        cases ha1
        obtain ⟨b2, o2, rfl, _, hc2⟩ := HRS.out.2.cell (by omega)
        have x1 := hc1 i hil
        have x2 := hc2 i hil
        rw [wiped_at (by omega) (by omega)] at x1
        rw [Nat.zero_add] at x1
        clear hc1 hc2
        by_cases hin : f ≤ i ∧ i < f + n
        · rw [if_pos hin] at x1
          have hg1 : (f : Int) ≤ i := by omega
          have hg2 : (i : Int) < (f : Int) + (n : Int) := by omega
          clear hin
          generalize Z.getD i 0 = y at *
          go_wp2_with fail
          go_quiet (fail)
          go_wp2_with fail
          go_roundw
          case rel => first | exact ⟨i + 1, _, by omega, by go_num, rfl⟩ | ((repeat apply Exists.intro); exact ⟨⟨i + 1, _, by omega, by go_num, rfl⟩, rfl⟩)
          case measure => simp [intOf]; omega
        · rw [if_neg hin] at x1
          generalize Z.getD i 0 = y at *
          have hyy : (y != y) = false := by simp
          by_cases hg1 : f ≤ i
          · have hg1' : (f : Int) ≤ i := by omega
            have hg2 : ¬ (i : Int) < (f : Int) + (n : Int) := by omega
            clear hin hg1
            go_wp2_with fail
            go_quiet (fail)
            go_wp2_with fail
            go_roundw
            case rel => first | exact ⟨i + 1, _, by omega, by go_num, rfl⟩ | ((repeat apply Exists.intro); exact ⟨⟨i + 1, _, by omega, by go_num, rfl⟩, rfl⟩)
            case measure => simp [intOf]; omega
          · have hg1' : ¬ (f : Int) ≤ i := by omega
            clear hin hg1
            go_wp2_with fail
            go_quiet (fail)
            go_wp2_with fail
            go_roundw
            case rel => first | exact ⟨i + 1, _, by omega, by go_num, rfl⟩ | ((repeat apply Exists.intro); exact ⟨⟨i + 1, _, by omega, by go_num, rfl⟩, rfl⟩)
            case measure => simp [intOf]; omega
      · obtain rfl : i = len0 := by omega
        go_wp2_with fail
        go_ret
        exact ⟨by first | rfl | simp, hKS.drewN q⟩
end Go.Proofs.YtnkahfpinkgimaaDoor
