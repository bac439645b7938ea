/-
  The law CodeBack.
-/
import Derived.Test.YtdkfhfflhglmaaaDoorCodeBackIn
import Derived.Test.YtdkfhfflhglmaaaDoorCodeWriters
namespace Go.Proofs.YtdkfhfflhglmaaaDoor
open Go.RowKit

theorem encAll_zero (n : Int) (len : Nat) (R : Nat → List Int) : encAll n len R 0 = [] ++ le4 n ++ [(len : Int) % 256] := by simp [encAll, encRows]
theorem encAll_succ (n : Int) (len : Nat) (R : Nat → List Int) (i : Nat) : encAll n len R (i + 1) = encAll n len R i ++ (le4 (R i).length ++ R i) ++ R i := by simp [encAll, encRows, encR, List.append_assoc]
theorem encAll_bytes (n : Int) (h0 : 0 ≤ n) (h1 : n < 4294967296) (len : Nat) (R : Nat → List Int) : ∀ k, (∀ i, i < k → (R i).length ≤ 30 ∧ ∀ x ∈ R i, 0 ≤ x ∧ x < 256) → ∀ x ∈ encAll n len R k, 0 ≤ x ∧ x < 256
  | 0, _, x, hx => by
    rw [encAll_zero] at hx
    simp only [List.nil_append] at hx
    rcases List.mem_append.1 hx with hx | hx
    · exact le4_bytes n h0 h1 x hx
    · rw [List.mem_singleton.1 hx]; omega
  | k + 1, h, x, hx => by
    rw [encAll_succ] at hx
    rcases List.mem_append.1 hx with hx | hx
    · rcases List.mem_append.1 hx with hx | hx
      · exact encAll_bytes n h0 h1 len R k (fun i hi => h i (by omega)) x hx
      · rcases List.mem_append.1 hx with hx | hx
        · exact le4_bytes _ (by omega) (by have := (h k (by omega)).1; omega) x hx
        · exact (h k (by omega)).2 x hx
    · exact (h k (by omega)).2 x hx
theorem posR_most (R : Nat → List Int) : ∀ k, (∀ i, i < k → (R i).length ≤ 30) → posR R k ≤ 5 + k * 64
  | 0, _ => Nat.le_refl _
  | k + 1, h => by
    have h1 := posR_most R k (fun i hi => h i (by omega))
    have h2 := posR_succ R k
    have h3 := h k (by omega)
    omega

set_option maxRecDepth 100000 in
set_option maxHeartbeats 8000000 in
theorem codeBack_walk (a0 : Option Addr) (len0 cap0 : Nat) (z : Lines) (n : Int) (c : Int) (w : World) (w0 : IsRows w a0 len0 z) (w1 : (Lit.int .u32 n).wf = true) (w2 : (Lit.int .i64 c).wf = true) {p : Nat → Addr} (hE : Errs w p) :
    Calls Tryd.prog 10 #[.slice a0 len0 cap0, .int .u32 n, .int .i64 c] w (TrueC w) := by
  have hmf : ∀ (fn : Fn) (first cap : Array Value) (w : World), (Instr.makeFunc fn first cap).run Tryd.prog w = .ok (.func fn first cap) w := fun _ _ _ _ => rfl
  have hn : 0 ≤ n ∧ n ≤ 4294967295 := by simpa [Lit.wf, IntKind.min, IntKind.max, IntKind.signed, IntKind.bits] using w1
  have hc := i64_wf w2
  have hm0 := w0.most
  clear w1 w2
  have hH0 := (((Has.nil w).cons [.slice a0 len0 cap0] 65 rfl)).cons [.int .u32 n] 46 (n := w.heap.size + 1) (by rw [size_alloc'])
  have hkA : Keeps Nil w ((w.alloc (.cells #[.slice a0 len0 cap0] 65)).alloc (.cells #[.int .u32 n] 46)) := ((Keeps.refl Nil w).alloc _).alloc _
  have hszA : ((w.alloc (.cells #[.slice a0 len0 cap0] 65)).alloc (.cells #[.int .u32 n] 46)).heap.size = w.heap.size + 2 := by rw [size_alloc', size_alloc']
  go_enter Tryd.func10, Tryd.ntmps10
  go_wp2_with fail
  generalize hwA : ((w.alloc (.cells #[.slice a0 len0 cap0] 65)).alloc (.cells #[.int .u32 n] 46)) = wA at *
  refine (codefirst_walk (hE.keep hkA).two).mono ?_
  rintro e wB ⟨rfl, hkB⟩
  have hHB := hH0.keep0 hkB
  have hkAB := hkA.trans hkB
  have hszB : w.heap.size + 2 ≤ wB.heap.size := by rw [← hszA]; exact hkB.size
  have cl := (hHB.at 1 rfl).cell 0 (v := .slice a0 len0 cap0) rfl
  have cn := (hHB.at 0 rfl).cell 0 (v := .int .u32 n) rfl
  clear hkA hkB hH0 hwA hszA
  by_cases hlen : 20 < len0
  · go_wp2_with fail
    go_ret
    exact ⟨rfl, hkAB⟩
  have h0 : IsWr 38 (wB.alloc (.cells #[.slice none 0 0] 38)) wB.heap.size none 0 [] := IsWr.new wB _ _ rfl
  have hka : Keeps Nil wB (wB.alloc (.cells #[.slice none 0 0] 38)) := (Keeps.refl Nil wB).alloc _
  have hk0 : Keeps Nil w (wB.alloc (.cells #[.slice none 0 0] 38)) := hkAB.trans hka
  have hHC := hHB.keep0 hka
  have clC := (hHC.at 1 rfl).cell 0 (v := .slice a0 len0 cap0) rfl
  have cnC := (hHC.at 0 rfl).cell 0 (v := .int .u32 n) rfl
  go_wp2_with fail
  generalize wB.alloc (.cells #[.slice none 0 0] 38) = wC at *
  clear hka hHB hkAB cl cn clC cnC
  generalize hgw : wB.heap.size = gw at *
  refine (wrU32_walk h0 n hn.1 (by omega) (by simp)).mono ?_
  rintro e w1 ⟨a1, c1, rfl, h1, hk1, hf1⟩
  have hno : ∀ k, k < w.heap.size + 2 → ¬ wrOf gw none k := fun k hk h => by
    rcases h with h | h
    · omega
    · exact blkOf_none _ h
  have hH1 := hHC.keep hk1 (fun x hx => by
    simp only [List.mem_cons, List.not_mem_nil, or_false] at hx
    rcases hx with rfl | rfl
    · exact hno _ (by show w.heap.size + 1 < _; omega)
    · exact hno _ (by show w.heap.size < _; omega))
  have hF1 : ∀ k, wrOf gw a1 k → w.heap.size + 2 ≤ k := fun k hk => by
    rcases hf1 k hk with h | h
    · rcases h with rfl | h
      · omega
      · exact (blkOf_none _ h).elim
    · have := (hHC.at 0 rfl).lt; omega
  have hK1 : Keeps Nil w w1 := hk0.step hk1 (fun i hi => by
    rcases hi with rfl | hi
    · exact .inr (by omega)
    · exact (blkOf_none _ hi).elim)
  have cl1 := (hH1.at 1 rfl).cell 0 (v := .slice a0 len0 cap0) rfl
  clear hk0 hk1 hf1 h0 hHC hno
  go_wp2_with fail
  refine (wrU8_walk h1 len0 (by simp [le4])).mono ?_
  rintro e w2 ⟨a2, c2, rfl, h2, hk2, hf2⟩
  have hH2 := hH1.keep hk2 (fun x hx hk => by
    have h3 := hF1 _ hk
    simp only [List.mem_cons, List.not_mem_nil, or_false] at hx
    rcases hx with rfl | rfl
    · have h4 : w.heap.size + 2 ≤ w.heap.size + 1 := h3; omega
    · have h4 : w.heap.size + 2 ≤ w.heap.size := h3; omega)
  have hF2 : ∀ k, wrOf gw a2 k → w.heap.size + 2 ≤ k := fun k hk => by
    rcases hf2 k hk with h | h
    · exact hF1 k h
    · have := (hH1.at 0 rfl).lt; omega
  have hK2 : Keeps Nil w w2 := hK1.step hk2 (fun i hi => .inr (by have := hF1 i hi; omega))
  rw [← encAll_zero n len0 z.row] at h2
  clear hK1 hk2 hf2 h1 hH1 hF1 cl1
  go_wp2_with fail
  go_loopw [9] (fun v wr => ∃ (i : Nat) (a : Option Addr) (c : Nat), i ≤ len0 ∧ v = .int .i64 i ∧ Hid (IsWr 38 wr gw a c (encAll n len0 z.row i) ∧ (∀ k, wrOf gw a k → w.heap.size + 2 ≤ k) ∧ Has wr [(w.heap.size + 1, [.int .u32 n], 46), (w.heap.size, [.slice a0 len0 cap0], 65)] ∧ Keeps Nil w wr ∧ ∀ j, j < i → (z.row j).length ≤ 30)) (fun v _ => len0 - (intOf v).toNat)
  case atStart => exact ⟨0, _, _, Nat.zero_le _, rfl, h2, hF2, hH2, hK2, fun _ h => by omega⟩
  case round =>
    obtain ⟨i, a, cc, hi, rfl, hw, hF, hH, hK, hj30⟩ := hrel
    clear h2 hF2 hH2 hK2
    have cl := (hH.at 1 rfl).cell 0 (v := .slice a0 len0 cap0) rfl
    have hle := posR_most z.row i hj30
    have hlx := encAll_len n len0 z.row i
    by_cases hlt : i < len0
    · obtain ⟨b0, off0, rfl, hb0, hc0⟩ := w0.cell (by omega)
      have hrow0 := w0.row i hlt
      have hnil0 := w0.nil i hlt
      have hcr0 := hc0 i hlt
      have hcr := hK.cell hcr0 (fun h => h)
      have hrowi := hrow0.keep hK
      clear hc0
      have HNil := Lib.hid hnil0
      clear hnil0
      have hrm := hrow0.most
      have hfar : 0 < (z.row i).length → ∀ k, blkOf (z.at_ i) k → ¬ wrOf gw a k := fun h0 k hk hk' => by
        obtain ⟨b, off, ha, hb, _⟩ := hrow0.cell h0
        obtain ⟨x, hx, rfl⟩ := hk
        rw [ha] at hx
        cases hx
        have := hF _ hk'
        have h9 : b < w.heap.size := hb
        have h10 : w.heap.size + 2 ≤ b := this
        omega
      by_cases h30 : 30 < (z.row i).length
      · go_wp2_with fail
        go_ret
        exact ⟨rfl, hK⟩
      go_wp2_with fail
      refine (wrList2_walk hw (by omega) hrowi HNil.out (by omega) hfar).mono ?_
      rintro e w3 ⟨a3, c3, rfl, h3, hk3, hf3⟩
      have hF3 : ∀ k, wrOf gw a3 k → w.heap.size + 2 ≤ k := fun k hk => by
        rcases hf3 k hk with h | h
        · exact hF k h
        · have := (hH.at 0 rfl).lt; omega
      have hH3 := hH.keep hk3 (fun x hx hk => by
        have h3 := hF _ hk
        simp only [List.mem_cons, List.not_mem_nil, or_false] at hx
        rcases hx with rfl | rfl
        · have h4 : w.heap.size + 2 ≤ w.heap.size + 1 := h3; omega
        · have h4 : w.heap.size + 2 ≤ w.heap.size := h3; omega)
      have hK3 : Keeps Nil w w3 := hK.step hk3 (fun i hi => .inr (by have := hF i hi; omega))
      have cl3 := (hH3.at 1 rfl).cell 0 (v := .slice (some ⟨b0, off0, none⟩) len0 cap0) rfl
      have hcr3 := hK3.cell hcr0 (fun h => h)
      have hrow3 := hrow0.keep hK3
      clear cl hcr hk3 hf3 hw hF hH hK
      go_wp2_with fail
      refine (wrRaw_walk h3 (by simp [le4]; omega) hrow3 HNil.out (by omega)).mono ?_
      rintro e w4 ⟨a4, c4, rfl, h4, hk4, hf4⟩
      have hF4 : ∀ k, wrOf gw a4 k → w.heap.size + 2 ≤ k := fun k hk => by
        rcases hf4 k hk with h | h
        · exact hF3 k h
        · have := (hH3.at 0 rfl).lt; omega
      have hH4 := hH3.keep hk4 (fun x hx hk => by
        have h3 := hF3 _ hk
        simp only [List.mem_cons, List.not_mem_nil, or_false] at hx
        rcases hx with rfl | rfl
        · have h4 : w.heap.size + 2 ≤ w.heap.size + 1 := h3; omega
        · have h4 : w.heap.size + 2 ≤ w.heap.size := h3; omega)
      have hK4 : Keeps Nil w w4 := hK3.step hk4 (fun i hi => .inr (by have := hF3 i hi; omega))
      rw [← encAll_succ] at h4
      have hj4 : ∀ j, j < i + 1 → (z.row j).length ≤ 30 := fun j hj => by
        rcases Nat.lt_or_ge j i with h | h
        · exact hj30 j h
        · obtain rfl : j = i := by omega
          omega
      clear cl3 hcr3
      go_wp2_with fail
      have hcast : ((i : Int) + 1) = ((i + 1 : Nat) : Int) := by omega
      rw [hcast]
      go_roundw
      case rel => first | exact ⟨i + 1, _, _, by omega, rfl, h4, hF4, hH4, hK4, hj4⟩ | ((repeat apply Exists.intro); exact ⟨⟨i + 1, _, _, by omega, rfl, h4, hF4, hH4, hK4, hj4⟩, rfl⟩)
      case measure => simp [intOf]; omega
    · obtain rfl : i = len0 := by omega
      go_wp2_with fail
      have hXb := encAll_bytes n hn.1 (by omega) i z.row i (fun j hj => ⟨hj30 j hj, (w0.row j hj).bytes⟩)
      have hR32 : ∀ j, j < i → (z.row j).length < 4294967296 := fun j hj => by have := hj30 j hj; omega
      have hX1 := encoded n hn.1 (by omega) i z.row hR32 [0] (posR z.row i)
      have hX2 := encoded n hn.1 (by omega) i z.row hR32 [0] (posR z.row i + 1)
      have hX3 := encoded n hn.1 (by omega) i z.row hR32 [0]
      rw [List.take_append_of_le_length (by omega), List.take_of_length_le (by omega)] at hX1
      rw [List.take_of_length_le (by rw [List.length_append]; simp; omega)] at hX2
      have hX3' : ∀ m, m ≤ posR z.row i → Encoded ((encAll n i z.row i).take m) n i z.row := fun m hm => by
        have h := hX3 m
        rwa [List.take_append_of_le_length (by omega)] at h
      have h5 : 5 ≤ posR z.row i := by have := posR_le z.row 0 i; rw [Nat.zero_add, posR_zero] at this; exact this
      clear hX3 hR32
      generalize hX : encAll n i z.row i = X at *
      refine (wrBytes_walk hw (by omega) hXb).mono ?_
      rintro e w4 ⟨a4, c4, rfl, ho4, hk4, hf4⟩
      have hH4 := hH.keep0 hk4
      have hK4 := hK.trans hk4
      have hwf : ∀ x ∈ X, (Lit.int .u8 x).wf = true := fun x hx => by have := hXb x hx; simp [Lit.wf, IntKind.min, IntKind.max, IntKind.signed, IntKind.bits]; omega
      clear hk4 hf4 hw hF hH hK cl
      generalize hT : posR z.row i = tot at *
      rw [hlx] at ho4 ⊢
      have hO4 := ho4
      obtain ⟨b4, rfl, hb4, hr4⟩ := ho4.some (by omega)
      have hcap4 : tot ≤ c4 := hO4.2.1
      clear hO4
      have hrow4 : Row .u8 w4 (some ⟨b4, 0, none⟩) tot X := ho4.row (l := X) hwf
      clear hr4 ho4
      have hkD : Keeps Nil w4 (w4.alloc (.cells #[.bool true] 4)) := (Keeps.refl Nil w4).alloc _
      have hHD := hH4.cons [.bool true] 4 (n := w4.heap.size) rfl
      have hszD : (w4.alloc (.cells #[.bool true] 4)).heap.size = w4.heap.size + 1 := size_alloc' _ _
      go_wp2_with fail
      generalize w4.alloc (.cells #[.bool true] 4) = wD at *
      have hrowD := hrow4.keep hkD
      have hkW := hK4.trans hkD
      have hs4 := hK4.size
      have hgn4 := (hH4.at 0 rfl).lt
      clear hrow4 hH4 hkD hK4
      generalize hgd : w4.heap.size = gd at *
      have hgl : w.heap.size + 1 < gd := hgn4
      have hcall : ∀ (wx : World) (l : List Int), Keeps Nil w wx → Has wx [(gd, [.bool true], 4), (w.heap.size + 1, [.int .u32 n], 46), (w.heap.size, [.slice a0 i cap0], 65)] → Encoded l n i z.row → l.length ≤ 100000 →
          ∀ (c : Nat) (w5 : World) (gr : Nat) (ar : Option Addr) (cr : Nat), Keeps Nil wx w5 → wx.heap.size ≤ c → c < w5.heap.size → (∀ k, wrOf gr ar k → wx.heap.size ≤ k) → gr ≠ c → IsRd 102 w5 gr ar cr l 0 [] →
            Calls Tryd.prog 48 (#[.pointer (some ⟨gr, 0, none⟩)] ++ #[.pointer (some ⟨gd, 0, none⟩), .pointer (some ⟨w.heap.size + 1, 0, none⟩), .pointer (some ⟨w.heap.size, 0, none⟩)]) w5 (ReadIn (One gd) p l gr (BackR gd tot l.length) w5) := by
        intro wx l hkx hHx hEnc hl2 c w5 gr ar cr k5 hc1 hc2 hold hne hrd
        have hH5 := hHx.keep0 k5
        have hgr := hold gr (.inl rfl)
        have hgdx := (hHx.at 0 rfl).lt
        have := codeBackIn_walk (cap0 := cap0) hE (hkx.trans k5) w0 (by omega) hj30 hEnc hl2 (hH5.at 0 rfl) (hH5.at 1 rfl) (hH5.at 2 rfl) hrd (by omega) (by omega) (fun h => by have := hold _ h; omega) (by omega) (by omega) (by omega) (by omega)
        rw [hT] at this
        exact this
      have HC := Lib.hid hcall
      clear hcall hgn4
      refine (lawRead_walk 48 #[.pointer (some ⟨gd, 0, none⟩), .pointer (some ⟨w.heap.size + 1, 0, none⟩), .pointer (some ⟨w.heap.size, 0, none⟩)] wD (fun _ _ => by kernel_rfl) hE.two hkW hrowD (fun h => by cases h) (by omega) (S := One gd) (fun k hk => by rw [show k = gd from hk]; omega) (R := fun _ => BackR gd tot X.length) (HC.out wD X hkW hHD hX1 (by omega))).mono ?_
      rintro e w5 ⟨o, v, cc2, w6, rfl, hI, hfr, hR, hup, hk5, hc5⟩
      unfold BackR at hR
      rw [if_pos (by omega)] at hR
      obtain ⟨rfl, hd6⟩ := hR
      obtain rfl := hI.none (by simp [outC, hlx])
      have hd5 := hd6.keep hup (fun hi => by have := hi.1; omega)
      have hHE := hHD.put 0 rfl hk5 (fun x _ h => h) hd5
      have hkE : Keeps Nil w w5 := hkW.step hk5 (fun i hi => .inr (by rw [show i = gd from hi]; omega))
      have hrowE : Row .u8 w5 (some ⟨b4, 0, none⟩) tot X := hrowD.keepB hk5 (fun k hk e => by
        obtain ⟨x, hx, rfl⟩ := hk
        cases hx
        have h9 : b4 = gd := e
        omega)
      clear hI hfr hup hk5 hHD hkW hrowD hd6 hd5 hc5 hX1
      go_wp2_with fail
      refine (refBytes_walk hrowE (by omega)).mono ?_
      rintro e w7 ⟨a7, c7, rfl, ho7, hk7, hf7⟩
      rw [hlx] at ho7 ⊢
      have hkF : Keeps Nil w5 (w7.alloc (.cells #[.int .u8 0] 5)) := hk7.alloc _
      have hmx7 := ho7.2.2.1
      go_wp2_with (first | (refine wpList_bs rfl 36 5 1 _ rfl [.int .u8 0] Tryd.underlying36 Tryd.bs8 rfl (by decide) (by decide) rfl (by simp [Value.cells]) ?_) | (at_builtin; go_must (refine wpl_append rfl _ _ 36 rfl 5 1 1 Tryd.underlying36 Tryd.info8s (by omega) _ _ tot _ rfl (ho7.keep0 ((Keeps.refl _ _).alloc _)) _ 1 1 [.int .u8 0] rfl (Src.one (Blk.new _ _ _) rfl) (by unfold maxLen; omega) (by omega) ?_)))
      intro a8 c8 w8 ho8 hk8 hf8 _
      have hkG : Keeps Nil w5 w8 := hkF.step hk8 (fun k hk => .inr (hf7 k hk))
      have ho8' : Own w8 5 1 a8 c8 (tot + 1) (byteV (X ++ [0])) := by rw [byteV_append]; exact ho8
      have hwf8 : ∀ x ∈ X ++ [0], (Lit.int .u8 x).wf = true := fun x hx => by
        rcases List.mem_append.1 hx with hx | hx
        · exact hwf x hx
        · rw [List.mem_singleton.1 hx]; decide
      have hrow8 : Row .u8 w8 a8 (tot + 1) (X ++ [0]) := ho8'.row hwf8
      obtain ⟨b8, rfl, _, _⟩ := ho8'.some (by omega)
      have hHG := hHE.keep0 hkG
      have hkGW := hkE.trans hkG
      have hrowG := hrowE.keep hkG
      have hX8 : (X ++ [0]).length = tot + 1 := by simp [hlx]
      clear ho7 hk7 hf7 hkF ho8 hk8 hf8 ho8' hkG hHE hkE hrowE
      go_wp2_with fail
      refine (lawRead_walk 48 #[.pointer (some ⟨gd, 0, none⟩), .pointer (some ⟨w.heap.size + 1, 0, none⟩), .pointer (some ⟨w.heap.size, 0, none⟩)] w8 (fun _ _ => by kernel_rfl) hE.two hkGW hrow8 (fun h => by cases h) (by omega) (S := One gd) (fun k hk => by rw [show k = gd from hk]; exact ⟨by omega, (hHG.at 0 rfl).lt⟩) (R := fun _ => BackR gd tot (X ++ [0]).length) (HC.out w8 (X ++ [0]) hkGW hHG hX2 (by omega))).mono ?_
      rintro e w9 ⟨o, v, cc3, w10, rfl, hI, hfr, hR, hup, hk9, hc9⟩
      unfold BackR at hR
      rw [if_pos (by omega)] at hR
      obtain ⟨rfl, hd10⟩ := hR
      rw [hX8] at hI
      have hgd8 := (hHG.at 0 rfl).lt
      have hd9 := hd10.keep hup (fun hi => by have := hi.1; omega)
      have hHH := hHG.put 0 rfl hk9 (fun x _ h => h) hd9
      have hkH : Keeps Nil w w9 := hkGW.step hk9 (fun i hi => .inr (by rw [show i = gd from hi]; omega))
      have hb4g : b4 < gd := by omega
      have hrowH : Row .u8 w9 (some ⟨b4, 0, none⟩) tot X := hrowG.keepB hk9 (fun k hk e => by
        obtain ⟨x, hx, rfl⟩ := hk
        cases hx
        have h9 : b4 = gd := e
        omega)
      have cd9 := hd9.cell 0 (v := .bool true) rfl
      obtain ⟨tv, xv, rfl⟩ := hI.some (by simp [outC])
      clear hfr hup hk9 hHG hkGW hrow8 hd10 hd9 hc9 hX2 hrowG
      go_wp2_with fail
      refine (placed_walk 104 tot _ (by omega)).mono ?_
      rintro e w11 ⟨rfl, hk11⟩
      go_wp2_with fail
      refine (same_walk (hE.keep (hkH.trans hk11)) (hI.keep hk11) _ _ _).mono ?_
      rintro e w12 ⟨rfl, hk12⟩
      have hS : sameF (outC (tot + 1) (.done tot)) (outP (tot + 1) (.done tot)) (outQ (tot + 1) (.done tot)) 104 true tot = true := by simp [sameF, outC, outP, outQ]
      rw [hS]
      have hkI := hkH.trans (hk11.trans hk12)
      have hHI := (hHH.keep0 hk11).keep0 hk12
      have hrowI := (hrowH.keep hk11).keep hk12
      clear hI hHH hrowH hk11 hk12 hkH cd9 hS
      go_wp2_with fail
      refine (number_walk c tot _ hc.1 hc.2 (by omega) (by omega)).mono ?_
      rintro e w13 ⟨rfl, rfl⟩
      have hcm0 : 0 ≤ c % (tot : Int) := Int.emod_nonneg _ (by omega)
      have hcm1 : c % (tot : Int) < tot := Int.emod_lt_of_pos _ (by omega)
      obtain ⟨m, hm⟩ := Int.eq_ofNat_of_zero_le hcm0
      rw [hm] at hcm1 ⊢
      have hmt : m < tot := by omega
      have hm0 : (0 : Int) ≤ m := by omega
      have hm1 : (m : Int) ≤ c4 := by omega
      have hm2 : m ≤ c4 := by omega
      have hXm : (X.take m).length = m := by simp; omega
      have hrowJ : Row .u8 w12 (some ⟨b4, 0, none⟩) m (X.take m) := ⟨hXm, by omega, fun h0 => by
        obtain ⟨b, off, ha, hb, hcc⟩ := hrowI.cell (by omega)
        refine ⟨b, off, ha, hb, fun j hj => ?_⟩
        rw [hcc j (by omega)]
        simp [List.getD, hj], fun x hx => hwf x (List.mem_of_mem_take hx)⟩
      have hXE := hX3' m (by omega)
      clear hrowI hcm0 hcm1 hm
      go_wp2_with fail
      refine (lawRead_walk 48 #[.pointer (some ⟨gd, 0, none⟩), .pointer (some ⟨w.heap.size + 1, 0, none⟩), .pointer (some ⟨w.heap.size, 0, none⟩)] w12 (fun _ _ => by kernel_rfl) hE.two hkI hrowJ (fun h => by cases h) (by omega) (S := One gd) (fun k hk => by rw [show k = gd from hk]; exact ⟨by omega, (hHI.at 0 rfl).lt⟩) (R := fun _ => BackR gd tot (X.take m).length) (HC.out w12 (X.take m) hkI hHI hXE (by omega))).mono ?_
      rintro e w13 ⟨o, v, cc4, w14, rfl, hI, hfr, hR, hup, hk13, hc13⟩
      unfold BackR at hR
      rw [if_neg (by omega)] at hR
      obtain ⟨q, rfl⟩ := hR
      have hkJ : Keeps Nil w w13 := hkI.step hk13 (fun i hi => .inr (by rw [show i = gd from hi]; omega))
      clear hfr hup hk13 hHI hkI hrowJ hc13 hXE
      go_wp2_with fail
      refine (fault_walk (hE.keep hkJ) hI).mono ?_
      rintro e w15 ⟨rfl, hk15⟩
      have hfB := Blk.new w15 [.int .i64 103, .bool true, .int .i64 (outQ (X.take m).length (.fell q 2))] 57
      have f0 := hfB.cell 0 (v := .int .i64 103) rfl
      have f1 := hfB.cell 1 (v := .bool true) rfl
      have hkZ := (hkJ.trans hk15).alloc (.cells #[.int .i64 103, .bool true, .int .i64 (outQ (X.take m).length (.fell q 2))] 57)
      have ho1 : outC (X.take m).length (.fell q 2) = 103 := rfl
      have ho2 : outP (X.take m).length (.fell q 2) = true := rfl
      rw [ho1, ho2]
      go_wp2_with fail
      go_ret
      exact ⟨rfl, hkZ⟩
end Go.Proofs.YtdkfhfflhglmaaaDoor
