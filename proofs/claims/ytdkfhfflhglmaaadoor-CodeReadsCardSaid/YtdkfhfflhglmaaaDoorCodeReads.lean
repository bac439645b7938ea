/-
  The law CodeReads.
-/
import Derived.Test.YtdkfhfflhglmaaaDoorCodeReadsIn
namespace Go.Proofs.YtdkfhfflhglmaaaDoor
open Go.RowKit

set_option maxRecDepth 100000 in
set_option maxHeartbeats 8000000 in
theorem codeReads_walk (a0 : Option Addr) (len0 cap0 : Nat) (z0 : List Int) (a1 : Option Addr) (len1 cap1 : Nat) (z1 : Nat → Nat → Int) (w : World) (w0 : IsRow .u8 w a0 len0 cap0 z0) (w1 : IsInts 2 w a1 len1 z1) {p : Nat → Addr} (hE : Errs w p) :
    Calls Tryd.prog 11 #[.slice a0 len0 cap0, .slice a1 len1 cap1] w (TrueC w) := by
  have hmf : ∀ (fn : Fn) (first cap : Array Value) (w : World), (Instr.makeFunc fn first cap).run Tryd.prog w = .ok (.func fn first cap) w := fun _ _ _ _ => rfl
  have hrow := Row.of_isRow w0
  have hnil := w0.nil
  have hm1 := w1.most
  have hm0 := hrow.most
  have hcap : len0 ≤ cap0 := by
    rcases w0 with ⟨rfl, rfl, rfl, rfl⟩ | ⟨x, rfl, hl, hm, hz, hc, hw⟩
    · exact Nat.le_refl _
    · exact hl
  clear w0
  generalize z0.take len0 = l at *
  have HNil := Lib.hid hnil
  clear hnil
  have hll := hrow.llen
  have hHA := (Has.nil w).cons [.slice a1 len1 cap1] 35 rfl
  have hkA : Keeps Nil w (w.alloc (.cells #[.slice a1 len1 cap1] 35)) := (Keeps.refl Nil w).alloc _
  have hszA : (w.alloc (.cells #[.slice a1 len1 cap1] 35)).heap.size = w.heap.size + 1 := size_alloc' _ _
  go_enter Tryd.func11, Tryd.ntmps11
  go_wp2_with fail
  refine (codefirst_walk (hE.keep hkA).two).mono ?_
  rintro e wB ⟨rfl, hkB⟩
  have hHB := hHA.keep0 hkB
  have hkAB := hkA.trans hkB
  have hszB : w.heap.size + 1 ≤ wB.heap.size := by rw [← hszA]; exact hkB.size
  have cl := (hHB.at 0 rfl).cell 0 (v := .slice a1 len1 cap1) rfl
  clear hkA hkB hHA hszA
  by_cases hl0 : 100 < len0
  · go_wp2_with fail
    go_ret
    exact ⟨rfl, hkAB⟩
  by_cases hl1 : 30 < len1
  · go_wp2_with fail
    go_ret
    exact ⟨rfl, hkAB⟩
  have hH1 := hHB.cons [.slice a0 len0 cap0, .int .i64 0, .int .i64 0, .bool false, .int .i64 0] 70 (n := wB.heap.size) rfl
  have hH2 := hH1.cons [.pointer (some ⟨wB.heap.size, 0, none⟩)] 68 (n := wB.heap.size + 1) (by simp [size_alloc'])
  have hH3 := hH2.cons [.bool true] 4 (n := wB.heap.size + 1 + 1) (by simp [size_alloc'])
  have hH4 := hH3.cons [.int .i64 0] 3 (n := wB.heap.size + 1 + 1 + 1) (by simp [size_alloc'])
  have hkC : Keeps Nil wB ((((wB.alloc (.cells #[.slice a0 len0 cap0, .int .i64 0, .int .i64 0, .bool false, .int .i64 0] 70)).alloc (.cells #[.pointer (some ⟨wB.heap.size, 0, none⟩)] 68)).alloc (.cells #[.bool true] 4)).alloc (.cells #[.int .i64 0] 3)) := ((((Keeps.refl Nil wB).alloc _).alloc _).alloc _).alloc _
  have hszC : ((((wB.alloc (.cells #[.slice a0 len0 cap0, .int .i64 0, .int .i64 0, .bool false, .int .i64 0] 70)).alloc (.cells #[.pointer (some ⟨wB.heap.size, 0, none⟩)] 68)).alloc (.cells #[.bool true] 4)).alloc (.cells #[.int .i64 0] 3)).heap.size = wB.heap.size + 4 := by simp [size_alloc']
  clear hH1 hH2 hH3
  go_wp2_with fail
  generalize ((((wB.alloc (.cells #[.slice a0 len0 cap0, .int .i64 0, .int .i64 0, .bool false, .int .i64 0] 70)).alloc (.cells #[.pointer (some ⟨wB.heap.size, 0, none⟩)] 68)).alloc (.cells #[.bool true] 4)).alloc (.cells #[.int .i64 0] 3)) = wC at *
  have hkW := hkAB.trans hkC
  clear cl hHB hkAB hkC
  generalize hgn : wB.heap.size + 1 + 1 + 1 = gn at *
  generalize hgg : wB.heap.size + 1 + 1 = gg at *
  generalize hgp : wB.heap.size + 1 = gp at *
  generalize hgx : wB.heap.size = gx at *
  generalize hgl : w.heap.size = gl at *
  have hrowC := hrow.keep hkW
  have hX : IsRf wC gx a0 cap0 l 0 0 false 0 := by
    have hb := hH4.at 3 (g := gx) rfl
    rw [← hll] at hb hrowC hcap
    refine ⟨hb, hrowC, fun h => by rw [hll]; exact HNil.out h, hcap, fun h0 hk => ?_, Nat.zero_le _⟩
    obtain ⟨b, off, ha, hb, _⟩ := hrow.cell (by omega)
    obtain ⟨x, hx, hx2⟩ := hk
    rw [ha] at hx
    cases hx
    have h9 : b = gx := hx2
    omega
  have hold : 0 < l.length → ∀ b, blkOf a0 b → b < w.heap.size := fun h0 b hk => by
    obtain ⟨b', off, ha, hb, _⟩ := hrow.cell (by omega)
    obtain ⟨x, hx, rfl⟩ := hk
    rw [ha] at hx
    cases hx
    exact hb
  have hHas : Has wC [(gn, [.int .i64 (0 : Nat)], 3), (gg, [.bool true], 4)] := by
    have h1 := hH4.at 0 (g := gn) rfl
    have h2 := hH4.at 1 (g := gg) rfl
    refine ⟨fun x hx => ?_, fun i j x y hi hj he => ?_⟩
    · simp only [List.mem_cons, List.not_mem_nil, or_false] at hx
      rcases hx with rfl | rfl
      · exact h1
      · exact h2
    · match i, j with
      | 0, 0 => rfl
      | 1, 1 => rfl
      | 0, 1 => simp at hi hj; subst hi hj; have h9 : gn = gg := he; omega
      | 1, 0 => simp at hi hj; subst hi hj; have h9 : gg = gn := he; omega
      | n + 2, _ => simp at hi
      | _, m + 2 => simp at hj
  refine (lawRead_walk 50 #[.pointer (some ⟨gl, 0, none⟩), .pointer (some ⟨gg, 0, none⟩), .pointer (some ⟨gp, 0, none⟩), .pointer (some ⟨gn, 0, none⟩)] wC (fun _ _ => by kernel_rfl) hE.two hkW hrowC HNil.out (by omega) (S := S3 gx gg gn) (fun k hk => by rcases hk with rfl | rfl | rfl <;> omega) (R := fun _ => ReadsR gx gg gn a0 cap0 l len1)
    (fun c w5 gr ar cr h5 hc1 hc2 hold2 hne hrd => ?_)).mono ?_
  · have hgr := hold2 gr (.inl rfl)
    have hA : Apart w wC.heap.size gr gx gg gn ar a0 l.length := ⟨hold2, ⟨by omega, by omega, by omega⟩, ⟨by omega, by omega, by omega, by omega⟩, ⟨by omega, by omega, by omega⟩, hold⟩
    have hpn : ¬ Plus (S3 gx gg gn) gr gp := fun h => by rcases h with (h | h | h) | h <;> omega
    have hln : ¬ Plus (S3 gx gg gn) gr gl := fun h => by rcases h with (h | h | h) | h <;> omega
    exact codeReadsIn_walk hE w1 (by omega) (by omega) hA hpn hln ((hH4.at 2 (g := gp) rfl).keep0 h5) ((hH4.at 4 (g := gl) rfl).keep0 h5) ⟨hrd, hX.keep0 h5, hHas.keep0 h5, Keeps.refl _ _, hkW.trans h5⟩
  rintro e w6 ⟨o, v, c, w7, rfl, hI, hfr, hR, hup, hk6, hc6⟩
  have hkZ : Keeps Nil w w6 := hkW.step hk6 (fun i hi => .inr (by rcases hi with rfl | rfl | rfl <;> omega))
  have cl6 := ((hH4.at 4 (g := gl) rfl).keep hk6 (fun h => by rcases h with h | h | h <;> omega)).cell 0 (v := .slice a1 len1 cap1) rfl
  have cp6 := ((hH4.at 2 (g := gp) rfl).keep hk6 (fun h => by rcases h with h | h | h <;> omega)).cell 0 (v := .pointer (some ⟨gx, 0, none⟩)) rfl
  have hupn : ∀ k, k < wC.heap.size → ¬ Upto wC.heap.size c k := fun k hk h => by have := h.1; omega
  clear hX hHas hH4 hk6 hkW hrowC
  rcases hR with ⟨at_, rfl, hrf7, hh7⟩ | ⟨q, k, i, atx, hk19, rfl, hrf7, hi, hh7⟩
  · have hrf6 := hrf7.keep hup (hupn gx (by omega)) (fun h0 b hb => hupn b (by have := hold h0 b hb; omega))
    have hh6 := hh7.keep hup (fun x hx => by
      simp only [List.mem_cons, List.not_mem_nil, or_false] at hx
      rcases hx with rfl | rfl
      · exact hupn _ (by show gn < _; omega)
      · exact hupn _ (by show gg < _; omega))
    have cn6 := (hh6.at 0 rfl).cell 0 (v := .int .i64 len1) rfl
    have cg6 := (hh6.at 1 rfl).cell 0 (v := .bool true) rfl
    have hpos := hrf6.pos
    clear hrf7 hh7 hup hupn hold
    go_wp2_with fail
    refine (fine_walk hrf6).mono ?_
    rintro e w8 ⟨rfl, hk8⟩
    have cp8 := hk8.cell cp6 (fun h => h)
    have hrf8 := hrf6.keep0 hk8
    have hI8 := hI.keep hk8
    have hk8w := hkZ.trans hk8
    clear cp6 cl6 cn6 cg6 hrf6 hI
    go_wp2_with fail
    by_cases hlt : at_ < l.length
    · refine (rfOver_trail hrf8 hlt).mono ?_
      rintro e w9 ⟨rfl, hk9⟩
      have hk9w : Keeps Nil w w9 := hk8w.step hk9 (fun i hi => .inr (by rw [show i = gx from hi]; omega))
      have hI9 := hI8.keepS hk9 (fun bb hbb e => by have h1 := hfr bb hbb; have h2 : bb = gx := e; omega)
      go_wp2_with fail
      refine (same_walk (hE.keep hk9w) hI9 _ _ _).mono ?_
      rintro e w10 ⟨rfl, hk10⟩
      have hS : sameF (outC l.length (.done at_)) (outP l.length (.done at_)) (outQ l.length (.done at_)) 104 true at_ = true := by simp [sameF, outC, outP, outQ, hlt]
      rw [hS]
      go_wp2_with fail
      go_ret
      exact ⟨by simp, hk9w.trans hk10⟩
    · refine (rfOver_none hrf8 hlt).mono ?_
      rintro e w9 ⟨rfl, hk9⟩
      have hk9w := hk8w.trans hk9
      go_wp2_with fail
      refine (same_walk (hE.keep hk9w) (hI8.keep hk9) _ _ _).mono ?_
      rintro e w10 ⟨rfl, hk10⟩
      have hS : sameF (outC l.length (.done at_)) (outP l.length (.done at_)) (outQ l.length (.done at_)) 0 false 0 = true := by simp [sameF, outC, outP, outQ, hlt]
      rw [hS]
      go_wp2_with fail
      go_ret
      exact ⟨by simp, hk9w.trans hk10⟩
  · have hrf6 := hrf7.keep hup (hupn gx (by omega)) (fun h0 b hb => hupn b (by have := hold h0 b hb; omega))
    have hh6 := hh7.keep hup (fun x hx => by
      simp only [List.mem_cons, List.not_mem_nil, or_false] at hx
      rcases hx with rfl | rfl
      · exact hupn _ (by show gn < _; omega)
      · exact hupn _ (by show gg < _; omega))
    have cn6 := (hh6.at 0 rfl).cell 0 (v := .int .i64 i) rfl
    have cg6 := (hh6.at 1 rfl).cell 0 (v := .bool true) rfl
    have hne : ((i : Int) == (len1 : Int)) = false := by simp; omega
    have hne2 : decide ((i : Int) = (len1 : Int)) = false := by simp; omega
    have hkz : ((101 : Int) + k == 0) = false := by simp; omega
    clear hrf7 hh7 hup hupn hold
    go_wp2_with fail
    refine (fine_walk hrf6).mono ?_
    rintro e w8 ⟨rfl, hk8⟩
    have cp8 := hk8.cell cp6 (fun h => h)
    have hrf8 := hrf6.keep0 hk8
    have hI8 := hI.keep hk8
    have hk8w := hkZ.trans hk8
    rw [hkz]
    clear cp6 cl6 cn6 cg6 hrf6 hI hkz
    go_wp2_with fail
    refine (rfOver_bad hrf8 (by omega)).mono ?_
    rintro e w9 ⟨rfl, hk9⟩
    have hk9w := hk8w.trans hk9
    go_wp2_with fail
    refine (same_walk (hE.keep hk9w) (hI8.keep hk9) _ _ _).mono ?_
    rintro e w10 ⟨rfl, hk10⟩
    have hS : sameF (outC l.length (.fell q k)) (outP l.length (.fell q k)) (outQ l.length (.fell q k)) (101 + k) true q = true := by simp [sameF, outC, outP, outQ]
    rw [hS]
    go_wp2_with fail
    go_ret
    exact ⟨by simp, hk9w.trans hk10⟩
end Go.Proofs.YtdkfhfflhglmaaaDoor
