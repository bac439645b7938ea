/-
  The law CodeBools.
-/
import Derived.Test.YtdkfhfflhglmaaaDoorCodeFirst
import Derived.Test.YtdkfhfflhglmaaaDoorVars
namespace Go.Proofs.YtdkfhfflhglmaaaDoor
open Go.RowKit

theorem Errs.glt {w : World} {p : Nat → Addr} (h : Errs w p) {k : Nat} (hk : k < 19) : gnums.getD k 0 < w.heap.size := World.block_lt_of_cell? w _ (h.at_ k hk)
theorem and255 (n : Int) : bits .and .i64 n 255 = n % 256 := by
  have h1 : (BitVec.ofInt 64 n).toNat = (n % 18446744073709551616).toNat := by simp [BitVec.toNat_ofInt]
  have h2 : (BitVec.ofInt 64 (255 : Int)).toNat = 255 := by decide
  have h3 : (n % 18446744073709551616).toNat &&& 255 = (n % 18446744073709551616).toNat % 256 := Nat.and_two_pow_sub_one_eq_mod _ 8
  show IntKind.i64.wrap ((BitVec.ofInt 64 n &&& BitVec.ofInt 64 255).toNat : Int) = _
  rw [BitVec.toNat_and, h1, h2, h3, IntKind.wrap_i64]
  omega

def BoolR (gg gk : Nat) (v m : Int) (o : Out) (w : World) : Prop :=
  Blk w gg [.bool (v == 1)] 4 ∧ Blk w gk [.int .u32 (if v ≤ 1 then m else 0)] 46 ∧ o = if v ≤ 1 then .done 5 else .fell 0 4

set_option maxRecDepth 20000 in
set_option maxHeartbeats 1600000 in
theorem codeBoolsIn_walk {w0 w : World} {p : Nat → Addr} (hE : Errs w0 p) (h0 : Keeps Nil w0 w) {gg gk gr cr : Nat} {ar : Option Addr} {v m : Int} {l : List Int} (hl : l.length = 5) (hv : l.getD 0 0 = v) (hm : num4 l 1 = m)
    (hg : Blk w gg [.bool false] 4) (hk : Blk w gk [.int .u32 0] 46) (hgk : gg ≠ gk) (hr : IsRd 102 w gr ar cr l 0 []) (hgr : w0.heap.size ≤ gr) (hng : ¬ wrOf gr ar gg) (hnk : ¬ wrOf gr ar gk) :
    Calls Tryd.prog 42 #[.pointer (some ⟨gr, 0, none⟩), .pointer (some ⟨gg, 0, none⟩), .pointer (some ⟨gk, 0, none⟩)] w (ReadIn (Two gg gk) p l gr (BoolR gg gk v m) w) := by
  have hgr1 : gg ≠ gr := fun e => hng (.inl e)
  have hgr2 : gk ≠ gr := fun e => hnk (.inl e)
  by_cases hv1 : v ≤ 1
  · have HB := Lib.hid (rdBool_ok hr (by omega) (by rw [hv]; exact hv1))
    rw [hv] at HB
    clear hE h0
    go_enter Tryd.func42, Tryd.ntmps42
    go_wp2_with fail
    refine HB.out.mono ?_
    rintro e w1 ⟨rfl, h1, hk1⟩
    have hg1 := hg.keep hk1 hgr1
    have hk1' := hk.keep hk1 hgr2
    have cg := hg1.cell 0 (v := .bool false) rfl
    have zg := hg1.frozen 0
    have hs : Keeps (One gg) w1 (w1.setCell ⟨gg, 0, none⟩ (.bool (v == 1))) := (Keeps.refl _ _).setOne 0 _
    have h2 := h1.keep hs (fun k hk e => hng (by rw [← show k = gg from e]; exact hk))
    have hg2 := hg1.set 0 (.bool (v == 1))
    have hk2' := hk1'.keep hs (fun e => hgk e.symm)
    have hkA := (hk1.mono (S' := Plus (Two gg gk) gr) (fun i hi => .inr hi)).step hs (fun i hi => .inl (.inl (.inl hi)))
    have HU := Lib.hid (rdU32_ok h2 (by omega))
    rw [show (0 + 1 : Nat) = 1 from rfl, hm] at HU
    go_wp2_with fail
    refine HU.out.mono ?_
    rintro e w2 ⟨rfl, h3, hk3⟩
    have hg3 := hg2.keep hk3 hgr1
    have hk3' := hk2'.keep hk3 hgr2
    have ck := hk3'.cell 0 (v := .int .u32 0) rfl
    have zk := hk3'.frozen 0
    have hs2 : Keeps (One gk) w2 (w2.setCell ⟨gk, 0, none⟩ (.int .u32 m)) := (Keeps.refl _ _).setOne 0 _
    have h4 := h3.keep hs2 (fun k hk e => hnk (by rw [← show k = gk from e]; exact hk))
    have hg4 := hg3.keep hs2 hgk
    have hk4' := hk3'.set 0 (.int .u32 m)
    have hkB := (hkA.step hk3 (fun i hi => .inl (.inr hi))).step hs2 (fun i hi => .inl (.inl (.inr hi)))
    go_wp2_with fail
    go_end0
    refine ⟨.inl ⟨_, _, _, rfl, h4, hg4, ?_, ?_⟩, hkB⟩
    · rw [if_pos hv1]; exact hk4'
    · rw [if_pos hv1]
  · have hgl : ∀ k, k < 19 → gnums.getD k 0 ≠ gr := fun k hk => by have := hE.glt hk; omega
    have HB := Lib.hid (rdBool_form (hE.keep h0) hr hgl (by omega) (by rw [hv]; omega))
    clear hE h0
    go_enter Tryd.func42, Tryd.ntmps42
    go_wp2_with fail
    refine HB.out.mono ?_
    rintro e w1 ⟨g, rfl, hb1, hge, hk1⟩
    have hg1 := hg.keep hk1 hgr1
    have hk1' := hk.keep hk1 hgr2
    go_wp2
    refine ⟨rfl, .inr ⟨_, 4, g, by decide, rfl, hb1, hge, ?_, ?_, ?_⟩, hk1.mono (fun i hi => .inr hi)⟩
    · rw [show (v == 1) = false by simp; omega]; exact hg1
    · rw [if_neg (by omega)]; exact hk1'
    · rw [if_neg (by omega)]; rfl

set_option maxRecDepth 20000 in
set_option maxHeartbeats 4000000 in
theorem codeBools_walk (a0 : Int) (a1 : Int) (w : World) (w0 : (Lit.int .i64 a0).wf = true) (w1 : (Lit.int .u32 a1).wf = true) {p : Nat → Addr} (hE : Errs w p) :
    Calls Tryd.prog 8 #[.int .i64 a0, .int .u32 a1] w (TrueC w) := by
  have hmf : ∀ (fn : Fn) (first cap : Array Value) (w : World), (Instr.makeFunc fn first cap).run Tryd.prog w = .ok (.func fn first cap) w := fun _ _ _ _ => rfl
  have hr1 : 0 ≤ a1 ∧ a1 ≤ 4294967295 := by simpa [Lit.wf, IntKind.min, IntKind.max, IntKind.signed, IntKind.bits] using w1
  have hand := and255 a0
  clear w0 w1
  have hv0 : 0 ≤ a0 % 256 := Int.emod_nonneg _ (by omega)
  have hv1 : a0 % 256 < 256 := Int.emod_lt_of_pos _ (by omega)
  have hL : ([] ++ [a0 % 256] ++ le4 a1 : List Int).length = 5 := rfl
  have hLv : ([] ++ [a0 % 256] ++ le4 a1 : List Int).getD 0 0 = a0 % 256 := rfl
  have hLm : num4 ([] ++ [a0 % 256] ++ le4 a1 : List Int) 1 = a1 := by
    simp [num4, le4, List.getD]; omega
  have hLb : ∀ x ∈ ([] ++ [a0 % 256] ++ le4 a1 : List Int), 0 ≤ x ∧ x < 256 := fun x hx => by
    simp only [List.nil_append, List.singleton_append, List.mem_cons] at hx
    rcases hx with rfl | hx
    · exact ⟨hv0, hv1⟩
    · exact le4_bytes a1 hr1.1 (by omega) x hx
  go_enter Tryd.func8, Tryd.ntmps8
  go_wp2_with fail
  refine (codefirst_walk hE).mono ?_
  rintro e wA ⟨rfl, hkA⟩
  have h0 : IsWr 38 (wA.alloc (.cells #[.slice none 0 0] 38)) wA.heap.size none 0 [] := IsWr.new wA _ _ rfl
  have hk0 : Keeps Nil w (wA.alloc (.cells #[.slice none 0 0] 38)) := hkA.alloc _
  have hszA : w.heap.size ≤ wA.heap.size := hkA.size
  go_wp2_with fail
  refine (wrU8_walk h0 a0 (by simp)).mono ?_
  rintro e w1 ⟨a1_, c1, rfl, h1, hk1, hf1⟩
  have hK1 : Keeps Nil w w1 := hk0.step hk1 (fun i hi => by
    rcases hi with rfl | hi
    · exact .inr hszA
    · exact (blkOf_none _ hi).elim)
  have hF1 : ∀ k, wrOf wA.heap.size a1_ k → w.heap.size ≤ k := fun k hk => by
    rcases hf1 k hk with h | h
    · rcases h with rfl | h
      · exact hszA
      · exact (blkOf_none _ h).elim
    · have := hk0.size; omega
  clear hk0 hk1 hf1 h0 hkA
  go_wp2_with fail
  refine (wrU32_walk h1 a1 hr1.1 (by omega) (by simp)).mono ?_
  rintro e w2 ⟨a2, c2, rfl, h2, hk2, hf2⟩
  have hK2 : Keeps Nil w w2 := hK1.step hk2 (fun i hi => .inr (hF1 i hi))
  clear hK1 hk2 hf2 hF1 h1
  generalize ([] ++ [a0 % 256] ++ le4 a1 : List Int) = l at *
  go_wp2_with fail
  refine (wrBytes_walk h2 (by omega) hLb).mono ?_
  rintro e w3 ⟨a3, c3, rfl, ho3, hk3, hf3⟩
  have hK3 := hK2.trans hk3
  clear hK2 hk3 hf3 h2
  rw [hL] at ho3 ⊢
  obtain ⟨b3, rfl, hb3, hr3⟩ := ho3.some (by omega)
  have hrow3 := ho3.row (l := l) (fun x hx => by have := hLb x hx; simp [Lit.wf, IntKind.min, IntKind.max, IntKind.signed, IntKind.bits]; omega)
  have hkC : Keeps Nil w3 ((w3.alloc (.cells #[.bool false] 4)).alloc (.cells #[.int .u32 0] 46)) := ((Keeps.refl Nil w3).alloc _).alloc _
  have hHC := (((Has.nil w3).cons [.bool false] 4 rfl)).cons [.int .u32 0] 46 (n := w3.heap.size + 1) (by rw [size_alloc'])
  go_wp2_with fail
  have hszC : ((w3.alloc (.cells #[.bool false] 4)).alloc (.cells #[.int .u32 0] 46)).heap.size = w3.heap.size + 2 := by rw [size_alloc', size_alloc']
  generalize ((w3.alloc (.cells #[.bool false] 4)).alloc (.cells #[.int .u32 0] 46)) = wC at *
  have hs3 : w.heap.size ≤ w3.heap.size := hK3.size
  generalize hgk : w3.heap.size + 1 = gk at *
  generalize hgg : w3.heap.size = gg at *
  have hrowC := hrow3.keep hkC
  have hkW := hK3.trans hkC
  have hbyte := hr3 0 (.int .u8 (a0 % 256)) (by
    have h5 : l.getD 0 0 = a0 % 256 := hLv
    have h6 : 0 < l.length := by omega
    simp only [List.getD, List.getElem?_eq_getElem h6, Option.getD_some] at h5
    simp [byteV, h6, h5])
  have hbC := hkC.cell hbyte (fun h => h)
  refine (lawRead_walk 42 #[.pointer (some ⟨gg, 0, none⟩), .pointer (some ⟨gk, 0, none⟩)] wC (fun _ _ => by kernel_rfl) hE hkW hrowC (fun h => by cases h) (by omega) (S := Two gg gk) (fun k hk => by rcases hk with rfl | rfl <;> omega) (R := fun _ => BoolR gg gk (a0 % 256) a1)
    (fun c w4 gr ar cr h4 hc1 hc2 hold hne hrd => ?_)).mono ?_
  · have hH4 := hHC.keep0 h4
    exact codeBoolsIn_walk hE (hkW.trans h4) hL hLv hLm (hH4.at 1 rfl) (hH4.at 0 rfl) (by omega) hrd (by have := hold gr (.inl rfl); omega) (fun h => by have := hold _ h; omega) (fun h => by have := hold _ h; omega)
  rintro e w5 ⟨o, v, c, w6, rfl, hI, hfr, ⟨hg6, hk6, ho⟩, hup, hk5, hc⟩
  obtain rfl := ho
  have hg5 := hg6.keep hup (fun hi => by have := hi.1; omega)
  have hk5' := hk6.keep hup (fun hi => by have := hi.1; omega)
  have hkZ : Keeps Nil w w5 := hkW.step hk5 (fun i hi => .inr (by rcases hi with rfl | rfl <;> omega))
  have hb5 := hk5.cell hbC (fun h => by rcases h with h | h <;> omega)
  have cg := hg5.cell 0 rfl
  have ck := hk5'.cell 0 rfl
  clear hg6 hk6 hup hk5 hkW hkC hHC hg5 hk5' hrow3 hrowC hr3 ho3 hK3 hbC hbyte
  rw [hL] at hI
  generalize a0 % 256 = v0 at *
  by_cases hv : v0 ≤ 1
  · simp only [if_pos hv] at hI cg ck
    obtain rfl := hI.none (by simp [outC])
    go_wp2_with fail
    go_ret
    exact ⟨by simp, hkZ⟩
  · simp only [if_neg hv] at hI cg ck
    have hb1 : (v0 == 1) = false := by simp; omega
    rw [hb1] at cg
    go_wp2_with fail
    refine (placed_walk 105 0 _ (by omega)).mono ?_
    rintro e w6 ⟨rfl, hk6⟩
    go_wp2_with fail
    refine (same_walk (hE.keep (hkZ.trans hk6)) (hI.keep hk6) _ _ _).mono ?_
    rintro e w7 ⟨rfl, hk7⟩
    have hk8 := hk6.trans hk7
    have cg7 := hk8.cell cg (fun h => h)
    have ck7 := hk8.cell ck (fun h => h)
    have cb7 := hk8.cell hb5 (fun h => h)
    have hS : sameF (outC 5 (.fell 0 4)) (outP 5 (.fell 0 4)) (outQ 5 (.fell 0 4)) 105 true 0 = true := by decide
    rw [hS]
    go_wp2_with fail
    go_ret
    exact ⟨by simp, hkZ.trans hk8⟩
end Go.Proofs.YtdkfhfflhglmaaaDoor
