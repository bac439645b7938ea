/-
  head.Bytes.
-/
import Derived.Test.YtdkfhfflhglmaaaDoorCodeFirst
import Derived.Test.YtdkfhfflhglmaaaDoorHeader
namespace Go.Proofs.YtdkfhfflhglmaaaDoor
set_option linter.unusedSimpArgs false
set_option linter.unusedVariables false
open Go.RowKit

/-- A header's bytes. -/
def headB (k : List Int) (pn n : Int) : List Int := k ++ le4 pn ++ le4 n
theorem headB_len {k : List Int} {pn n : Int} (h : IsHead k pn n) : (headB k pn n).length = 40 := by simp [headB, le4, h.len]
theorem headB_bytes {k : List Int} {pn n : Int} (h : IsHead k pn n) : ∀ x ∈ headB k pn n, 0 ≤ x ∧ x < 256 := fun x hx => by
  unfold headB at hx
  rcases List.mem_append.1 hx with hx | hx
  · rcases List.mem_append.1 hx with hx | hx
    · exact h.byte x hx
    · exact le4_bytes pn h.pn.1 h.pn.2 x hx
  · exact le4_bytes n h.n.1 h.n.2 x hx

theorem headV_key (k : List Int) (pn n : Int) (hk : k.length = 32) (i : Nat) (hi : i < 32) : (headV k pn n)[i]? = some (.int .u8 (k.getD i 0)) := by
  simp [headV, List.getElem?_append, hk, hi, List.getD]
theorem headV_pn (k : List Int) (pn n : Int) (hk : k.length = 32) : (headV k pn n)[32]? = some (.int .u32 pn) := by
  simp [headV, List.getElem?_append, hk]
theorem headV_n (k : List Int) (pn n : Int) (hk : k.length = 32) : (headV k pn n)[33]? = some (.int .u32 n) := by
  simp [headV, List.getElem?_append, hk]
/-- The key of a header that lies at block g. -/
theorem headRow {k : List Int} {pn n : Int} (h : IsHead k pn n) {w : World} {g : Nat} {T : TypeId} (hb : Blk w g (headV k pn n) T) : Row .u8 w (some ⟨g, 0, none⟩) 32 k :=
  ⟨h.len, by omega, fun _ => ⟨g, 0, rfl, hb.lt, fun i hi => by rw [Nat.zero_add]; exact hb.cell i (headV_key k pn n h.len i hi)⟩, fun x hx => by have := h.byte x hx; simp [Lit.wf, IntKind.min, IntKind.max, IntKind.signed, IntKind.bits]; omega⟩

set_option maxRecDepth 20000 in
set_option maxHeartbeats 1600000 in
theorem headBytes_walk {k : List Int} {pn n : Int} (h : IsHead k pn n) (w : World) :
    Calls Tryd.prog 64 #[.agg (headV k pn n).toArray] w fun e w' => FreshB w w' (headB k pn n) e := by
  have hb := Blk.new w (headV k pn n) 76
  have hk := (Keeps.refl Nil w).alloc (.cells (headV k pn n).toArray 76)
  have hsz : (w.alloc (.cells (headV k pn n).toArray 76)).heap.size = w.heap.size + 1 := size_alloc' _ _
  have hHH := (Has.nil w).cons (headV k pn n) 76 rfl
  have h0 : IsWr 38 ((w.alloc (.cells (headV k pn n).toArray 76)).alloc (.cells #[.slice none 0 0] 38)) (w.heap.size + 1) none 0 [] := IsWr.new _ _ _ hsz.symm
  have hk0 : Keeps Nil w ((w.alloc (.cells (headV k pn n).toArray 76)).alloc (.cells #[.slice none 0 0] 38)) := hk.alloc _
  have hb0 : Blk ((w.alloc (.cells (headV k pn n).toArray 76)).alloc (.cells #[.slice none 0 0] 38)) w.heap.size (headV k pn n) 76 := hb.keep0 ((Keeps.refl Nil _).alloc _)
  have hr0 := headRow h hb0
  have HB := Lib.hid (headB_bytes h)
  have hlen := headB_len h
  unfold headB at HB hlen ⊢
  have hpn := headV_pn k pn n h.len
  have hnn := headV_n k pn n h.len
  have hkl := h.len
  have hp0 := h.pn
  have hn0 := h.n
  clear hb hk hHH h
  generalize headV k pn n = V at *
  generalize hBB : k ++ le4 pn ++ le4 n = B at *
  have HBB := Lib.hid hBB
  clear hBB
  go_enter Tryd.func64, Tryd.ntmps64
  go_wp2_with fail
  generalize ((w.alloc (.cells V.toArray 76)).alloc (.cells #[.slice none 0 0] 38)) = w0 at *
  refine (wrRaw_walk h0 (by simp) hr0 (fun h => by cases h) (by omega)).mono ?_
  rintro e w1 ⟨a1, c1, rfl, h1, hk1, hf1⟩
  have hno : ∀ k, wrOf (w.heap.size + 1) none k → k = w.heap.size + 1 := fun k hk => by
    rcases hk with h | h
    · exact h
    · exact (blkOf_none _ h).elim
  have hb1 := hb0.keep hk1 (fun h => by have := hno _ h; omega)
  have hF1 : ∀ k, wrOf (w.heap.size + 1) a1 k → w.heap.size + 1 ≤ k := fun k hk => by
    rcases hf1 k hk with h | h
    · have := hno k h; omega
    · have := hb0.lt; omega
  have hK1 : Keeps Nil w w1 := hk0.step hk1 (fun i hi => .inr (by have := hno i hi; omega))
  have cp := hb1.cell 32 hpn
  clear h0 hk0 hk1 hf1 hno hr0 hb0 hsz
  go_wp2_with fail
  refine (wrU32_walk h1 pn hp0.1 hp0.2 (by simp; omega)).mono ?_
  rintro e w2 ⟨a2, c2, rfl, h2, hk2, hf2⟩
  have hb2 := hb1.keep hk2 (fun h => by have := hF1 _ h; omega)
  have hF2 : ∀ k, wrOf (w.heap.size + 1) a2 k → w.heap.size + 1 ≤ k := fun k hk => by
    rcases hf2 k hk with h | h
    · exact hF1 k h
    · have := hb1.lt; omega
  have hK2 : Keeps Nil w w2 := hK1.step hk2 (fun i hi => .inr (by have := hF1 i hi; omega))
  have cn := hb2.cell 33 hnn
  clear hK1 hk2 hf2 hF1 h1 hb1 cp
  go_wp2_with fail
  refine (wrU32_walk h2 n hn0.1 hn0.2 (by simp [le4]; omega)).mono ?_
  rintro e w3 ⟨a3, c3, rfl, h3, hk3, hf3⟩
  have hK3 : Keeps Nil w w3 := hK2.step hk3 (fun i hi => .inr (by have := hF2 i hi; omega))
  clear hK2 hk3 hf3 hF2 h2 hb2 cn
  rw [List.nil_append, HBB.out] at h3
  go_wp2_with fail
  refine (wrBytes_walk h3 (by omega) HB.out).mono ?_
  rintro e w4 ⟨a4, c4, rfl, ho4, hk4, hf4⟩
  go_wp2_with fail
  go_ret
  exact ⟨a4, c4, by first | rfl | (rw [hlen]; rfl), ho4, hK3.trans hk4, fun k hk => Nat.le_trans hK3.size (hf4 k hk)⟩
end Go.Proofs.YtdkfhfflhglmaaaDoor
