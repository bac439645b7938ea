/-
  The document's header: its bytes.
-/
import Derived.Test.YtdkfhfflhglmaaaDoorRefHead3
namespace Go.Proofs.YtdkfhfflhglmaaaDoor
set_option linter.unusedSimpArgs false
set_option linter.unusedVariables false
open Go.RowKit

set_option maxRecDepth 20000 in
set_option maxHeartbeats 1600000 in
theorem refHeader_walk {k : List Int} {pn n : Int} (h : IsHead k pn n) (w : World) :
    Calls Tryd.prog 65 #[.agg (headV k pn n).toArray] w fun e w' => FreshB w w' (headB k pn n) e := by
  obtain ⟨wA, g, hg, hb, hwA, hkA⟩ := alloc1H w (headV k pn n) 76
  have HWA : Hid (w.alloc (.cells (headV k pn n).toArray 76) = wA) := Lib.hid hwA.symm
  have HG := Lib.hid hg.symm
  have hr := headRow h hb
  have hpn := hb.cell 32 (headV_pn k pn n h.len)
  have hnn := hb.cell 33 (headV_n k pn n h.len)
  have HR := Lib.hid (refBytes_walk (cap := 32) hr (by omega))
  have HK := Lib.hid (And.intro hkA (And.intro h hb))
  have HBB : Hid (headB k pn n = k ++ le4 pn ++ le4 n) := Lib.hid rfl
  have hgl := hb.lt
  have hgw : w.heap.size ≤ g := Nat.le_of_eq hg.symm
  clear hg hb hwA hkA hr h
  generalize headV k pn n = V at *
  go_enter Tryd.func65, Tryd.ntmps65
  go_upto_region 1 with fail
  rw [HWA.out, HG.out]
  go_wp2_with fail
  refine HR.out.mono ?_
  rintro e w1 ⟨a1, c1, rfl, ho1, hk1, hf1⟩
  replace hpn := hk1.cell hpn (fun h => h)
  replace hnn := hk1.cell hnn (fun h => h)
  have H1 := Lib.hid (And.intro ho1 (And.intro (HK.out.1.trans hk1) (fun k hk => (show wA.heap.size ≤ k from hf1 k hk))))
  have hws := hk1.size
  clear ho1 hk1 hf1 HR
  go_upto_region 2 with fail
  refine wp_region_held_drew (S := fun w' => w'.cell? ⟨g, 32, none⟩ = some (.int .u32 pn) ∧ w'.cell? ⟨g, 33, none⟩ = some (.int .u32 n)) (by kernel_rfl) ⟨hpn, hnn⟩ (fun hHeld => ?_)
  have H2 := Lib.hid (And.intro (H1.out.1.keep0 (Keeps.refl Nil w1).drew) (H1.out.2.1.trans (Keeps.refl Nil w1).drew))
  have HV0 : Hid (wA.heap.size ≤ w1.drew.heap.size) := Lib.hid (Nat.le_trans hws (Nat.le_refl _))
  clear hpn hnn hws
  generalize w1.drew = v0 at *
  refine takeL (i := 0) (v := _) rfl (by kernel_rfl) (by kernel_rfl) (by kernel_rfl) (fun _ _ _ h => h) (Or.inl ⟨by rfl, by intro w hSw; (try dsimp only at hSw); go_simp; try with_reducible rfl⟩) (by assumption) ?_
  try simp only [Act.put, List.setIfInBounds_toArray, List.set_cons_zero, List.set_cons_succ]
  refine takeL (i := 1) (v := _) rfl (by kernel_rfl) (by kernel_rfl) (by kernel_rfl) (fun _ _ _ h => h) (Or.inl ⟨by rfl, by intro w hSw; (try dsimp only at hSw); go_simp; try with_reducible rfl⟩) (by assumption) ?_
  try simp only [Act.put, List.setIfInBounds_toArray, List.set_cons_zero, List.set_cons_succ]
  refine takeL (i := 2) (v := _) rfl (by kernel_rfl) (by kernel_rfl) (by kernel_rfl) (fun _ _ _ h => h) (Or.inl ⟨by rfl, by intro w hSw; (try dsimp only at hSw); go_simp; try with_reducible rfl⟩) (by assumption) ?_
  try simp only [Act.put, List.setIfInBounds_toArray, List.set_cons_zero, List.set_cons_succ]
  refine takeL (i := 4) (v := _) rfl (by kernel_rfl) (by kernel_rfl) (by kernel_rfl) (fun _ _ _ h => h) (Or.inl ⟨by rfl, by intro w hSw; (try dsimp only at hSw); go_simp; try with_reducible rfl⟩) (by assumption) ?_
  try simp only [Act.put, List.setIfInBounds_toArray, List.set_cons_zero, List.set_cons_succ]
  refine takeL (i := 5) (v := _) rfl (by kernel_rfl) (by kernel_rfl) (by kernel_rfl) (fun _ _ _ h => h) (Or.inl ⟨by rfl, by intro w hSw; (try dsimp only at hSw); go_simp; try with_reducible rfl⟩) (by assumption) ?_
  try simp only [Act.put, List.setIfInBounds_toArray, List.set_cons_zero, List.set_cons_succ]
  refine onlyL (i := 3) rfl (by kernel_rfl) (fun K hK => ?_)
  go_simp
  have hp1 := put32_walk H2.out.1 pn HK.out.2.1.pn.1 HK.out.2.1.pn.2 (by rw [HK.out.2.1.len]; omega)
  unfold PutPost32 at hp1
  obtain ⟨L1, hL1⟩ : ∃ L, L = k ++ le4 pn := ⟨_, rfl⟩
  rw [← hL1] at hp1
  have hl1 : L1.length = 36 := by rw [hL1, List.length_append, HK.out.2.1.len]; rfl
  have HL1 := Lib.hid (And.intro hL1 hl1)
  clear hL1 hl1
  refine hp1.mono ?_
  clear hp1
  rintro e w3 ⟨a3, c3, rfl, ho3, hk3, hf3⟩
  have hg3 : ∀ x, blkOf a1 x → x ≠ g := fun x hx e => by have := H1.out.2.2 x hx; omega
  have hk3w : Keeps Nil w w3 := H2.out.2.step hk3 (fun x hx => .inr (by have := H1.out.2.2 x hx; omega))
  have hf3' : ∀ x, blkOf a3 x → wA.heap.size ≤ x := fun x hx => (hf3 x hx).elim (H1.out.2.2 x) (fun e => by have h1 := HV0.out; omega)
  refine (fun hHeld => hK _ _ hHeld ?_) (⟨hk3.cell hHeld.1 (fun e => hg3 g e rfl), hk3.cell hHeld.2 (fun e => hg3 g e rfl)⟩)
  clear hK
  try simp only [Act.put, List.setIfInBounds_toArray, List.set_cons_zero, List.set_cons_succ]
  refine onlyL (i := 6) rfl (by kernel_rfl) (fun K hK => ?_)
  go_simp
  have hp2 := put32_walk ho3 n HK.out.2.1.n.1 HK.out.2.1.n.2 (by rw [HL1.out.2]; omega)
  unfold PutPost32 at hp2
  obtain ⟨L2, hL2⟩ : ∃ L, L = L1 ++ le4 n := ⟨_, rfl⟩
  rw [← hL2] at hp2
  have HL2 := Lib.hid hL2
  clear hL2
  refine hp2.mono ?_
  clear hp2
  rintro e w4 ⟨a4, c4, rfl, ho4, hk4, hf4⟩
  have hg4 : ∀ x, blkOf a3 x → x ≠ g := fun x hx e => by have := hf3' x hx; omega
  have hk4w : Keeps Nil w w4 := hk3w.step hk4 (fun x hx => .inr (by have := hf3' x hx; omega))
  refine (fun hHeld => hK _ _ hHeld ?_) (⟨hk4.cell hHeld.1 (fun e => hg4 g e rfl), hk4.cell hHeld.2 (fun e => hg4 g e rfl)⟩)
  clear hK
  try simp only [Act.put, List.setIfInBounds_toArray, List.set_cons_zero, List.set_cons_succ]
  refine takeL (i := 7) (v := _) rfl (by kernel_rfl) (by kernel_rfl) (by kernel_rfl) (fun _ _ _ h => h) (Or.inl ⟨by rfl, by intro w hSw; (try dsimp only at hSw); go_simp; try with_reducible rfl⟩) (by assumption) ?_
  try simp only [Act.put, List.setIfInBounds_toArray, List.set_cons_zero, List.set_cons_succ]
  refine wpAnyH_done (by kernel_rfl) ?_ _
  clear hHeld
  have HF := Lib.hid (And.intro ho4 (And.intro hk4w (fun x (hx : blkOf a4 x) => show w.heap.size ≤ x from (hf4 x hx).elim (fun e => by have := hf3' x e; omega) (fun e => by have := hk3w.size; omega))))
  clear ho4 hk4w hf4 hk4 ho3 hk3 hf3 hf3' hg3 hg4
  go_wp2_with fail
  go_ret
  have hfin : headB k pn n = L2 := by rw [HBB.out, HL2.out, HL1.out.1]
  rw [hfin]
  exact ⟨a4, c4, rfl, HF.out.1, HF.out.2.1, HF.out.2.2⟩
end Go.Proofs.YtdkfhfflhglmaaaDoor
