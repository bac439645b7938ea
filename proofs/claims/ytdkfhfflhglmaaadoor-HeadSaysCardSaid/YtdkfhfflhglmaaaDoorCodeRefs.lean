/-
  courierref9's Reader: U8, U32, List, Bool, Over.
-/
import Derived.Test.YtdkfhfflhglmaaaDoorCodeRef
namespace Go.Proofs.YtdkfhfflhglmaaaDoor
set_option linter.unusedSimpArgs false
set_option linter.unusedVariables false
open Go.RowKit

theorem cutL_wf {l : List Int} (h : ∀ x ∈ l, (Lit.int .u8 x).wf = true) (at_ n : Nat) : ∀ x ∈ cutL l at_ n, (Lit.int .u8 x).wf = true := fun x hx => h x (List.mem_of_mem_drop (List.mem_of_mem_take hx))
set_option maxHeartbeats 800000 in
theorem rfU8_ok {w : World} {g cap at_ : Nat} {a : Option Addr} {l : List Int} (h : IsRf w g a cap l at_ 0 false 0) (hn : at_ + 1 ≤ l.length) (hl : l.length ≤ 100000) :
    Calls Tryd.prog 51 #[.pointer (some ⟨g, 0, none⟩)] w (RfOk (.int .i64 (l.getD at_ 0)) g a cap l (at_ + 1) 0 false 0 w) := by
  have HT := Lib.hid (rfRaw_ok h 1 hn hl)
  have hb := u8_wf (h.row.wf (l.getD at_ 0) (by simp [List.getD, show at_ < l.length by omega]))
  have hcl := cutL_length l at_ 1 hn
  have hcw := cutL_wf h.row.wf at_ 1
  clear h
  go_enter Tryd.func51, Tryd.ntmps51
  go_wp2_with fail
  refine HT.out.mono ?_
  rintro e w2 ⟨a', c', rfl, ho, _, h2, hk2⟩
  have hr := ho.row hcw
  rw [hcl] at hr ⊢
  obtain ⟨b, off, rfl, hbb, hc⟩ := hr.cell (by omega)
  have c0 := hc 0 (by omega)
  rw [cutL_getD l at_ 1 0 (by omega)] at c0
  simp only [Nat.add_zero] at c0
  clear hc hr HT ho hcw hcl
  generalize l.getD at_ 0 = x at *
  go_wp2_with fail
  go_ret
  exact ⟨rfl, h2, hk2⟩
set_option maxHeartbeats 800000 in
theorem rfU8_short {w : World} {g cap at_ : Nat} {a : Option Addr} {l : List Int} (h : IsRf w g a cap l at_ 0 false 0) (hn : l.length < at_ + 1) :
    Calls Tryd.prog 51 #[.pointer (some ⟨g, 0, none⟩)] w (RfOk (.int .i64 0) g a cap l at_ 103 true at_ w) := by
  have HT := Lib.hid (rfRaw_short h 1 hn (by omega))
  clear h
  go_enter Tryd.func51, Tryd.ntmps51
  go_wp2_with fail
  refine HT.out.mono ?_
  rintro e w2 ⟨rfl, h2, hk2⟩
  go_wp2_with fail
  go_ret
  exact ⟨rfl, h2, hk2⟩
set_option maxHeartbeats 1600000 in
theorem get32_walk {w : World} {a : Option Addr} {c : Nat} {l : List Int} (h : Row .u8 w a 4 l) :
    Calls Tryd.prog 89 #[.slice a 4 c] w fun e w' => e = .returned (.int .u32 (num4 l 0)) ∧ Keeps Nil w w' := by
  have hll := h.llen
  have hb : ∀ i, i < 4 → 0 ≤ l.getD i 0 ∧ l.getD i 0 ≤ 255 := fun i hi => u8_wf (h.wf (l.getD i 0) (by simp [List.getD, show i < l.length by omega]))
  have hb0 := hb 0 (by omega)
  have hb1 := hb 1 (by omega)
  have hb2 := hb 2 (by omega)
  have hb3 := hb 3 (by omega)
  have HN := Lib.hid (show num4 l 0 = l.getD 0 0 + 256 * l.getD 1 0 + 65536 * l.getD 2 0 + 16777216 * l.getD 3 0 by simp [num4])
  obtain ⟨b, off, rfl, hbb, hc⟩ := h.cell (by omega)
  have d0 := hc 0 (by omega)
  have d1 := hc 1 (by omega)
  have d2 := hc 2 (by omega)
  have d3 := hc 3 (by omega)
  simp only [Nat.add_zero] at d0
  clear hc hb h hll
  generalize l.getD 0 0 = x0 at *
  generalize l.getD 1 0 = x1 at *
  generalize l.getD 2 0 = x2 at *
  generalize l.getD 3 0 = x3 at *
  go_enter Tryd.func89, Tryd.ntmps89
  go_wp2_with fail
  go_quiet (fail)
  go_wp2_with fail
  go_ret
  refine ⟨?_, (Keeps.refl Nil w).drewN _⟩
  rw [HN.out, ← or4 x0 x1 x2 x3 hb0 hb1 hb2 hb3]
  rfl
theorem num4_cut (l : List Int) (at_ : Nat) : num4 (cutL l at_ 4) 0 = num4 l at_ := by
  have g0 := cutL_getD l at_ 4 0 (by omega)
  rw [Nat.add_zero] at g0
  unfold num4
  rw [Nat.zero_add, Nat.zero_add, Nat.zero_add, g0, cutL_getD l at_ 4 1 (by omega), cutL_getD l at_ 4 2 (by omega), cutL_getD l at_ 4 3 (by omega)]
set_option maxHeartbeats 800000 in
theorem rfU32_ok {w : World} {g cap at_ : Nat} {a : Option Addr} {l : List Int} (h : IsRf w g a cap l at_ 0 false 0) (hn : at_ + 4 ≤ l.length) (hl : l.length ≤ 100000) :
    Calls Tryd.prog 52 #[.pointer (some ⟨g, 0, none⟩)] w (RfOk (.int .u32 (num4 l at_)) g a cap l (at_ + 4) 0 false 0 w) := by
  have HT := Lib.hid (rfRaw_ok h 4 hn hl)
  have hcl := cutL_length l at_ 4 hn
  have hcw := cutL_wf h.row.wf at_ 4
  clear h
  go_enter Tryd.func52, Tryd.ntmps52
  go_wp2_with fail
  refine HT.out.mono ?_
  rintro e w2 ⟨a', c', rfl, ho, _, h2, hk2⟩
  have hr := ho.row hcw
  rw [hcl] at hr ⊢
  have HG := Lib.hid (get32_walk (c := c') hr)
  rw [num4_cut] at HG
  clear hr HT ho hcw hcl
  go_wp2_with fail
  refine HG.out.mono ?_
  rintro e w3 ⟨rfl, hk3⟩
  go_wp2_with fail
  go_ret
  exact ⟨rfl, h2.keep0 hk3, hk2.step hk3 (fun _ h => h.elim)⟩
set_option maxHeartbeats 800000 in
theorem rfU32_short {w : World} {g cap at_ : Nat} {a : Option Addr} {l : List Int} (h : IsRf w g a cap l at_ 0 false 0) (hn : l.length < at_ + 4) :
    Calls Tryd.prog 52 #[.pointer (some ⟨g, 0, none⟩)] w (RfOk (.int .u32 0) g a cap l at_ 103 true at_ w) := by
  have HT := Lib.hid (rfRaw_short h 4 hn (by omega))
  clear h
  go_enter Tryd.func52, Tryd.ntmps52
  go_wp2_with fail
  refine HT.out.mono ?_
  rintro e w2 ⟨rfl, h2, hk2⟩
  go_wp2_with fail
  go_ret
  exact ⟨rfl, h2, hk2⟩

set_option maxHeartbeats 800000 in
theorem rfBool_ok {w : World} {g cap at_ : Nat} {a : Option Addr} {l : List Int} (h : IsRf w g a cap l at_ 0 false 0) (hn : at_ + 1 ≤ l.length) (hl : l.length ≤ 100000) (hx : l.getD at_ 0 ≤ 1) :
    Calls Tryd.prog 55 #[.pointer (some ⟨g, 0, none⟩)] w (RfOk (.bool (l.getD at_ 0 == 1)) g a cap l (at_ + 1) 0 false 0 w) := by
  have c1 := h.obj.cell 1 (v := .int .i64 at_) rfl
  have HT := Lib.hid (rfU8_ok h hn hl)
  clear h
  generalize l.getD at_ 0 = x at *
  go_enter Tryd.func55, Tryd.ntmps55
  go_wp2_with fail
  refine HT.out.mono ?_
  rintro e w2 ⟨rfl, h2, hk2⟩
  clear c1
  go_wp2_with fail
  refine (fine_walk h2).mono ?_
  rintro e w3 ⟨rfl, hk3⟩
  go_wp2_with fail
  go_ret
  exact ⟨rfl, h2.keep0 hk3, hk2.step hk3 (fun _ h => h.elim)⟩
set_option maxHeartbeats 800000 in
theorem rfBool_short {w : World} {g cap at_ : Nat} {a : Option Addr} {l : List Int} (h : IsRf w g a cap l at_ 0 false 0) (hn : l.length < at_ + 1) :
    Calls Tryd.prog 55 #[.pointer (some ⟨g, 0, none⟩)] w (RfOk (.bool false) g a cap l at_ 103 true at_ w) := by
  have c1 := h.obj.cell 1 (v := .int .i64 at_) rfl
  have HT := Lib.hid (rfU8_short h hn)
  clear h
  go_enter Tryd.func55, Tryd.ntmps55
  go_wp2_with fail
  refine HT.out.mono ?_
  rintro e w2 ⟨rfl, h2, hk2⟩
  clear c1
  go_wp2_with fail
  refine (fine_walk h2).mono ?_
  rintro e w3 ⟨rfl, hk3⟩
  go_wp2_with fail
  go_ret
  exact ⟨rfl, h2.keep0 hk3, hk2.step hk3 (fun _ h => h.elim)⟩
set_option maxHeartbeats 800000 in
theorem rfBool_form {w : World} {g cap at_ : Nat} {a : Option Addr} {l : List Int} (h : IsRf w g a cap l at_ 0 false 0) (hn : at_ + 1 ≤ l.length) (hl : l.length ≤ 100000) (hx : 1 < l.getD at_ 0) :
    Calls Tryd.prog 55 #[.pointer (some ⟨g, 0, none⟩)] w (RfOk (.bool false) g a cap l (at_ + 1) 105 true at_ w) := by
  have c1 := h.obj.cell 1 (v := .int .i64 at_) rfl
  have HT := Lib.hid (rfU8_ok h hn hl)
  clear h
  generalize l.getD at_ 0 = x at *
  have hx1 : (x == 1) = false := by simp; omega
  go_enter Tryd.func55, Tryd.ntmps55
  go_wp2_with fail
  refine HT.out.mono ?_
  rintro e w2 ⟨rfl, h2, hk2⟩
  clear c1
  go_wp2_with fail
  refine (fine_walk h2).mono ?_
  rintro e w3 ⟨rfl, hk3⟩
  go_wp2_with fail
  refine (rfail_walk (h2.keep0 hk3) 105 at_ (by omega)).mono ?_
  rintro e w4 ⟨rfl, h4, hk4⟩
  go_wp2_with fail
  go_ret
  exact ⟨by first | rfl | simp [hx1], h4, (hk2.step hk3 (fun _ h => h.elim)).step hk4 (fun i hi => .inl hi)⟩
set_option maxRecDepth 20000 in
set_option maxHeartbeats 1600000 in
theorem rfList_short4 {w : World} {g cap at_ : Nat} {a : Option Addr} {l : List Int} (h : IsRf w g a cap l at_ 0 false 0) (most : Int) (hn : l.length < at_ + 4) :
    Calls Tryd.prog 54 #[.pointer (some ⟨g, 0, none⟩), .int .i64 most] w (RfOk (.slice none 0 0) g a cap l at_ 103 true at_ w) := by
  have c1 := h.obj.cell 1 (v := .int .i64 at_) rfl
  have HT := Lib.hid (rfU32_short h hn)
  clear h
  go_enter Tryd.func54, Tryd.ntmps54
  go_wp2_with fail
  refine HT.out.mono ?_
  rintro e w2 ⟨rfl, h2, hk2⟩
  clear c1
  go_wp2_with fail
  refine (fine_walk h2).mono ?_
  rintro e w3 ⟨rfl, hk3⟩
  have h3 := h2.keep0 hk3
  go_wp2_with fail
  have c0 := h3.obj.cell 0 (v := .slice a l.length cap) rfl
  have c1 := h3.obj.cell 1 (v := .int .i64 (at_ : Nat)) rfl
  refine wp_region_held_drew (S := fun w' => w'.cell? ⟨g, 0, none⟩ = some (.slice a l.length cap) ∧ w'.cell? ⟨g, 1, none⟩ = some (.int .i64 (at_ : Nat))) (by kernel_rfl) ⟨c0, c1⟩ (fun hHeld => ?_)
  refine takeL (i := 0) (v := _) rfl (by kernel_rfl) (by kernel_rfl) (by kernel_rfl) (fun _ _ _ h => h) (Or.inl ⟨by rfl, by intro w hSw; (try dsimp only at hSw); go_simp; try with_reducible rfl⟩) (by assumption) ?_
  try simp only [Act.put, List.setIfInBounds_toArray, List.set_cons_zero, List.set_cons_succ]
  refine onlyL (i := 1) rfl (by kernel_rfl) (fun K hK => ?_)
  go_simp
  refine (fine_walk (h3.keep0 (Keeps.refl Nil _).drew)).mono ?_
  rintro e w6 ⟨rfl, hk6⟩
  have hkB := (Keeps.refl Nil _).drew.trans hk6
  refine (fun hHeld => hK _ _ hHeld ?_) (⟨hkB.cell c0 (fun h => h), hkB.cell c1 (fun h => h)⟩)
  clear hK
  try simp only [Act.put, List.setIfInBounds_toArray, List.set_cons_zero, List.set_cons_succ]
  refine takeL (i := 2) (v := _) rfl (by kernel_rfl) (by kernel_rfl) (by kernel_rfl) (fun _ _ _ h => h) (Or.inl ⟨by rfl, by intro w hSw; (try dsimp only at hSw); go_simp; try with_reducible rfl⟩) (by assumption) ?_
  try simp only [Act.put, List.setIfInBounds_toArray, List.set_cons_zero, List.set_cons_succ]
  refine takeL (i := 3) (v := undef) rfl (by kernel_rfl) (by kernel_rfl) (by kernel_rfl) (fun _ _ _ h => h) (Or.inr ⟨by rfl, rfl⟩) (by assumption) ?_
  try simp only [Act.put, List.setIfInBounds_toArray, List.set_cons_zero, List.set_cons_succ]
  refine takeL (i := 4) (v := undef) rfl (by kernel_rfl) (by kernel_rfl) (by kernel_rfl) (fun _ _ _ h => h) (Or.inr ⟨by rfl, rfl⟩) (by assumption) ?_
  try simp only [Act.put, List.setIfInBounds_toArray, List.set_cons_zero, List.set_cons_succ]
  refine takeL (i := 5) (v := undef) rfl (by kernel_rfl) (by kernel_rfl) (by kernel_rfl) (fun _ _ _ h => h) (Or.inr ⟨by rfl, rfl⟩) (by assumption) ?_
  try simp only [Act.put, List.setIfInBounds_toArray, List.set_cons_zero, List.set_cons_succ]
  refine takeL (i := 6) (v := undef) rfl (by kernel_rfl) (by kernel_rfl) (by kernel_rfl) (fun _ _ _ h => h) (Or.inr ⟨by rfl, rfl⟩) (by assumption) ?_
  try simp only [Act.put, List.setIfInBounds_toArray, List.set_cons_zero, List.set_cons_succ]
  refine takeL (i := 7) (v := undef) rfl (by kernel_rfl) (by kernel_rfl) (by kernel_rfl) (fun _ _ _ h => h) (Or.inr ⟨by rfl, rfl⟩) (by assumption) ?_
  try simp only [Act.put, List.setIfInBounds_toArray, List.set_cons_zero, List.set_cons_succ]
  refine takeL (i := 8) (v := undef) rfl (by kernel_rfl) (by kernel_rfl) (by kernel_rfl) (fun _ _ _ h => h) (Or.inr ⟨by rfl, rfl⟩) (by assumption) ?_
  try simp only [Act.put, List.setIfInBounds_toArray, List.set_cons_zero, List.set_cons_succ]
  refine takeL (i := 9) (v := undef) rfl (by kernel_rfl) (by kernel_rfl) (by kernel_rfl) (fun _ _ _ h => h) (Or.inr ⟨by rfl, rfl⟩) (by assumption) ?_
  try simp only [Act.put, List.setIfInBounds_toArray, List.set_cons_zero, List.set_cons_succ]
  refine takeL (i := 10) (v := undef) rfl (by kernel_rfl) (by kernel_rfl) (by kernel_rfl) (fun _ _ _ h => h) (Or.inr ⟨by rfl, rfl⟩) (by assumption) ?_
  try simp only [Act.put, List.setIfInBounds_toArray, List.set_cons_zero, List.set_cons_succ]
  refine takeL (i := 11) (v := undef) rfl (by kernel_rfl) (by kernel_rfl) (by kernel_rfl) (fun _ _ _ h => h) (Or.inr ⟨by rfl, rfl⟩) (by assumption) ?_
  try simp only [Act.put, List.setIfInBounds_toArray, List.set_cons_zero, List.set_cons_succ]
  refine takeL (i := 12) (v := undef) rfl (by kernel_rfl) (by kernel_rfl) (by kernel_rfl) (fun _ _ _ h => h) (Or.inr ⟨by rfl, rfl⟩) (by assumption) ?_
  try simp only [Act.put, List.setIfInBounds_toArray, List.set_cons_zero, List.set_cons_succ]
  refine takeL (i := 13) (v := undef) rfl (by kernel_rfl) (by kernel_rfl) (by kernel_rfl) (fun _ _ _ h => h) (Or.inr ⟨by rfl, rfl⟩) (by assumption) ?_
  try simp only [Act.put, List.setIfInBounds_toArray, List.set_cons_zero, List.set_cons_succ]
  refine takeL (i := 14) (v := undef) rfl (by kernel_rfl) (by kernel_rfl) (by kernel_rfl) (fun _ _ _ h => h) (Or.inr ⟨by rfl, rfl⟩) (by assumption) ?_
  try simp only [Act.put, List.setIfInBounds_toArray, List.set_cons_zero, List.set_cons_succ]
  refine takeL (i := 15) (v := undef) rfl (by kernel_rfl) (by kernel_rfl) (by kernel_rfl) (fun _ _ _ h => h) (Or.inr ⟨by rfl, rfl⟩) (by assumption) ?_
  try simp only [Act.put, List.setIfInBounds_toArray, List.set_cons_zero, List.set_cons_succ]
  refine takeL (i := 16) (v := _) rfl (by kernel_rfl) (by kernel_rfl) (by kernel_rfl) (fun _ _ _ h => h) (Or.inl ⟨by rfl, by intro w hSw; (try dsimp only at hSw); go_simp; try with_reducible rfl⟩) (by assumption) ?_
  try simp only [Act.put, List.setIfInBounds_toArray, List.set_cons_zero, List.set_cons_succ]
  refine wpAnyH_done (by kernel_rfl) ?_ _
  have h6 := h3.keep0 hkB
  clear c0 c1
  go_wp2_with fail
  refine (fine_walk h6).mono ?_
  rintro e w7 ⟨rfl, hk7⟩
  go_wp2_with fail
  go_ret
  exact ⟨rfl, h6.keep0 hk7, ((hk2.step hk3 (fun _ h => h.elim)).step hkB (fun _ h => h.elim)).step hk7 (fun _ h => h.elim)⟩
set_option maxRecDepth 20000 in
set_option maxHeartbeats 1600000 in
theorem rfList_range {w : World} {g cap at_ : Nat} {a : Option Addr} {l : List Int} (h : IsRf w g a cap l at_ 0 false 0) (most : Int) (hn : at_ + 4 ≤ l.length) (hl : l.length ≤ 100000) (n : Nat) (hnn : num4 l at_ = n) (hm : most < (n : Int)) :
    Calls Tryd.prog 54 #[.pointer (some ⟨g, 0, none⟩), .int .i64 most] w (RfOk (.slice none 0 0) g a cap l (at_ + 4) 102 true at_ w) := by
  have c1 := h.obj.cell 1 (v := .int .i64 at_) rfl
  have hb := num4_bounds h.row.bytes at_ hn
  have HT := Lib.hid (rfU32_ok h hn hl)
  rw [hnn] at hb HT
  clear h hnn
  go_enter Tryd.func54, Tryd.ntmps54
  go_wp2_with fail
  refine HT.out.mono ?_
  rintro e w2 ⟨rfl, h2, hk2⟩
  clear c1
  go_wp2_with fail
  refine (fine_walk h2).mono ?_
  rintro e w3 ⟨rfl, hk3⟩
  have h3 := h2.keep0 hk3
  go_wp2_with fail
  refine (rfail_walk h3 102 at_ (by omega)).mono ?_
  rintro e w4 ⟨rfl, h4, hk4⟩
  go_wp2_with fail
  have c0 := h4.obj.cell 0 (v := .slice a l.length cap) rfl
  have c1 := h4.obj.cell 1 (v := .int .i64 (at_ + 4 : Nat)) rfl
  refine wp_region_held_drew (S := fun w' => w'.cell? ⟨g, 0, none⟩ = some (.slice a l.length cap) ∧ w'.cell? ⟨g, 1, none⟩ = some (.int .i64 (at_ + 4 : Nat))) (by kernel_rfl) ⟨c0, c1⟩ (fun hHeld => ?_)
  refine takeL (i := 0) (v := _) rfl (by kernel_rfl) (by kernel_rfl) (by kernel_rfl) (fun _ _ _ h => h) (Or.inl ⟨by rfl, by intro w hSw; (try dsimp only at hSw); go_simp; try with_reducible rfl⟩) (by assumption) ?_
  try simp only [Act.put, List.setIfInBounds_toArray, List.set_cons_zero, List.set_cons_succ]
  refine onlyL (i := 1) rfl (by kernel_rfl) (fun K hK => ?_)
  go_simp
  refine (fine_walk (h4.keep0 (Keeps.refl Nil _).drew)).mono ?_
  rintro e w6 ⟨rfl, hk6⟩
  have hkB := (Keeps.refl Nil _).drew.trans hk6
  refine (fun hHeld => hK _ _ hHeld ?_) (⟨hkB.cell c0 (fun h => h), hkB.cell c1 (fun h => h)⟩)
  clear hK
  try simp only [Act.put, List.setIfInBounds_toArray, List.set_cons_zero, List.set_cons_succ]
  refine takeL (i := 2) (v := _) rfl (by kernel_rfl) (by kernel_rfl) (by kernel_rfl) (fun _ _ _ h => h) (Or.inl ⟨by rfl, by intro w hSw; (try dsimp only at hSw); go_simp; try with_reducible rfl⟩) (by assumption) ?_
  try simp only [Act.put, List.setIfInBounds_toArray, List.set_cons_zero, List.set_cons_succ]
  refine takeL (i := 3) (v := undef) rfl (by kernel_rfl) (by kernel_rfl) (by kernel_rfl) (fun _ _ _ h => h) (Or.inr ⟨by rfl, rfl⟩) (by assumption) ?_
  try simp only [Act.put, List.setIfInBounds_toArray, List.set_cons_zero, List.set_cons_succ]
  refine takeL (i := 4) (v := undef) rfl (by kernel_rfl) (by kernel_rfl) (by kernel_rfl) (fun _ _ _ h => h) (Or.inr ⟨by rfl, rfl⟩) (by assumption) ?_
  try simp only [Act.put, List.setIfInBounds_toArray, List.set_cons_zero, List.set_cons_succ]
  refine takeL (i := 5) (v := undef) rfl (by kernel_rfl) (by kernel_rfl) (by kernel_rfl) (fun _ _ _ h => h) (Or.inr ⟨by rfl, rfl⟩) (by assumption) ?_
  try simp only [Act.put, List.setIfInBounds_toArray, List.set_cons_zero, List.set_cons_succ]
  refine takeL (i := 6) (v := undef) rfl (by kernel_rfl) (by kernel_rfl) (by kernel_rfl) (fun _ _ _ h => h) (Or.inr ⟨by rfl, rfl⟩) (by assumption) ?_
  try simp only [Act.put, List.setIfInBounds_toArray, List.set_cons_zero, List.set_cons_succ]
  refine takeL (i := 7) (v := undef) rfl (by kernel_rfl) (by kernel_rfl) (by kernel_rfl) (fun _ _ _ h => h) (Or.inr ⟨by rfl, rfl⟩) (by assumption) ?_
  try simp only [Act.put, List.setIfInBounds_toArray, List.set_cons_zero, List.set_cons_succ]
  refine takeL (i := 8) (v := undef) rfl (by kernel_rfl) (by kernel_rfl) (by kernel_rfl) (fun _ _ _ h => h) (Or.inr ⟨by rfl, rfl⟩) (by assumption) ?_
  try simp only [Act.put, List.setIfInBounds_toArray, List.set_cons_zero, List.set_cons_succ]
  refine takeL (i := 9) (v := undef) rfl (by kernel_rfl) (by kernel_rfl) (by kernel_rfl) (fun _ _ _ h => h) (Or.inr ⟨by rfl, rfl⟩) (by assumption) ?_
  try simp only [Act.put, List.setIfInBounds_toArray, List.set_cons_zero, List.set_cons_succ]
  refine takeL (i := 10) (v := undef) rfl (by kernel_rfl) (by kernel_rfl) (by kernel_rfl) (fun _ _ _ h => h) (Or.inr ⟨by rfl, rfl⟩) (by assumption) ?_
  try simp only [Act.put, List.setIfInBounds_toArray, List.set_cons_zero, List.set_cons_succ]
  refine takeL (i := 11) (v := undef) rfl (by kernel_rfl) (by kernel_rfl) (by kernel_rfl) (fun _ _ _ h => h) (Or.inr ⟨by rfl, rfl⟩) (by assumption) ?_
  try simp only [Act.put, List.setIfInBounds_toArray, List.set_cons_zero, List.set_cons_succ]
  refine takeL (i := 12) (v := undef) rfl (by kernel_rfl) (by kernel_rfl) (by kernel_rfl) (fun _ _ _ h => h) (Or.inr ⟨by rfl, rfl⟩) (by assumption) ?_
  try simp only [Act.put, List.setIfInBounds_toArray, List.set_cons_zero, List.set_cons_succ]
  refine takeL (i := 13) (v := undef) rfl (by kernel_rfl) (by kernel_rfl) (by kernel_rfl) (fun _ _ _ h => h) (Or.inr ⟨by rfl, rfl⟩) (by assumption) ?_
  try simp only [Act.put, List.setIfInBounds_toArray, List.set_cons_zero, List.set_cons_succ]
  refine takeL (i := 14) (v := undef) rfl (by kernel_rfl) (by kernel_rfl) (by kernel_rfl) (fun _ _ _ h => h) (Or.inr ⟨by rfl, rfl⟩) (by assumption) ?_
  try simp only [Act.put, List.setIfInBounds_toArray, List.set_cons_zero, List.set_cons_succ]
  refine takeL (i := 15) (v := undef) rfl (by kernel_rfl) (by kernel_rfl) (by kernel_rfl) (fun _ _ _ h => h) (Or.inr ⟨by rfl, rfl⟩) (by assumption) ?_
  try simp only [Act.put, List.setIfInBounds_toArray, List.set_cons_zero, List.set_cons_succ]
  refine takeL (i := 16) (v := _) rfl (by kernel_rfl) (by kernel_rfl) (by kernel_rfl) (fun _ _ _ h => h) (Or.inl ⟨by rfl, by intro w hSw; (try dsimp only at hSw); go_simp; try with_reducible rfl⟩) (by assumption) ?_
  try simp only [Act.put, List.setIfInBounds_toArray, List.set_cons_zero, List.set_cons_succ]
  refine wpAnyH_done (by kernel_rfl) ?_ _
  have h6 := h4.keep0 hkB
  clear c0 c1
  go_wp2_with fail
  refine (fine_walk h6).mono ?_
  rintro e w7 ⟨rfl, hk7⟩
  go_wp2_with fail
  go_ret
  exact ⟨rfl, h6.keep0 hk7, (((hk2.step hk3 (fun _ h => h.elim)).step hk4 (fun i hi => .inl hi)).step hkB (fun _ h => h.elim)).step hk7 (fun _ h => h.elim)⟩
set_option maxRecDepth 20000 in
set_option maxHeartbeats 1600000 in
theorem rfList_short {w : World} {g cap at_ : Nat} {a : Option Addr} {l : List Int} (h : IsRf w g a cap l at_ 0 false 0) (most : Int) (hn : at_ + 4 ≤ l.length) (hl : l.length ≤ 100000) (n : Nat) (hnn : num4 l at_ = n) (hm : (n : Int) ≤ most) (hf : l.length < at_ + 4 + n) :
    Calls Tryd.prog 54 #[.pointer (some ⟨g, 0, none⟩), .int .i64 most] w (RfOk (.slice none 0 0) g a cap l (at_ + 4) 103 true at_ w) := by
  have c1 := h.obj.cell 1 (v := .int .i64 at_) rfl
  have hb := num4_bounds h.row.bytes at_ hn
  have hmx := h.row.most
  have HT := Lib.hid (rfU32_ok h hn hl)
  rw [hnn] at hb HT
  clear h hnn
  go_enter Tryd.func54, Tryd.ntmps54
  go_wp2_with fail
  refine HT.out.mono ?_
  rintro e w2 ⟨rfl, h2, hk2⟩
  clear c1
  go_wp2_with fail
  refine (fine_walk h2).mono ?_
  rintro e w3 ⟨rfl, hk3⟩
  have h3 := h2.keep0 hk3
  have H3 := Lib.hid h3
  have hkA := hk2.step hk3 (fun _ h => h.elim)
  have c0 := h3.obj.cell 0 (v := .slice a l.length cap) rfl
  have c1 := h3.obj.cell 1 (v := .int .i64 (at_ + 4 : Nat)) rfl
  clear h2 h3 HT hk2 hk3
  generalize hL : l.length = L at *
  generalize hA : at_ + 4 = A at *
  have hw1 : IntKind.i64.wrap ((L : Int) - A) = (L : Int) - A := by rw [IntKind.wrap_i64]; omega
  have hcv : IntKind.i64.wrap (n : Int) = n := by rw [IntKind.wrap_i64]; omega
  have hc2 : decide ((L : Int) - A < n) = true := by simp; omega
  go_wp2_with fail
  go_region_held3 (fun w' => w'.cell? ⟨g, 0, none⟩ = some (.slice a L cap) ∧ w'.cell? ⟨g, 1, none⟩ = some (.int .i64 (A : Int))) (first | go_keep | exact ⟨hkB.cell c0 (fun h => h), hkB.cell c1 (fun h => h)⟩ | exact ⟨c0, c1⟩) (first | (go_at_call 56; refine (fine_walk (H3.out.keep0 (Keeps.refl Nil _).drew)).mono ?_; rintro e4 w4 ⟨rfl, hk4⟩; have hkB := (Keeps.refl Nil w3).drew.trans hk4))
  have h4 := H3.out.keep0 hkB
  have hkC := hkA.step hkB (fun _ h => h.elim)
  clear c0 c1 hw1 hc2 hkB hk4 H3 hkA
  go_wp2_with fail
  refine (rfail_walk h4 103 at_ (by omega)).mono ?_
  rintro e w5 ⟨rfl, h5, hk5⟩
  go_wp2_with fail
  refine (fine_walk h5).mono ?_
  rintro e w6 ⟨rfl, hk6⟩
  go_wp2_with fail
  go_ret
  exact ⟨rfl, hA ▸ h5.keep0 hk6, (hkC.step hk5 (fun i hi => .inl hi)).step hk6 (fun _ h => h.elim)⟩
set_option maxRecDepth 20000 in
set_option maxHeartbeats 1600000 in
theorem rfList_ok {w : World} {g cap at_ : Nat} {a : Option Addr} {l : List Int} (h : IsRf w g a cap l at_ 0 false 0) (most : Int) (hn : at_ + 4 ≤ l.length) (hl : l.length ≤ 100000) (n : Nat) (hnn : num4 l at_ = n) (hm : (n : Int) ≤ most) (hf : at_ + 4 + n ≤ l.length) :
    Calls Tryd.prog 54 #[.pointer (some ⟨g, 0, none⟩), .int .i64 most] w (RfBytes (cutL l (at_ + 4) n) g a cap l (at_ + 4 + n) w) := by
  have c1 := h.obj.cell 1 (v := .int .i64 at_) rfl
  have hb := num4_bounds h.row.bytes at_ hn
  have hmx := h.row.most
  have HT := Lib.hid (rfU32_ok h hn hl)
  rw [hnn] at hb HT
  clear h hnn
  go_enter Tryd.func54, Tryd.ntmps54
  go_wp2_with fail
  refine HT.out.mono ?_
  rintro e w2 ⟨rfl, h2, hk2⟩
  clear c1
  go_wp2_with fail
  refine (fine_walk h2).mono ?_
  rintro e w3 ⟨rfl, hk3⟩
  have h3 := h2.keep0 hk3
  have H3 := Lib.hid h3
  have hkA := hk2.step hk3 (fun _ h => h.elim)
  have c0 := h3.obj.cell 0 (v := .slice a l.length cap) rfl
  have c1 := h3.obj.cell 1 (v := .int .i64 (at_ + 4 : Nat)) rfl
  clear h2 h3 HT hk2 hk3
  generalize hL : l.length = L at *
  generalize hA : at_ + 4 = A at *
  have hw1 : IntKind.i64.wrap ((L : Int) - A) = (L : Int) - A := by rw [IntKind.wrap_i64]; omega
  have hcv : IntKind.i64.wrap (n : Int) = n := by rw [IntKind.wrap_i64]; omega
  have hc2 : decide ((L : Int) - A < n) = false := by simp; omega
  go_wp2_with fail
  go_region_held3 (fun w' => w'.cell? ⟨g, 0, none⟩ = some (.slice a L cap) ∧ w'.cell? ⟨g, 1, none⟩ = some (.int .i64 (A : Int))) (first | go_keep | exact ⟨hkB.cell c0 (fun h => h), hkB.cell c1 (fun h => h)⟩ | exact ⟨c0, c1⟩) (first | (go_at_call 56; refine (fine_walk (H3.out.keep0 (Keeps.refl Nil _).drew)).mono ?_; rintro e4 w4 ⟨rfl, hk4⟩; have hkB := (Keeps.refl Nil w3).drew.trans hk4))
  have h4 := H3.out.keep0 hkB
  have hkC := hkA.step hkB (fun _ h => h.elim)
  clear c0 c1 hw1 hc2 hkB hk4 H3 hkA
  go_wp2_with fail
  refine (fine_walk h4).mono ?_
  rintro e w5 ⟨rfl, hk5⟩
  have h5 := h4.keep0 hk5
  have hkD := hkC.step hk5 (fun _ h => h.elim)
  clear h4 hkC hk5
  go_wp2_with fail
  refine (rfRaw_ok h5 n (by omega) (by omega)).mono ?_
  rintro e w6 ⟨a6, c6, rfl, ho6, hf6, h6, hk6⟩
  generalize hcl : (cutL l A n).length = cl at *
  go_wp2_with fail
  go_ret
  exact ⟨a6, c6, by rw [hcl]; rfl, by rw [hcl]; exact ho6, fun k hk => Nat.le_trans hkD.size (hf6 k hk), h6, hkD.step hk6 (fun i hi => .inl hi)⟩

set_option maxRecDepth 20000 in
set_option maxHeartbeats 1600000 in
/-- Behind an error: it is told. -/
theorem rfOver_bad {w : World} {g cap at_ : Nat} {a : Option Addr} {l : List Int} {c q : Int} {p : Bool} (h : IsRf w g a cap l at_ c p q) (hc : c ≠ 0) :
    Calls Tryd.prog 58 #[.pointer (some ⟨g, 0, none⟩)] w fun e w' => e = .returned (faultV c p q) ∧ Keeps Nil w w' := by
  have hka := (Keeps.refl Nil w).alloc (.cells #[.int .i64 0, .bool false, .int .i64 0] 57)
  have hr := Blk.new w [.int .i64 0, .bool false, .int .i64 0] 57
  have h1 := h.keep0 hka
  have hgl := h.obj.lt
  have H1 := Lib.hid h1
  have c0 := h1.obj.cell 0 (v := .slice a l.length cap) rfl
  have c1 := h1.obj.cell 1 (v := .int .i64 at_) rfl
  have hcz : (c == 0) = false := by simpa using hc
  clear h h1
  go_enter Tryd.func58, Tryd.ntmps58
  go_wp2_with fail
  refine wp_region_held_drew (S := fun w' => w'.cell? ⟨g, 0, none⟩ = some (.slice a l.length cap) ∧ w'.cell? ⟨g, 1, none⟩ = some (.int .i64 at_)) (by kernel_rfl) ⟨c0, c1⟩ (fun hHeld => ?_)
  refine takeL (i := 0) (v := _) rfl (by kernel_rfl) (by kernel_rfl) (by kernel_rfl) (fun _ _ _ h => h) (Or.inl ⟨by rfl, by intro w hSw; (try dsimp only at hSw); go_simp; try with_reducible rfl⟩) (by assumption) ?_
  try simp only [Act.put, List.setIfInBounds_toArray, List.set_cons_zero, List.set_cons_succ]
  refine onlyL (i := 1) rfl (by kernel_rfl) (fun K hK => ?_)
  go_simp
  refine (fine_walk (H1.out.keep0 (Keeps.refl Nil _).drew)).mono ?_
  rintro e w2 ⟨rfl, hk2⟩
  have hkB := (Keeps.refl Nil _).drew.trans hk2
  rw [hcz]
  refine (fun hHeld => hK _ _ hHeld ?_) (⟨hkB.cell c0 (fun h => h), hkB.cell c1 (fun h => h)⟩)
  clear hK
  try simp only [Act.put, List.setIfInBounds_toArray, List.set_cons_zero, List.set_cons_succ]
  refine takeL (i := 2) (v := _) rfl (by kernel_rfl) (by kernel_rfl) (by kernel_rfl) (fun _ _ _ h => h) (Or.inl ⟨by rfl, by intro w hSw; (try dsimp only at hSw); go_simp; try with_reducible rfl⟩) (by assumption) ?_
  try simp only [Act.put, List.setIfInBounds_toArray, List.set_cons_zero, List.set_cons_succ]
  refine takeL (i := 3) (v := undef) rfl (by kernel_rfl) (by kernel_rfl) (by kernel_rfl) (fun _ _ _ h => h) (Or.inr ⟨by rfl, rfl⟩) (by assumption) ?_
  try simp only [Act.put, List.setIfInBounds_toArray, List.set_cons_zero, List.set_cons_succ]
  refine takeL (i := 4) (v := undef) rfl (by kernel_rfl) (by kernel_rfl) (by kernel_rfl) (fun _ _ _ h => h) (Or.inr ⟨by rfl, rfl⟩) (by assumption) ?_
  try simp only [Act.put, List.setIfInBounds_toArray, List.set_cons_zero, List.set_cons_succ]
  refine takeL (i := 5) (v := undef) rfl (by kernel_rfl) (by kernel_rfl) (by kernel_rfl) (fun _ _ _ h => h) (Or.inr ⟨by rfl, rfl⟩) (by assumption) ?_
  try simp only [Act.put, List.setIfInBounds_toArray, List.set_cons_zero, List.set_cons_succ]
  refine takeL (i := 6) (v := undef) rfl (by kernel_rfl) (by kernel_rfl) (by kernel_rfl) (fun _ _ _ h => h) (Or.inr ⟨by rfl, rfl⟩) (by assumption) ?_
  try simp only [Act.put, List.setIfInBounds_toArray, List.set_cons_zero, List.set_cons_succ]
  refine takeL (i := 7) (v := undef) rfl (by kernel_rfl) (by kernel_rfl) (by kernel_rfl) (fun _ _ _ h => h) (Or.inr ⟨by rfl, rfl⟩) (by assumption) ?_
  try simp only [Act.put, List.setIfInBounds_toArray, List.set_cons_zero, List.set_cons_succ]
  refine takeL (i := 8) (v := undef) rfl (by kernel_rfl) (by kernel_rfl) (by kernel_rfl) (fun _ _ _ h => h) (Or.inr ⟨by rfl, rfl⟩) (by assumption) ?_
  try simp only [Act.put, List.setIfInBounds_toArray, List.set_cons_zero, List.set_cons_succ]
  refine takeL (i := 9) (v := undef) rfl (by kernel_rfl) (by kernel_rfl) (by kernel_rfl) (fun _ _ _ h => h) (Or.inr ⟨by rfl, rfl⟩) (by assumption) ?_
  try simp only [Act.put, List.setIfInBounds_toArray, List.set_cons_zero, List.set_cons_succ]
  refine takeL (i := 10) (v := undef) rfl (by kernel_rfl) (by kernel_rfl) (by kernel_rfl) (fun _ _ _ h => h) (Or.inr ⟨by rfl, rfl⟩) (by assumption) ?_
  try simp only [Act.put, List.setIfInBounds_toArray, List.set_cons_zero, List.set_cons_succ]
  refine takeL (i := 11) (v := undef) rfl (by kernel_rfl) (by kernel_rfl) (by kernel_rfl) (fun _ _ _ h => h) (Or.inr ⟨by rfl, rfl⟩) (by assumption) ?_
  try simp only [Act.put, List.setIfInBounds_toArray, List.set_cons_zero, List.set_cons_succ]
  refine takeL (i := 12) (v := undef) rfl (by kernel_rfl) (by kernel_rfl) (by kernel_rfl) (fun _ _ _ h => h) (Or.inr ⟨by rfl, rfl⟩) (by assumption) ?_
  try simp only [Act.put, List.setIfInBounds_toArray, List.set_cons_zero, List.set_cons_succ]
  refine takeL (i := 13) (v := _) rfl (by kernel_rfl) (by kernel_rfl) (by kernel_rfl) (fun _ _ _ h => h) (Or.inl ⟨by rfl, by intro w hSw; (try dsimp only at hSw); go_simp; try with_reducible rfl⟩) (by assumption) ?_
  try simp only [Act.put, List.setIfInBounds_toArray, List.set_cons_zero, List.set_cons_succ]
  refine wpAnyH_done (by kernel_rfl) ?_ _
  have h2 := H1.out.keep0 hkB
  have hr2 := hr.keep0 hkB
  have c2 := h2.obj.cell 2 (v := .int .i64 c) rfl
  have c3 := h2.obj.cell 3 (v := .bool p) rfl
  have c4 := h2.obj.cell 4 (v := .int .i64 q) rfl
  clear c0 c1
  go_wp2_with (refine wpl_store rfl 57 _ _ rfl w.heap.size rfl [.int .i64 c, .bool p, .int .i64 q] rfl hr2 rfl Tryd.sizeFault (by simp [Value.oneCell']) ?_)
  intro w3 hb3 hk3 hs3
  go_wp2_with fail
  refine ret_blk Tryd.results58 w.heap.size rfl hb3 _ Tryd.underlying57 rfl Tryd.sizeFault rfl ⟨rfl, (hka.trans hkB).step hk3 (fun i hi => .inr (by rw [show i = w.heap.size from hi]; exact Nat.le_refl _))⟩
set_option maxRecDepth 20000 in
set_option maxHeartbeats 1600000 in
theorem rfOver_trail {w : World} {g cap at_ : Nat} {a : Option Addr} {l : List Int} (h : IsRf w g a cap l at_ 0 false 0) (hn : at_ < l.length) :
    Calls Tryd.prog 58 #[.pointer (some ⟨g, 0, none⟩)] w fun e w' => e = .returned (faultV 104 true at_) ∧ Keeps (One g) w w' := by
  have hka := (Keeps.refl Nil w).alloc (.cells #[.int .i64 0, .bool false, .int .i64 0] 57)
  have hr := Blk.new w [.int .i64 0, .bool false, .int .i64 0] 57
  have h1 := h.keep0 hka
  have hgl := h.obj.lt
  have hmx := h.row.most
  have H1 := Lib.hid h1
  have c0 := h1.obj.cell 0 (v := .slice a l.length cap) rfl
  have c1 := h1.obj.cell 1 (v := .int .i64 at_) rfl
  clear h h1
  generalize hL : l.length = L at *
  have hdc : decide ((at_ : Int) < L) = true := by simp; omega
  go_enter Tryd.func58, Tryd.ntmps58
  go_wp2_with fail
  generalize hwz : (w.alloc (.cells #[.int .i64 0, .bool false, .int .i64 0] 57)) = wz at *
  go_region_held3 (fun w' => w'.cell? ⟨g, 0, none⟩ = some (.slice a L cap) ∧ w'.cell? ⟨g, 1, none⟩ = some (.int .i64 at_)) (first | go_keep | exact ⟨hkB.cell c0 (fun h => h), hkB.cell c1 (fun h => h)⟩ | exact ⟨c0, c1⟩) (first | (go_at_call 56; refine (fine_walk (H1.out.keep0 (Keeps.refl Nil _).drew)).mono ?_; rintro e2 w2 ⟨rfl, hk2⟩; have hkB := (Keeps.refl Nil wz).drew.trans hk2))
  have h2 := H1.out.keep0 hkB
  have hr2 := hr.keep0 hkB
  have hkC := hka.trans hkB
  clear c0 c1 hdc hkB hk2 H1 hka hr
  go_wp2_with fail
  have c1 := h2.obj.cell 1 (v := .int .i64 at_) rfl
  refine (rfail_walk h2 104 at_ (by omega)).mono ?_
  rintro e w5 ⟨rfl, h5, hk5⟩
  have hr5 := hr2.keep hk5 (fun e => by have : w.heap.size = g := e; omega)
  have c2 := h5.obj.cell 2 (v := .int .i64 104) rfl
  have c3 := h5.obj.cell 3 (v := .bool true) rfl
  have c4 := h5.obj.cell 4 (v := .int .i64 at_) rfl
  go_wp2_with (refine wpl_store rfl 57 _ _ rfl w.heap.size rfl [.int .i64 104, .bool true, .int .i64 at_] rfl hr5 rfl Tryd.sizeFault (by simp [Value.oneCell']) ?_)
  intro w8 hb8 hk8 hs8
  go_wp2_with fail
  refine ret_blk Tryd.results58 w.heap.size rfl hb8 _ Tryd.underlying57 rfl Tryd.sizeFault rfl ⟨rfl, ((hkC.nil (S := One g)).step hk5 (fun i hi => .inl hi)).step hk8 (fun i hi => .inr (by rw [show i = w.heap.size from hi]; exact Nat.le_refl _))⟩
set_option maxRecDepth 20000 in
set_option maxHeartbeats 1600000 in
theorem rfOver_none {w : World} {g cap at_ : Nat} {a : Option Addr} {l : List Int} (h : IsRf w g a cap l at_ 0 false 0) (hn : ¬ at_ < l.length) :
    Calls Tryd.prog 58 #[.pointer (some ⟨g, 0, none⟩)] w fun e w' => e = .returned (faultV 0 false 0) ∧ Keeps Nil w w' := by
  have hka := (Keeps.refl Nil w).alloc (.cells #[.int .i64 0, .bool false, .int .i64 0] 57)
  have hr := Blk.new w [.int .i64 0, .bool false, .int .i64 0] 57
  have h1 := h.keep0 hka
  have hgl := h.obj.lt
  have hmx := h.row.most
  have H1 := Lib.hid h1
  have c0 := h1.obj.cell 0 (v := .slice a l.length cap) rfl
  have c1 := h1.obj.cell 1 (v := .int .i64 at_) rfl
  clear h h1
  generalize hL : l.length = L at *
  have hdc : decide ((at_ : Int) < L) = false := by simp; omega
  go_enter Tryd.func58, Tryd.ntmps58
  go_wp2_with fail
  generalize hwz : (w.alloc (.cells #[.int .i64 0, .bool false, .int .i64 0] 57)) = wz at *
  go_region_held3 (fun w' => w'.cell? ⟨g, 0, none⟩ = some (.slice a L cap) ∧ w'.cell? ⟨g, 1, none⟩ = some (.int .i64 at_)) (first | go_keep | exact ⟨hkB.cell c0 (fun h => h), hkB.cell c1 (fun h => h)⟩ | exact ⟨c0, c1⟩) (first | (go_at_call 56; refine (fine_walk (H1.out.keep0 (Keeps.refl Nil _).drew)).mono ?_; rintro e2 w2 ⟨rfl, hk2⟩; have hkB := (Keeps.refl Nil wz).drew.trans hk2))
  have h2 := H1.out.keep0 hkB
  have hr2 := hr.keep0 hkB
  have hkC := hka.trans hkB
  clear c0 c1 hdc hkB hk2 H1 hka hr
  have c2 := h2.obj.cell 2 (v := .int .i64 0) rfl
  have c3 := h2.obj.cell 3 (v := .bool false) rfl
  have c4 := h2.obj.cell 4 (v := .int .i64 0) rfl
  go_wp2_with (refine wpl_store rfl 57 _ _ rfl w.heap.size rfl [.int .i64 0, .bool false, .int .i64 0] rfl hr2 rfl Tryd.sizeFault (by simp [Value.oneCell']) ?_)
  intro w8 hb8 hk8 hs8
  go_wp2_with fail
  refine ret_blk Tryd.results58 w.heap.size rfl hb8 _ Tryd.underlying57 rfl Tryd.sizeFault rfl ⟨rfl, hkC.step hk8 (fun i hi => .inr (by rw [show i = w.heap.size from hi]; exact Nat.le_refl _))⟩
end Go.Proofs.YtdkfhfflhglmaaaDoor
