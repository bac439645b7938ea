/-
  The document's disk: Write.
-/
import Derived.Test.YtkefbgkdkmkghaaDoorRefSync
import Derived.Deep.DeepCutAuto
import Derived.Deep.CutRange
import Derived.Deep.CutBlock
namespace Go.Proofs.YtkefbgkdkmkghaaDoor
set_option linter.unusedSimpArgs false
set_option linter.unusedVariables false
open Go.RowKit

theorem Tryd.isSls : ((Tryd.prog.info? 25).map (·.size)).isSome = true := by kernel_rfl
theorem Row.keepW {k : IntKind} {w w' : World} {g o n : Nat} {l : List Int} {S : Nat → Prop} (h : Row k w (some ⟨g, o, none⟩) n l) (hk : Keeps S w w') (hn : ¬ S g) : Row k w' (some ⟨g, o, none⟩) n l :=
  ⟨h.llen, h.most, fun h0 => by
    obtain ⟨b, off, ha, hb, hc⟩ := h.cell h0
    cases ha
    exact ⟨g, o, rfl, Nat.lt_of_lt_of_le hb hk.size, fun i hi => hk.cell (hc i hi) hn⟩, h.wf⟩
/-- A sector's versions as a list of values. -/
theorem RVal.vals {w : World} {R : Roles} {v : Value} {l : List (List Int)} (h : RVal w R v l) : ∃ (g o c : Nat) (vals : List Value), v = .slice (some ⟨g, o, none⟩) l.length c ∧ l.length ≤ c ∧ R g = 1 ∧ g < w.heap.size ∧ vals.length = l.length ∧ ∀ j, j < l.length → w.cell? ⟨g, o + j, none⟩ = some (vals.getD j undef) ∧ BVal w R (vals.getD j undef) (l.getD j []) := by
  obtain ⟨g, o, c, he, h1, h2, h3, h4, hc⟩ := h
  refine ⟨g, o, c, (List.range l.length).map (fun j => (w.cell? ⟨g, o + j, none⟩).getD undef), he, h1, h3, h4, by simp, fun j hj => ?_⟩
  obtain ⟨bv, hb, hv⟩ := hc j hj
  have e : ((List.range l.length).map (fun j => (w.cell? ⟨g, o + j, none⟩).getD undef)).getD j undef = bv := by simp [List.getD, hj, hb]
  rw [e]
  exact ⟨hb, hv⟩
theorem RVal.srcV {w : World} {R : Roles} {g o c n : Nat} {vals : List Value} {l : List (List Int)} (hl : vals.length = n) (hv : ∀ j, j < n → w.cell? ⟨g, o + j, none⟩ = some (vals.getD j undef) ∧ BVal w R (vals.getD j undef) (l.getD j [])) : Src w (some ⟨g, o, none⟩) n c 1 vals := by
  refine ⟨by omega, fun u hu => ?_, .inr ⟨_, rfl, fun j u hu => ?_⟩⟩
  · obtain ⟨j, hj, he⟩ := List.mem_iff_getElem.1 hu
    obtain ⟨_, g1, o1, c1, hb, _⟩ := hv j (by omega)
    rw [List.getD_eq_getElem?_getD, List.getElem?_eq_getElem hj, Option.getD_some, he] at hb
    rw [hb]; rfl
  · rw [Addr.add_lit]
    have hj : j < n := by
      rcases Nat.lt_or_ge j vals.length with h | h
      · omega
      · rw [List.getElem?_eq_none h] at hu; cases hu
    rw [(hv j hj).1, List.getD_eq_getElem?_getD, hu]
    rfl
theorem RefAt.puts {v0 w4 : World} {p : Nat} {R : Roles} {d : Dk} {g cap : Nat} {tab : List Value} (h : RefAt v0 p R d (some ⟨g, 0, none⟩) cap tab) {k : Nat} (hk : k < d.vs.length) {L : List (List Int)} (hL : d.at_ k = L) {vals : List Value} (hvl : vals.length = L.length) (hvb : ∀ j, j < L.length → BVal v0 R (vals.getD j undef) (L.getD j []))
    (hKx : Keeps Nil v0 w4) {g1 cap1 : Nat} {b : List Int} (hrow : Row .u8 w4 (some ⟨g1, 0, none⟩) 128 b) (hg1 : v0.heap.size ≤ g1) (hg1l : g1 < w4.heap.size) {g4 cap4 : Nat} (ho4 : Own w4 25 1 (some ⟨g4, 0, none⟩) cap4 (L.length + 1) (vals ++ [.slice (some ⟨g1, 0, none⟩) 128 cap1])) (hg4 : v0.heap.size ≤ g4 ∧ g4 ≠ g1) :
    ∃ R' tab', RefAt (w4.setCell ⟨g, k, none⟩ (.slice (some ⟨g4, 0, none⟩) (L.length + 1) cap4)) p R' (d.put k b) (some ⟨g, 0, none⟩) cap tab' ∧ Grew v0 (w4.setCell ⟨g, k, none⟩ (.slice (some ⟨g4, 0, none⟩) (L.length + 1) cap4)) R R' := by
  have hgR : R g = 3 := h.role g ((blkOf_some _ _ _ _).2 rfl)
  have hgl := h.own.lt g ((blkOf_some _ _ _ _).2 rfl)
  have hg4l := ho4.lt g4 ((blkOf_some _ _ _ _).2 rfl)
  have htl := h.own.1
  obtain ⟨W, hW⟩ : ∃ W, W = w4.setCell ⟨g, k, none⟩ (.slice (some ⟨g4, 0, none⟩) (L.length + 1) cap4) := ⟨_, rfl⟩
  have hko : Keeps (One g) w4 W := by rw [hW]; exact (Keeps.refl _ _).setOne _ _
  have hk5 : Keeps (One g) v0 W := hKx.nil.step hko (fun x hx => .inl hx)
  have hR : ∀ x, x < v0.heap.size → upd (upd R g1 1) g4 1 x = R x := fun x hx => by rw [upd_ne _ _ (by omega), upd_ne _ _ (by omega)]
  have hr4 : upd (upd R g1 1) g4 1 g4 = 1 := upd_self _ _ _
  have hr1 : upd (upd R g1 1) g4 1 g1 = 1 := by rw [upd_ne _ _ (fun e => hg4.2 e.symm), upd_self]
  have hown : Own W 83 1 (some ⟨g, 0, none⟩) cap d.vs.length (tab.set k (.slice (some ⟨g4, 0, none⟩) (L.length + 1) cap4)) := by
    rw [hW]
    exact (h.own.keep0 hKx).setCell k (by omega) _
  have hm4 := ho4.2.2.1
  unfold maxLen at hm4
  have hsz := hko.size
  have hlv : RVal W (upd (upd R g1 1) g4 1) (.slice (some ⟨g4, 0, none⟩) (L.length + 1) cap4) (L ++ [b]) := by
    refine ⟨g4, 0, cap4, by simp, by simp only [List.length_append, List.length_singleton]; exact ho4.2.1, by omega, hr4, by omega, fun j hj => ?_⟩
    rw [List.length_append, List.length_singleton] at hj
    rw [getD_snoc, Nat.zero_add]
    by_cases hjl : j < L.length
    · rw [if_pos hjl]
      refine ⟨vals.getD j undef, hko.cell (ho4.cellAt j ?_) (fun e => by have : g4 = g := e; omega), (hvb j hjl).keep hk5 (fun x h1 e => by rw [show x = g from e, hgR] at h1; omega) hR⟩
      rw [List.getElem?_append_left (by omega), List.getD_eq_getElem?_getD, List.getElem?_eq_getElem (by omega)]
      rfl
    · have hje : j = L.length := by omega
      rw [if_neg hjl, if_pos hje]
      refine ⟨.slice (some ⟨g1, 0, none⟩) 128 cap1, hko.cell (ho4.cellAt j ?_) (fun e => by have : g4 = g := e; omega), g1, 0, cap1, rfl, hrow.keepW hko (fun e => by have : g1 = g := e; omega), hr1, by omega⟩
      rw [hje, ← hvl]; simp
  rw [← hW]
  have hput : d.put k b = { d with vs := d.vs.set k (L ++ [b]) } := by unfold Dk.put; rw [hL]
  refine ⟨upd (upd R g1 1) g4 1, _, hput ▸ h.step hk hk5 (fun x hx => .inl (by rw [show x = g from hx]; exact hgR)) hR (fun x hx => ?_) hown hlv, ⟨hk5.mono (fun x hx => by unfold Wr; rw [show x = g from hx, hgR]; omega), hR⟩⟩
  by_cases hx4 : x = g4
  · omega
  · rw [upd_ne _ _ hx4] at hx
    by_cases hx1 : x = g1
    · omega
    · rw [upd_ne _ _ hx1] at hx
      have := h.lt x hx
      have := hKx.size
      omega
def RWriteP (w : World) (p : Nat) (R : Roles) (d : Dk) (v : Value) (e : Ending) (w' : World) : Prop := ∃ R', e = .returned v ∧ IsRef w' p R' d ∧ Grew w w' R R'
set_option maxRecDepth 20000 in
set_option maxHeartbeats 1600000 in
theorem refwriteIn_walk {w : World} {p : Nat} {R : Roles} {d : Dk} (h : IsRef w p R d) {m : Nat} (hok : d.Ok m) (hm9 : m ≤ 1000000) {k : Nat} (ho : d.off = false) (hk : k < d.vs.length)
    {ab : Option Addr} {cb : Nat} {b : List Int} (hb : Row .u8 w ab 128 b) :
    Calls Tryd.prog 27 #[.pointer (some ⟨p, 0, none⟩), .int .i64 k, .slice ab 128 cb] w (RWriteP w p R ((d.put k b).goes) (.int .i64 (codeO (goesE (d.put k b).goes)))) := by
  obtain ⟨a, cap, tab, hA⟩ := h
  have c2 := hA.obj.cell 2 rfl
  have c0 := hA.obj.cell 0 rfl
  rw [ho] at c2
  obtain ⟨g, ha, t1, _, hgl, hcn, hcx⟩ := hA.tabAt hk
  have HA := Lib.hid hA
  have HOK := Lib.hid hok
  obtain ⟨gv, ov, cv, vals, hve, hvc, hvr, hvl, hvn2, hvb⟩ := (hA.secs k hk).vals
  rw [hve] at t1
  subst ha
  have hmm := hok.at_ hk
  have hk0 : (0 : Int) ≤ k := by omega
  have hk1 : (k : Int) < d.vs.length := by omega
  have HB := Lib.hid hb
  have HL := Lib.hid (And.intro hvn2 (And.intro hvb (And.intro hvr (And.intro hvl hvc))))
  have hvx := hok.size
  clear hA hok hve hvc hvr hvl hvn2 hvb hb
  generalize hLL : d.at_ k = L at *
  have HLL := Lib.hid hLL
  clear hLL
  generalize hvn : d.vs.length = vn at *
  have HVN := Lib.hid hvn
  clear hvn
  go_enter Tryd.func27, Tryd.ntmps27
  go_upto_region 5 with fail
  generalize decide (vn ≤ k) = b9
  go_cut [] from 29 to 48 (fun wx => Hid (∃ R' tab', RefAt wx p R' (d.put k b) (some ⟨g, 0, none⟩) cap tab' ∧ Grew w wx R R'))
  case first =>
    refine wp_region_held_drew (S := fun w' => w'.cell? ⟨p, 0, none⟩ = some (.slice (some ⟨g, 0, none⟩) vn cap)) (by kernel_rfl) (by exact c0) (fun hHeld => ?_)
    have hkd : Keeps Nil w w.drew := (Keeps.refl Nil w).drew
    replace c0 := hkd.cell c0 (fun h => h)
    have t1 : CellIs w.drew g k (.slice (some ⟨gv, ov, none⟩) L.length cv) := hkd.cell t1 (fun h => h)
    have HRW := Lib.hid (HB.out.keep hkd)
    have HD := Lib.hid (HA.out.keep0 hkd)
    have HHD := Lib.hid hkd
    have HVS : Hid (∀ w', Keeps Nil w.drew w' → Src w' (some ⟨gv, ov, none⟩) L.length cv 1 vals) := Lib.hid (fun w' hk' => RVal.srcV (R := R) HL.out.1 (fun j hj => ⟨hk'.cell (hkd.cell (HL.out.2.1 j hj).1 (fun h => h)) (fun h => h), (HL.out.2.1 j hj).2.keep (hkd.trans hk') (fun x h1 h2 => h2) (fun _ _ => rfl)⟩))
    have HBV := Lib.hid (fun j (hj : j < L.length) => (HL.out.2.1 j hj).2.keep hkd (fun x h1 h2 => h2) (fun (_ : Nat) (_ : _ < w.heap.size) => (rfl : R _ = R _)))
    have hwf := HB.out.bytes
    have hbl := HB.out.llen
    have hKw : Keeps Nil w.drew w.drew := Keeps.refl _ _
    clear hkd
    generalize w.drew = v0 at *
    have hlx : L.length ≤ 1000000 := by omega
    refine takeL (i := 0) (v := _) rfl (by kernel_rfl) (by kernel_rfl) (by kernel_rfl) (fun _ _ _ h => h) (Or.inl ⟨by rfl, by intro w hSw; (try dsimp only at hSw); go_simp; try with_reducible rfl⟩) (by assumption) ?_
    try simp only [Act.put, List.setIfInBounds_toArray, List.set_cons_zero, List.set_cons_succ]
    refine takeL (i := 1) (v := _) rfl (by kernel_rfl) (by kernel_rfl) (by kernel_rfl) (fun _ _ _ h => h) (Or.inl ⟨by rfl, by intro w hSw; (try dsimp only at hSw); go_simp; try with_reducible rfl⟩) (by assumption) ?_
    try simp only [Act.put, List.setIfInBounds_toArray, List.set_cons_zero, List.set_cons_succ]
    refine takeL (i := 2) (v := _) rfl (by kernel_rfl) (by kernel_rfl) (by kernel_rfl) (fun _ _ _ h => h) (Or.inl ⟨by rfl, by intro w hSw; (try dsimp only at hSw); go_simp; try with_reducible rfl⟩) (by assumption) ?_
    try simp only [Act.put, List.setIfInBounds_toArray, List.set_cons_zero, List.set_cons_succ]
    refine takeL (i := 3) (v := _) rfl (by kernel_rfl) (by kernel_rfl) (by kernel_rfl) (fun _ _ _ h => h) (Or.inl ⟨by rfl, by intro w hSw; (try dsimp only at hSw); go_simp; try with_reducible rfl⟩) (by assumption) ?_
    try simp only [Act.put, List.setIfInBounds_toArray, List.set_cons_zero, List.set_cons_succ]
    refine takeL (i := 4) (v := _) rfl (by kernel_rfl) (by kernel_rfl) (by kernel_rfl) (fun _ _ _ h => h) (Or.inl ⟨by rfl, by intro w hSw; (try dsimp only at hSw); go_simp; try with_reducible rfl⟩) (by assumption) ?_
    try simp only [Act.put, List.setIfInBounds_toArray, List.set_cons_zero, List.set_cons_succ]
    refine takeL (i := 6) (v := _) rfl (by kernel_rfl) (by kernel_rfl) (by kernel_rfl) (fun _ _ _ h => h) (Or.inl ⟨by rfl, by intro w hSw; (try dsimp only at hSw); go_simp; try with_reducible rfl⟩) (by assumption) ?_
    try simp only [Act.put, List.setIfInBounds_toArray, List.set_cons_zero, List.set_cons_succ]
    refine takeL (i := 7) (v := _) rfl (by kernel_rfl) (by kernel_rfl) (by kernel_rfl) (fun _ _ _ h => h) (Or.inl ⟨by rfl, by intro w hSw; (try dsimp only at hSw); go_simp; try with_reducible rfl⟩) (by assumption) ?_
    try simp only [Act.put, List.setIfInBounds_toArray, List.set_cons_zero, List.set_cons_succ]
    refine takeL (i := 8) (v := _) rfl (by kernel_rfl) (by kernel_rfl) (by kernel_rfl) (fun _ _ _ h => h) (Or.inl ⟨by rfl, by intro w hSw; (try dsimp only at hSw); go_simp; try with_reducible rfl⟩) (by assumption) ?_
    try simp only [Act.put, List.setIfInBounds_toArray, List.set_cons_zero, List.set_cons_succ]
    refine takeL (i := 9) (v := _) rfl (by kernel_rfl) (by kernel_rfl) (by kernel_rfl) (fun _ _ _ h => h) (Or.inl ⟨by rfl, by intro w hSw; (try dsimp only at hSw); go_simp; try with_reducible rfl⟩) (by assumption) ?_
    try simp only [Act.put, List.setIfInBounds_toArray, List.set_cons_zero, List.set_cons_succ]
    refine takeL (i := 10) (v := _) rfl (by kernel_rfl) (by kernel_rfl) (by kernel_rfl) (fun _ _ _ h => h) (Or.inl ⟨by rfl, by intro w hSw; (try dsimp only at hSw); go_simp; try with_reducible rfl⟩) (by assumption) ?_
    try simp only [Act.put, List.setIfInBounds_toArray, List.set_cons_zero, List.set_cons_succ]
    refine takeL (i := 11) (v := _) rfl (by kernel_rfl) (by kernel_rfl) (by kernel_rfl) (fun _ _ _ h => h) (Or.inl ⟨by rfl, by intro w hSw; (try dsimp only at hSw); go_simp; try with_reducible rfl⟩) (by assumption) ?_
    try simp only [Act.put, List.setIfInBounds_toArray, List.set_cons_zero, List.set_cons_succ]
    refine takeL (i := 14) (v := _) rfl (by kernel_rfl) (by kernel_rfl) (by kernel_rfl) (fun _ _ _ h => h) (Or.inl ⟨by rfl, by intro w hSw; (try dsimp only at hSw); go_simp; try with_reducible rfl⟩) (by assumption) ?_
    try simp only [Act.put, List.setIfInBounds_toArray, List.set_cons_zero, List.set_cons_succ]
    refine bothL (i := 5) (j := 12) rfl rfl (by kernel_rfl) (fun K hK => ?_) (fun K hK => ?_)
    · skip
      refine step_bs0O rfl 83 25 rfl Tryd.underlying83 Tryd.isSls 1 ?_
      intro g5 w5 hg5 ho5 qk
      have hg5v : v0.heap.size ≤ g5 := by have := hKw.size; omega
      clear hg5
      refine (fun hHeld => hK _ _ hHeld ?_) (((hKw.trans qk).cell c0 (fun h => h)))
      clear hK
      try simp only [Act.put, List.setIfInBounds_toArray, List.set_cons_zero, List.set_cons_succ]
      replace hKw := hKw.trans qk
      replace t1 := t1.keep0 qk
      refine onlyL (i := 12) rfl (by kernel_rfl) (fun K hK => ?_)
      have t1c := t1
      unfold CellIs at t1c
      go_simp
      clear t1c t1
      refine (fun hHeld => hK _ _ hHeld ?_) ((hKw.cell c0 (fun h => h)))
      clear hK
      try simp only [Act.put, List.setIfInBounds_toArray, List.set_cons_zero, List.set_cons_succ]
      refine onlyL (i := 13) rfl (by kernel_rfl) (fun K hK => ?_)
      refine step_appendO rfl _ _ 83 rfl 25 1 24 Tryd.underlying83 Tryd.infoSls (by omega) (some ⟨g5, 0, none⟩) 0 0 [] rfl ho5 (some ⟨gv, ov, none⟩) L.length cv vals rfl (HVS.out _ hKw) (by unfold maxLen; omega) (by omega) ?_
      intro a13 cap13 w13 ho13 qk13 hf13
      have hf13v : ∀ k, blkOf a13 k → v0.heap.size ≤ k := fun k hk => by
        rcases hf13 k hk with h1 | h1
        · rw [(blkOf_some _ _ _ _).1 h1]; exact hg5v
        · have := hKw.size; omega
      have hKx : Keeps Nil v0 w13 := hKw.step qk13 (fun k hk => .inr (by rw [(blkOf_some _ _ _ _).1 hk]; exact hg5v))
      clear hKw ho5 qk13 hf13
      have hKw := hKx
      clear hKx
      rw [List.nil_append, Nat.zero_add] at ho13
      refine (fun hHeld => hK _ _ hHeld ?_) ((hKw.cell c0 (fun h => h)))
      clear hK
      try simp only [Act.put, List.setIfInBounds_toArray, List.set_cons_zero, List.set_cons_succ]
      refine onlyL (i := 15) rfl (by kernel_rfl) (fun K hK => ?_)
      go_simp
      refine (refBytes_walk (cap := cb) (HRW.out.keep hKw) (by omega)).mono ?_
      rintro e w15 ⟨a1, cap1, rfl, ho1, qk, hf1⟩
      have ho1' : Own w15 5 1 a1 cap1 b.length (byteV b) := ho1
      rw [hbl] at ho1 ⊢
      obtain ⟨g1, hg1, hg1l, hrow1⟩ := clone_block ho1' hbl hwf
      have hg1n : v0.heap.size ≤ g1 := Nat.le_trans hKw.size (hf1 g1 (by rw [hg1]; exact (blkOf_some _ _ _ _).2 rfl))
      have h1n : ∀ k, blkOf a13 k → k ≠ g1 := fun k hk e => by
        have h1 := ho13.lt k hk
        have h2 := hf1 g1 (by rw [hg1]; exact (blkOf_some _ _ _ _).2 rfl)
        omega
      clear hf1 ho1 ho1' hg1l
      subst hg1
      refine (fun hHeld => hK _ _ hHeld ?_) (((hKw.trans qk).cell c0 (fun h => h)))
      clear hK
      try simp only [Act.put, List.setIfInBounds_toArray, List.set_cons_zero, List.set_cons_succ]
      replace hKw := hKw.trans qk
      replace ho13 := ho13.keep0 qk
      refine onlyL (i := 16) rfl (by kernel_rfl) (fun K hK => ?_)
      refine step_bsK rfl 83 25 1 _ rfl [.slice (some ⟨g1, 0, none⟩) 128 cap1] Tryd.underlying83 Tryd.bsSls rfl (by decide) (by decide) (by simp [Act.eval]) (by simp [Value.cells]) ?_
      intro g2 w16 hg2 hb2 qk
      have h12 : g1 < g2 := by obtain ⟨b', o', h1, h2, _⟩ := hrow1.cell (by omega); cases h1; omega
      clear hg2
      refine (fun hHeld => hK _ _ hHeld ?_) (((hKw.trans qk).cell c0 (fun h => h)))
      clear hK
      try simp only [Act.put, List.setIfInBounds_toArray, List.set_cons_zero, List.set_cons_succ]
      replace hKw := hKw.trans qk
      replace ho13 := ho13.keep0 qk
      replace hrow1 := hrow1.keep qk
      refine onlyL (i := 17) rfl (by kernel_rfl) (fun K hK => ?_)
      refine step_appendO rfl _ _ 83 rfl 25 1 24 Tryd.underlying83 Tryd.infoSls (by omega) a13 cap13 L.length vals rfl ho13 (some ⟨g2, 0, none⟩) 1 1 [.slice (some ⟨g1, 0, none⟩) 128 cap1] rfl (Src.one hb2 rfl) (by unfold maxLen; omega) (by omega) ?_
      intro a4 cap4 w4 ho4 qk4 hf4
      obtain ⟨g4, hg4, _, _⟩ := ho4.some (by omega)
      subst hg4
      have hKx : Keeps Nil v0 w4 := hKw.step qk4 (fun k hk => .inr (hf13v k hk))
      have h4n : v0.heap.size ≤ g4 ∧ g4 ≠ g1 := by
        rcases hf4 g4 ((blkOf_some _ _ _ _).2 rfl) with h1 | h1
        · exact ⟨hf13v g4 h1, h1n g4 h1⟩
        · have := hKw.size; have := hb2.lt; omega
      have hrow4 := hrow1.keepW qk4 (fun e => h1n g1 e rfl)
      refine (fun hHeld => hK _ _ hHeld ?_) ((hKx.cell c0 (fun h => h)))
      clear hK
      try simp only [Act.put, List.setIfInBounds_toArray, List.set_cons_zero, List.set_cons_succ]
      refine takeL (i := 18) (v := _) rfl (by kernel_rfl) (by kernel_rfl) (by kernel_rfl) (fun _ _ _ h => h) (Or.inl ⟨by rfl, by intro w hSw; (try dsimp only at hSw); go_simp; try with_reducible rfl⟩) (by assumption) ?_
      try simp only [Act.put, List.setIfInBounds_toArray, List.set_cons_zero, List.set_cons_succ]
      refine onlyL (i := 19) rfl (by kernel_rfl) (fun K hK => ?_)
      have hHD := HD.out.keep0 hKx
      have hdt := hHD.tabAt (by rw [HVN.out]; exact hk)
      obtain ⟨gg, hgg, hcl4, hfz4, _⟩ := hdt
      cases hgg
      refine step_storeS rfl 83 Tryd.sizeSls _ _ rfl g k rfl (some ⟨g4, 0, none⟩) (L.length + 1) cap4 rfl hcl4 hfz4 ?_
      have hg1w : g1 < w4.heap.size := by obtain ⟨b', o', h1, h2, _⟩ := hrow4.cell (by omega); cases h1; exact h2
      have hpost := HD.out.puts (by rw [HVN.out]; exact hk) HLL.out HL.out.1 HBV.out hKx hrow4 hg1n hg1w ho4 h4n
      obtain ⟨R', tab', hd5, hg5⟩ := hpost
      have hc5 := hd5.obj.cell 0 rfl
      rw [show (d.put k b).vs.length = vn by rw [← HVN.out]; simp [Dk.put]] at hc5
      refine (fun hHeld => hK _ _ hHeld ?_) (hc5)
      clear hK
      try simp only [Act.put, List.setIfInBounds_toArray, List.set_cons_zero, List.set_cons_succ]
      refine wpAnyH_done (by kernel_rfl) ?_ _
      have HF : Hid (∃ R' tab', RefAt (w4.setCell ⟨g, k, none⟩ (.slice (some ⟨g4, 0, none⟩) (L.length + 1) cap4)) p R' (d.put k b) (some ⟨g, 0, none⟩) cap tab' ∧ Grew w (w4.setCell ⟨g, k, none⟩ (.slice (some ⟨g4, 0, none⟩) (L.length + 1) cap4)) R R') := Lib.hid ⟨R', tab', hd5, (Grew.of_nil R HHD.out).trans hg5⟩
      clear hd5 hg5 hc5 hcl4 hfz4 hKw hKx hrow1 hrow4 hb2 ho4 ho13 qk4 hf4 hHeld hHD hg1w h4n h1n h12 hf13v hg5v
      generalize w4.setCell ⟨g, k, none⟩ (.slice (some ⟨g4, 0, none⟩) (L.length + 1) cap4) = w5 at *
      go_wp2_with fail
      go_meet
      exact HF
    · skip
      have t1c := t1
      unfold CellIs at t1c
      go_simp
      clear t1c t1
      refine (fun hHeld => hK _ _ hHeld ?_) ((hKw.cell c0 (fun h => h)))
      clear hK
      try simp only [Act.put, List.setIfInBounds_toArray, List.set_cons_zero, List.set_cons_succ]
      refine onlyL (i := 5) rfl (by kernel_rfl) (fun K hK => ?_)
      refine step_bs0O rfl 83 25 rfl Tryd.underlying83 Tryd.isSls 1 ?_
      intro g5 w5 hg5 ho5 qk
      have hg5v : v0.heap.size ≤ g5 := by have := hKw.size; omega
      clear hg5
      refine (fun hHeld => hK _ _ hHeld ?_) (((hKw.trans qk).cell c0 (fun h => h)))
      clear hK
      try simp only [Act.put, List.setIfInBounds_toArray, List.set_cons_zero, List.set_cons_succ]
      replace hKw := hKw.trans qk
      refine onlyL (i := 13) rfl (by kernel_rfl) (fun K hK => ?_)
      refine step_appendO rfl _ _ 83 rfl 25 1 24 Tryd.underlying83 Tryd.infoSls (by omega) (some ⟨g5, 0, none⟩) 0 0 [] rfl ho5 (some ⟨gv, ov, none⟩) L.length cv vals rfl (HVS.out _ hKw) (by unfold maxLen; omega) (by omega) ?_
      intro a13 cap13 w13 ho13 qk13 hf13
      have hf13v : ∀ k, blkOf a13 k → v0.heap.size ≤ k := fun k hk => by
        rcases hf13 k hk with h1 | h1
        · rw [(blkOf_some _ _ _ _).1 h1]; exact hg5v
        · have := hKw.size; omega
      have hKx : Keeps Nil v0 w13 := hKw.step qk13 (fun k hk => .inr (by rw [(blkOf_some _ _ _ _).1 hk]; exact hg5v))
      clear hKw ho5 qk13 hf13
      have hKw := hKx
      clear hKx
      rw [List.nil_append, Nat.zero_add] at ho13
      refine (fun hHeld => hK _ _ hHeld ?_) ((hKw.cell c0 (fun h => h)))
      clear hK
      try simp only [Act.put, List.setIfInBounds_toArray, List.set_cons_zero, List.set_cons_succ]
      refine onlyL (i := 15) rfl (by kernel_rfl) (fun K hK => ?_)
      go_simp
      refine (refBytes_walk (cap := cb) (HRW.out.keep hKw) (by omega)).mono ?_
      rintro e w15 ⟨a1, cap1, rfl, ho1, qk, hf1⟩
      have ho1' : Own w15 5 1 a1 cap1 b.length (byteV b) := ho1
      rw [hbl] at ho1 ⊢
      obtain ⟨g1, hg1, hg1l, hrow1⟩ := clone_block ho1' hbl hwf
      have hg1n : v0.heap.size ≤ g1 := Nat.le_trans hKw.size (hf1 g1 (by rw [hg1]; exact (blkOf_some _ _ _ _).2 rfl))
      have h1n : ∀ k, blkOf a13 k → k ≠ g1 := fun k hk e => by
        have h1 := ho13.lt k hk
        have h2 := hf1 g1 (by rw [hg1]; exact (blkOf_some _ _ _ _).2 rfl)
        omega
      clear hf1 ho1 ho1' hg1l
      subst hg1
      refine (fun hHeld => hK _ _ hHeld ?_) (((hKw.trans qk).cell c0 (fun h => h)))
      clear hK
      try simp only [Act.put, List.setIfInBounds_toArray, List.set_cons_zero, List.set_cons_succ]
      replace hKw := hKw.trans qk
      replace ho13 := ho13.keep0 qk
      refine onlyL (i := 16) rfl (by kernel_rfl) (fun K hK => ?_)
      refine step_bsK rfl 83 25 1 _ rfl [.slice (some ⟨g1, 0, none⟩) 128 cap1] Tryd.underlying83 Tryd.bsSls rfl (by decide) (by decide) (by simp [Act.eval]) (by simp [Value.cells]) ?_
      intro g2 w16 hg2 hb2 qk
      have h12 : g1 < g2 := by obtain ⟨b', o', h1, h2, _⟩ := hrow1.cell (by omega); cases h1; omega
      clear hg2
      refine (fun hHeld => hK _ _ hHeld ?_) (((hKw.trans qk).cell c0 (fun h => h)))
      clear hK
      try simp only [Act.put, List.setIfInBounds_toArray, List.set_cons_zero, List.set_cons_succ]
      replace hKw := hKw.trans qk
      replace ho13 := ho13.keep0 qk
      replace hrow1 := hrow1.keep qk
      refine onlyL (i := 17) rfl (by kernel_rfl) (fun K hK => ?_)
      refine step_appendO rfl _ _ 83 rfl 25 1 24 Tryd.underlying83 Tryd.infoSls (by omega) a13 cap13 L.length vals rfl ho13 (some ⟨g2, 0, none⟩) 1 1 [.slice (some ⟨g1, 0, none⟩) 128 cap1] rfl (Src.one hb2 rfl) (by unfold maxLen; omega) (by omega) ?_
      intro a4 cap4 w4 ho4 qk4 hf4
      obtain ⟨g4, hg4, _, _⟩ := ho4.some (by omega)
      subst hg4
      have hKx : Keeps Nil v0 w4 := hKw.step qk4 (fun k hk => .inr (hf13v k hk))
      have h4n : v0.heap.size ≤ g4 ∧ g4 ≠ g1 := by
        rcases hf4 g4 ((blkOf_some _ _ _ _).2 rfl) with h1 | h1
        · exact ⟨hf13v g4 h1, h1n g4 h1⟩
        · have := hKw.size; have := hb2.lt; omega
      have hrow4 := hrow1.keepW qk4 (fun e => h1n g1 e rfl)
      refine (fun hHeld => hK _ _ hHeld ?_) ((hKx.cell c0 (fun h => h)))
      clear hK
      try simp only [Act.put, List.setIfInBounds_toArray, List.set_cons_zero, List.set_cons_succ]
      refine takeL (i := 18) (v := _) rfl (by kernel_rfl) (by kernel_rfl) (by kernel_rfl) (fun _ _ _ h => h) (Or.inl ⟨by rfl, by intro w hSw; (try dsimp only at hSw); go_simp; try with_reducible rfl⟩) (by assumption) ?_
      try simp only [Act.put, List.setIfInBounds_toArray, List.set_cons_zero, List.set_cons_succ]
      refine onlyL (i := 19) rfl (by kernel_rfl) (fun K hK => ?_)
      have hHD := HD.out.keep0 hKx
      have hdt := hHD.tabAt (by rw [HVN.out]; exact hk)
      obtain ⟨gg, hgg, hcl4, hfz4, _⟩ := hdt
      cases hgg
      refine step_storeS rfl 83 Tryd.sizeSls _ _ rfl g k rfl (some ⟨g4, 0, none⟩) (L.length + 1) cap4 rfl hcl4 hfz4 ?_
      have hg1w : g1 < w4.heap.size := by obtain ⟨b', o', h1, h2, _⟩ := hrow4.cell (by omega); cases h1; exact h2
      have hpost := HD.out.puts (by rw [HVN.out]; exact hk) HLL.out HL.out.1 HBV.out hKx hrow4 hg1n hg1w ho4 h4n
      obtain ⟨R', tab', hd5, hg5⟩ := hpost
      have hc5 := hd5.obj.cell 0 rfl
      rw [show (d.put k b).vs.length = vn by rw [← HVN.out]; simp [Dk.put]] at hc5
      refine (fun hHeld => hK _ _ hHeld ?_) (hc5)
      clear hK
      try simp only [Act.put, List.setIfInBounds_toArray, List.set_cons_zero, List.set_cons_succ]
      refine wpAnyH_done (by kernel_rfl) ?_ _
      have HF : Hid (∃ R' tab', RefAt (w4.setCell ⟨g, k, none⟩ (.slice (some ⟨g4, 0, none⟩) (L.length + 1) cap4)) p R' (d.put k b) (some ⟨g, 0, none⟩) cap tab' ∧ Grew w (w4.setCell ⟨g, k, none⟩ (.slice (some ⟨g4, 0, none⟩) (L.length + 1) cap4)) R R') := Lib.hid ⟨R', tab', hd5, (Grew.of_nil R HHD.out).trans hg5⟩
      clear hd5 hg5 hc5 hcl4 hfz4 hKw hKx hrow1 hrow4 hb2 ho4 ho13 qk4 hf4 hHeld hHD hg1w h4n h1n h12 hf13v hg5v
      generalize w4.setCell ⟨g, k, none⟩ (.slice (some ⟨g4, 0, none⟩) (L.length + 1) cap4) = w5 at *
      go_wp2_with fail
      go_meet
      exact HF
  case rest =>
  obtain ⟨R', tab', hd5, hg5⟩ := hcut.out
  have HG := Lib.hid (refburn_walk hd5.is (show (d.put k b).off = false from ho) HOK.out.left)
  have HG5 := Lib.hid hg5
  have hgE : goesE (d.put k b).goes = if (d.put k b).goes.off = true then some 0 else none := rfl
  have HGE := Lib.hid hgE
  clear hd5 hg5 c0 c2 t1 hcut hgE
  cases hq : (d.put k b).goes.off with
  | true =>
    have HE1 : Hid (codeO (goesE (d.put k b).goes) = 101) := Lib.hid (by rw [HGE.out, hq, if_pos rfl]; rfl)
    rw [hq] at HG
    clear hq HGE
    go_wp2_with fail
    refine HG.out.mono ?_
    rintro e w6 ⟨rfl, hd6, hk6⟩
    have HF := Lib.hid (And.intro hd6 (HG5.out.trans ⟨hk6, fun _ _ => rfl⟩))
    clear hd6 hk6 HG
    go_wp2_with fail
    go_ret
    exact ⟨R', by rw [HE1.out]; rfl, HF.out⟩
  | false =>
    have HE1 : Hid (codeO (goesE (d.put k b).goes) = 0) := Lib.hid (by rw [HGE.out, hq, if_neg (by simp)]; rfl)
    rw [hq] at HG
    clear hq HGE
    go_wp2_with fail
    refine HG.out.mono ?_
    rintro e w6 ⟨rfl, hd6, hk6⟩
    have HF := Lib.hid (And.intro hd6 (HG5.out.trans ⟨hk6, fun _ _ => rfl⟩))
    clear hd6 hk6 HG
    go_wp2_with fail
    go_ret
    exact ⟨R', by rw [HE1.out]; rfl, HF.out⟩
set_option maxRecDepth 20000 in
set_option maxHeartbeats 800000 in
theorem refwrite_walk {w : World} {p : Nat} {R : Roles} {d : Dk} (h : IsRef w p R d) {m : Nat} (hok : d.Ok m) (hm9 : m ≤ 1000000) (i : Int)
    {ab : Option Addr} {n cb : Nat} {b : List Int} (hb : Row .u8 w ab n b) :
    Calls Tryd.prog 27 #[.pointer (some ⟨p, 0, none⟩), .int .i64 i, .slice ab n cb] w (RWriteP w p R (d.write i b).1 (.int .i64 (codeO (d.write i b).2))) := by
  have hbl := hb.llen
  have hbm := hb.most
  have HH := Lib.hid h
  by_cases ho : d.off = true
  · have hw : d.write i b = (d, some 0) := by unfold Dk.write; rw [if_pos ho]
    rw [hw]
    obtain ⟨a, cap, tab, hA⟩ := h
    have c2 := hA.obj.cell 2 rfl
    rw [ho] at c2
    clear hA hok hb hw
    go_enter Tryd.func27, Tryd.ntmps27
    go_wp2_with fail
    go_ret
    exact ⟨R, rfl, HH.out, Grew.refl _ _⟩
  · have ho' : d.off = false := by simpa using ho
    by_cases hi : i < 0 ∨ (d.vs.length : Int) ≤ i ∨ b.length ≠ 128
    · have hw : d.write i b = (d, some 1) := by unfold Dk.write; rw [if_neg ho, if_pos hi]
      rw [hw]
      obtain ⟨a, cap, tab, hA⟩ := h
      have c2 := hA.obj.cell 2 rfl
      have c0 := hA.obj.cell 0 rfl
      rw [ho'] at c2
      have hvx := hok.size
      clear hA hok hb hw
      rw [hbl] at hi
      generalize hvn : d.vs.length = vn at *
      clear hvn
      have key : i < 0 ∨ (¬ i < 0 ∧ (vn : Int) ≤ i) ∨ (¬ i < 0 ∧ ¬ (vn : Int) ≤ i ∧ ¬ ((n : Int) = 128)) := by omega
      clear hi
      rcases key with h1 | ⟨h1, h2⟩ | ⟨h1, h2, h3⟩
      all_goals
        go_enter Tryd.func27, Tryd.ntmps27
        go_wp2_with fail
        go_ret
        exact ⟨R, rfl, HH.out, Grew.refl _ _⟩
    · obtain ⟨k, rfl⟩ := Int.eq_ofNat_of_zero_le (show 0 ≤ i by omega)
      obtain rfl : n = 128 := by omega
      have hw : d.write k b = ((d.put k b).goes, goesE (d.put k b).goes) := write_on ho' (by omega) hbl
      rw [hw]
      exact refwriteIn_walk h hok hm9 ho' (by omega) hb
end Go.Proofs.YtkefbgkdkmkghaaDoor
