/-
  Package skip's Store: Put, Find, All, Load.
-/
import Derived.Test.YtokminiendnhoaaSkip
import Derived.Test.YtokminiendnhoaaRegion
namespace Go.Proofs.Ytokminiendnhoaa
set_option linter.unusedSimpArgs false
set_option linter.unusedVariables false
open Go.RowKit

/-- Put behind the others, with the first one gone where there are too many. -/
def putE (l : List Ent) (dh : List Int) (n : Int) (k : List Int) : List Ent :=
  (if 40 ≤ (takeE l dh n).length then (takeE l dh n).eraseIdx 0 else takeE l dh n) ++ [(dh, k, n)]
def PutPost (T E : TypeId) (g : Nat) (a : Option Addr) (l' : List Ent) (w : World) (r : Ending) (w' : World) : Prop :=
  ∃ a' cap', r = .returned (.tuple #[]) ∧ IsSt T E w' g a' cap' l' ∧ Keeps (stOf g a) w w' ∧ ∀ k, stOf g a' k → stOf g a k ∨ w.heap.size ≤ k

set_option maxRecDepth 20000 in
set_option maxHeartbeats 1600000 in
theorem put_walk {w : World} {g cap : Nat} {a : Option Addr} {l : List Ent} (h : IsSt 34 42 w g a cap l) (hl : l.length ≤ 1000) (dh k : List Int) (n : Int) (hw : WfE (dh, k, n)) :
    Calls Try.prog 17 #[.pointer (some ⟨g, 0, none⟩), keyV dh, .int .u32 n, keyV k] w (PutPost 34 42 g a (putE l dh n k) w) := by
  have hV := ((Has.nil w).cons (byteV dh) 37 rfl).cons (byteV k) 37 (n := w.heap.size + 1) (by simp [size_alloc'])
  have hk : Keeps Nil w ((w.alloc (.cells (byteV dh).toArray 37)).alloc (.cells (byteV k).toArray 37)) := ((Keeps.refl Nil w).alloc _).alloc _
  have h1 := h.keep0 hk
  have HT := Lib.hid (take_walk h1 dh n hw.l1 hw.b1)
  have hlk : (byteV dh).length = 32 := by simp [byteV]; exact hw.l1
  have hlk2 : (byteV k).length = 32 := by simp [byteV]; exact hw.l2
  have HB := Lib.hid (And.intro (hV.at 1 rfl) (And.intro hlk (And.intro (hV.at 0 rfl) hlk2)))
  have hngs : ∀ x, stOf g a x → x < w.heap.size := h.lt
  clear hV hlk hlk2
  go_enter Try.func17, Try.ntmps17
  go_wp2_with (refine wpl_load rfl 37 _ rfl w.heap.size rfl HB.out.1 _ Try.undKey rfl (by rw [HB.out.2.1]; exact Try.infoKey) ?_)
  refine HT.out.mono ?_
  rintro r w2 ⟨rfl, h2, hk2⟩
  have hK := (hk.nil (S := stOf g a)).trans hk2
  obtain ⟨hB1, hlk, hB2, hlk2⟩ := HB.out
  have hg1 : ¬ stOf g a w.heap.size := fun h => by have := hngs _ h; omega
  have hg2 : ¬ stOf g a (w.heap.size + 1) := fun h => by have := hngs _ h; omega
  have hC1 := hB1.keep hk2 hg1
  have hC2 := hB2.keep hk2 hg2
  have hlt := takeE_length l dh n
  have HP := Lib.hid (show putE l dh n k = (if 40 ≤ (takeE l dh n).length then (takeE l dh n).eraseIdx 0 else takeE l dh n) ++ [(dh, k, n)] from rfl)
  have c0 := h2.obj.cell 0 (v := .slice a (takeE l dh n).length cap) rfl
  have hm := h2.arr.2.2.1
  have hcp := h2.arr.2.1
  unfold maxLen at hm
  generalize takeE l dh n = m at *
  clear HT HB hB1 hB2 h1 h hk hk2
  have hgk : w.heap.size ≤ w.heap.size + 1 := by omega
  generalize w.heap.size + 1 = gk at *
  generalize hgd : w.heap.size = gd at *
  by_cases h40 : 40 ≤ m.length
  · rw [if_pos h40] at HP
    obtain ⟨hxl, hcap, hmax, h4⟩ := h2.arr
    rcases h4 with ⟨_, h0, _⟩ | ⟨b, sp, rfl, hb, hl4⟩
    · omega
    · have hm40 : (40 : Int) ≤ m.length := by omega
      have hlen : (m.eraseIdx 0).length = m.length - 1 := by rw [List.length_eraseIdx, if_pos (by omega)]
      have HD := Lib.hid (delete_walk hb hl4 hcap hmax h2.wf 0 (by omega))
      have z0 := h2.obj.frozen 0
      clear hb hl4 hxl
      have HX := Lib.hid (And.intro h2 (And.intro hlen (And.intro hC1 hC2)))
      clear h2 hlen hC1 hC2
      go_wp2_with fail
      refine HD.out.mono ?_
      rintro r w3 ⟨rfl, ho3, hk3⟩
      obtain ⟨h2, hlen, hC1, hC2⟩ := HX.out
      rw [← hlen] at ho3
      obtain ⟨hfin, hkf⟩ := h2.deleted ho3 hk3 (fun e he => h2.wf e (List.mem_of_mem_eraseIdx he))
      have hne : g ≠ b := fun e => h2.ne ((blkOf_some _ _ _ _).2 e)
      have hb3 := h2.obj.keep hk3 hne
      have c3 := hb3.cell 0 (v := .slice (some ⟨b, 0, none⟩) m.length cap) rfl
      have z3 := hb3.frozen 0
      have hC1' := hC1.keep hkf hg1
      have hC2' := hC2.keep hkf hg2
      rw [hlen] at hfin hkf hC1' hC2'
      have HG := Lib.hid (And.intro hlen (And.intro hfin (And.intro hkf (And.intro hC1' hC2'))))
      clear hlen h2 HX ho3 hk3 hfin hkf hb3 HD hC1 hC2 hC1' hC2'
      go_wp2_with fail
      obtain ⟨hlen, h2, hkf, hC1, hC2⟩ := HG.out
      rw [← hlen] at h2 hkf hC1 hC2
      have hK := hK.trans hkf
      rw [← hlen]
      have hlt2 : (m.eraseIdx 0).length ≤ 999 := by omega
      have hcp : (m.eraseIdx 0).length ≤ cap := by omega
      clear HG c0 c3 z3 z0 hlt hlen hm40 h40
      generalize m.eraseIdx 0 = m at *
      have c0 := h2.obj.cell 0 (v := .slice (some ⟨b, 0, none⟩) m.length cap) rfl
      generalize w3.setCell ⟨g, 0, none⟩ (.slice (some ⟨b, 0, none⟩) m.length cap) = w2 at *
      clear hne
      generalize (some (⟨b, 0, none⟩ : Addr)) = a at *
      have hu37 := Try.undKey
      have hi1 : (Try.prog.info? 37).map (·.size) = some (byteV dh).length := by rw [hlk]; exact Try.infoKey
      have hi2 : (Try.prog.info? 37).map (·.size) = some (byteV k).length := by rw [hlk2]; exact Try.infoKey
      have hr1 := hC1.range0
      have hr2 := hC2.range0
      go_wp2_with fail
      have hbe := Try.builtEnt hw
      have hcl : (.agg (entV (dh, k, n)).toArray : Value).cells = (entV (dh, k, n)).toArray := rfl
      have hwl := hw.len
      have h2d : IsSt 34 42 w2.drew g a cap m := h2.keep0 (Keeps.refl Nil w2).drew
      have hKd : Keeps (stOf g a) w w2.drew := hK.drew
      refine wp_region_held_drew (S := fun w' => w'.rangeAt gd 0 (byteV dh) ∧ w'.rangeAt gk 0 (byteV k)) (by kernel_rfl) ?_ (fun hHeld => ?_)
      · exact ⟨by simpa using hr1, by simpa using hr2⟩
      refine takeL (i := 0) (v := _) rfl (by kernel_rfl) (by kernel_rfl) (by kernel_rfl) (fun _ _ _ h => h) (Or.inl ⟨by rfl, by intro w hSw; (try dsimp only at hSw); go_simp; try with_reducible rfl⟩) (by assumption) ?_
      try simp only [Act.put, List.setIfInBounds_toArray, List.set_cons_zero, List.set_cons_succ]
      refine takeL (i := 1) (v := _) rfl (by kernel_rfl) (by kernel_rfl) (by kernel_rfl) (fun _ _ _ h => h) (Or.inl ⟨by rfl, by intro w hSw; (try dsimp only at hSw); go_simp; try with_reducible rfl⟩) (by assumption) ?_
      try simp only [Act.put, List.setIfInBounds_toArray, List.set_cons_zero, List.set_cons_succ]
      refine takeL (i := 2) (v := _) rfl (by kernel_rfl) (by kernel_rfl) (by kernel_rfl) (fun _ _ _ h => h) (Or.inl ⟨by rfl, by intro w hSw; (try dsimp only at hSw); go_simp; try with_reducible rfl⟩) (by assumption) ?_
      try simp only [Act.put, List.setIfInBounds_toArray, List.set_cons_zero, List.set_cons_succ]
      refine takeL (i := 3) (v := _) rfl (by kernel_rfl) (by kernel_rfl) (by kernel_rfl) (fun _ _ _ h => h) (Or.inl ⟨by rfl, by intro w hSw; (try dsimp only at hSw); go_simp; try with_reducible rfl⟩) (by assumption) ?_
      try simp only [Act.put, List.setIfInBounds_toArray, List.set_cons_zero, List.set_cons_succ]
      refine takeL (i := 5) (v := _) rfl (by kernel_rfl) (by kernel_rfl) (by kernel_rfl) (fun _ _ _ h => h) (yieldsIf_load_mid (by rfl) 37 _ rfl gd 0 rfl (byteV dh) _ (fun w hSw => hSw.1) hu37 rfl hi1) (by assumption) ?_
      try simp only [Act.put, List.setIfInBounds_toArray, List.set_cons_zero, List.set_cons_succ]
      refine takeL (i := 6) (v := _) rfl (by kernel_rfl) (by kernel_rfl) (by kernel_rfl) (fun _ _ _ h => h) (yieldsIf_load_mid (by rfl) 37 _ rfl gk 0 rfl (byteV k) _ (fun w hSw => hSw.2) hu37 rfl hi2) (by assumption) ?_
      try simp only [Act.put, List.setIfInBounds_toArray, List.set_cons_zero, List.set_cons_succ]
      refine takeL (i := 7) (v := _) rfl (by kernel_rfl) (by kernel_rfl) (by kernel_rfl) (fun _ _ _ h => h) (Or.inl ⟨by rfl, by intro w hSw; (try dsimp only at hSw); go_simp; try with_reducible rfl⟩) (by assumption) ?_
      try simp only [Act.put, List.setIfInBounds_toArray, List.set_cons_zero, List.set_cons_succ]
      refine takeL (i := 8) (v := .agg (entV (dh, k, n)).toArray) rfl (by kernel_rfl) (by kernel_rfl) (by kernel_rfl) (fun _ _ _ h => h) (yieldsIf_build (by rfl) 42 _ rfl (entV (dh, k, n)) _ hbe (by simp [Act.eval])) (by assumption) ?_
      try simp only [Act.put, List.setIfInBounds_toArray, List.set_cons_zero, List.set_cons_succ]
      have hC1d : Blk w2.drew gd (byteV dh) 37 := hC1
      have hC2d : Blk w2.drew gk (byteV k) 37 := hC2
      have c0d : w2.drew.cell? ⟨g, 0, none⟩ = some (.slice a m.length cap) := c0
      clear h2 hK hC1 hC2 hr1 hr2 hu37 hi1 hi2 c0
      generalize w2.drew = w3 at *
      have c0a : (w3.alloc (.cells (entV (dh, k, n)).toArray 42)).cell? ⟨g, 0, none⟩ = some (.slice a m.length cap) := (h2d.obj.alloc _).cell 0 rfl
      have hSa : (w3.alloc (.cells (entV (dh, k, n)).toArray 42)).rangeAt gd 0 (byteV dh) ∧ (w3.alloc (.cells (entV (dh, k, n)).toArray 42)).rangeAt gk 0 (byteV k) := ⟨(hC1d.alloc _).range0, (hC2d.alloc _).range0⟩
      have hsz3 : stOf g a w3.heap.size → False := fun h => by have := h2d.lt _ h; omega
      have hCa := hC1d.alloc (.cells (entV (dh, k, n)).toArray 42)
      have hCb := hC2d.alloc (.cells (entV (dh, k, n)).toArray 42)
      have hka : Keeps Nil w3 (w3.alloc (.cells (entV (dh, k, n)).toArray 42)) := (Keeps.refl Nil w3).alloc _
      have hoa := h2d.arr.keep0 hka
      have hsrc : Src (w3.alloc (.cells (entV (dh, k, n)).toArray 42)) (some ⟨w3.heap.size, 0, none⟩) 1 1 65 (entV (dh, k, n)) := ⟨by omega, oneCell_entV _, .inr ⟨_, rfl, fun j u hu => by rw [Addr.add_lit]; simpa using (Blk.new w3 (entV (dh, k, n)) 42).cell j hu⟩⟩
      have hx65 : (entsV m ++ entV (dh, k, n)) = entsV (m ++ [(dh, k, n)]) := by rw [entsV_append]; simp [entsV]
      have hwm : ∀ e ∈ m ++ [(dh, k, n)], WfE e := fun e he => by
        rcases List.mem_append.1 he with h | h
        · exact h2d.wf e h
        · rw [List.mem_singleton.1 h]; exact hw
      refine bothL (i := 4) (j := 9) rfl rfl (by kernel_rfl) (fun K hK => ?_) (fun K hK => ?_)
      go_simp
      refine (fun hHeld => hK _ _ hHeld ?_) (hHeld)
      clear hK
      try simp only [Act.put, List.setIfInBounds_toArray, List.set_cons_zero, List.set_cons_succ]
      refine onlyL (i := 9) rfl (by kernel_rfl) (fun K hK => ?_)
      refine step_bsOne rfl 32 42 _ rfl (entV (dh, k, n)) (.agg (entV (dh, k, n)).toArray) hcl 65 Try.underlying32 (by kernel_rfl) (by omega) (by omega) hwl (by simp [Act.eval]) ?_
      refine (fun hHeld => hK _ _ hHeld ?_) (hSa)
      clear hK
      try simp only [Act.put, List.setIfInBounds_toArray, List.set_cons_zero, List.set_cons_succ]
      rotate_left
      refine step_bsOne rfl 32 42 _ rfl (entV (dh, k, n)) (.agg (entV (dh, k, n)).toArray) hcl 65 Try.underlying32 (by kernel_rfl) (by omega) (by omega) hwl (by simp [Act.eval]) ?_
      refine (fun hHeld => hK _ _ hHeld ?_) (hSa)
      clear hK
      try simp only [Act.put, List.setIfInBounds_toArray, List.set_cons_zero, List.set_cons_succ]
      refine onlyL (i := 4) rfl (by kernel_rfl) (fun K hK => ?_)
      go_simp
      refine (fun hHeld => hK _ _ hHeld ?_) (hSa)
      clear hK
      try simp only [Act.put, List.setIfInBounds_toArray, List.set_cons_zero, List.set_cons_succ]
      all_goals
        refine onlyL (i := 10) rfl (by kernel_rfl) (fun K hK => ?_)
        refine step_append rfl _ _ 32 rfl 42 65 68 Try.underlying32 Try.infoEnt0 (by omega) a cap m.length _ rfl hoa _ 1 1 (entV (dh, k, n)) rfl hsrc (by omega) (by unfold maxLen; omega) (by omega) ?_
        intro g2 cap2 w4 hown4 hk4 hf4
        have hb4 : Blk w4 g [.slice a m.length cap] 34 := (h2d.obj.keep0 hka).keep hk4 h2d.ne
        have c4 := hb4.cell 0 (v := .slice a m.length cap) rfl
        have z4 := hb4.frozen 0
        rw [hx65] at hown4
        refine (fun hHeld => hK _ _ hHeld ?_) (⟨(hCa.keep hk4 (fun h => hg1 (.inr h))).range0, (hCb.keep hk4 (fun h => hg2 (.inr h))).range0⟩)
        clear hK
        try simp only [Act.put, List.setIfInBounds_toArray, List.set_cons_zero, List.set_cons_succ]
        refine takeL (i := 11) (v := _) rfl (by kernel_rfl) (by kernel_rfl) (by kernel_rfl) (fun _ _ _ h => h) (Or.inl ⟨by rfl, by intro w hSw; (try dsimp only at hSw); go_simp; try with_reducible rfl⟩) (by assumption) ?_
        try simp only [Act.put, List.setIfInBounds_toArray, List.set_cons_zero, List.set_cons_succ]
        refine takeL (i := 12) (v := _) rfl (by kernel_rfl) (by kernel_rfl) (by kernel_rfl) (fun _ _ _ h => h) (Or.inl ⟨by rfl, by intro w hSw; (try dsimp only at hSw); go_simp; try with_reducible rfl⟩) (by assumption) ?_
        try simp only [Act.put, List.setIfInBounds_toArray, List.set_cons_zero, List.set_cons_succ]
        refine onlyL (i := 13) rfl (by kernel_rfl) (fun K hK => ?_)
        go_simp
        have hsto := h2d.stored (a' := some ⟨g2, 0, none⟩) (l' := m ++ [(dh, k, n)]) (cap' := cap2) hka (by rw [List.length_append]; exact hown4) hk4 (fun x hx => by
          rw [(blkOf_some _ _ _ _).1 hx]
          rcases hf4 with h | h
          · exact .inl h
          · exact .inr (by rw [h]; exact hka.size)) hwm
        have hlm : (m ++ [(dh, k, n)]).length = m.length + 1 := by simp
        rw [hlm] at hsto
        refine (fun hHeld => hK _ _ hHeld ?_) (⟨((hCa.keep hk4 (fun h => hg1 (.inr h))).far (fun e => hg1 (.inl e)) _).range0, ((hCb.keep hk4 (fun h => hg2 (.inr h))).far (fun e => hg2 (.inl e)) _).range0⟩)
        clear hK
        try simp only [Act.put, List.setIfInBounds_toArray, List.set_cons_zero, List.set_cons_succ]
        refine wpAnyH_done (by kernel_rfl) ?_ _
        go_wp2_with fail
        go_end0
        obtain ⟨hst, hks, hfs⟩ := hsto
        refine ⟨some ⟨g2, 0, none⟩, cap2, rfl, ?_, hKd.trans hks, fun x hx => ?_⟩
        · rw [HP.out]; exact hst
        · rcases hfs x hx with h | h
          · exact .inl h
          · exact .inr (by have := hKd.size; omega)
  · rw [if_neg h40] at HP
    have hm40 : ¬ (40 : Int) ≤ m.length := by omega
    have hu37 := Try.undKey
    have hi1 : (Try.prog.info? 37).map (·.size) = some (byteV dh).length := by rw [hlk]; exact Try.infoKey
    have hi2 : (Try.prog.info? 37).map (·.size) = some (byteV k).length := by rw [hlk2]; exact Try.infoKey
    have hr1 := hC1.range0
    have hr2 := hC2.range0
    go_wp2_with fail
    have hbe := Try.builtEnt hw
    have hcl : (.agg (entV (dh, k, n)).toArray : Value).cells = (entV (dh, k, n)).toArray := rfl
    have hwl := hw.len
    have h2d : IsSt 34 42 w2.drew g a cap m := h2.keep0 (Keeps.refl Nil w2).drew
    have hKd : Keeps (stOf g a) w w2.drew := hK.drew
    refine wp_region_held_drew (S := fun w' => w'.rangeAt gd 0 (byteV dh) ∧ w'.rangeAt gk 0 (byteV k)) (by kernel_rfl) ?_ (fun hHeld => ?_)
    · exact ⟨by simpa using hr1, by simpa using hr2⟩
    refine takeL (i := 0) (v := _) rfl (by kernel_rfl) (by kernel_rfl) (by kernel_rfl) (fun _ _ _ h => h) (Or.inl ⟨by rfl, by intro w hSw; (try dsimp only at hSw); go_simp; try with_reducible rfl⟩) (by assumption) ?_
    try simp only [Act.put, List.setIfInBounds_toArray, List.set_cons_zero, List.set_cons_succ]
    refine takeL (i := 1) (v := _) rfl (by kernel_rfl) (by kernel_rfl) (by kernel_rfl) (fun _ _ _ h => h) (Or.inl ⟨by rfl, by intro w hSw; (try dsimp only at hSw); go_simp; try with_reducible rfl⟩) (by assumption) ?_
    try simp only [Act.put, List.setIfInBounds_toArray, List.set_cons_zero, List.set_cons_succ]
    refine takeL (i := 2) (v := _) rfl (by kernel_rfl) (by kernel_rfl) (by kernel_rfl) (fun _ _ _ h => h) (Or.inl ⟨by rfl, by intro w hSw; (try dsimp only at hSw); go_simp; try with_reducible rfl⟩) (by assumption) ?_
    try simp only [Act.put, List.setIfInBounds_toArray, List.set_cons_zero, List.set_cons_succ]
    refine takeL (i := 3) (v := _) rfl (by kernel_rfl) (by kernel_rfl) (by kernel_rfl) (fun _ _ _ h => h) (Or.inl ⟨by rfl, by intro w hSw; (try dsimp only at hSw); go_simp; try with_reducible rfl⟩) (by assumption) ?_
    try simp only [Act.put, List.setIfInBounds_toArray, List.set_cons_zero, List.set_cons_succ]
    refine takeL (i := 5) (v := _) rfl (by kernel_rfl) (by kernel_rfl) (by kernel_rfl) (fun _ _ _ h => h) (yieldsIf_load_mid (by rfl) 37 _ rfl gd 0 rfl (byteV dh) _ (fun w hSw => hSw.1) hu37 rfl hi1) (by assumption) ?_
    try simp only [Act.put, List.setIfInBounds_toArray, List.set_cons_zero, List.set_cons_succ]
    refine takeL (i := 6) (v := _) rfl (by kernel_rfl) (by kernel_rfl) (by kernel_rfl) (fun _ _ _ h => h) (yieldsIf_load_mid (by rfl) 37 _ rfl gk 0 rfl (byteV k) _ (fun w hSw => hSw.2) hu37 rfl hi2) (by assumption) ?_
    try simp only [Act.put, List.setIfInBounds_toArray, List.set_cons_zero, List.set_cons_succ]
    refine takeL (i := 7) (v := _) rfl (by kernel_rfl) (by kernel_rfl) (by kernel_rfl) (fun _ _ _ h => h) (Or.inl ⟨by rfl, by intro w hSw; (try dsimp only at hSw); go_simp; try with_reducible rfl⟩) (by assumption) ?_
    try simp only [Act.put, List.setIfInBounds_toArray, List.set_cons_zero, List.set_cons_succ]
    refine takeL (i := 8) (v := .agg (entV (dh, k, n)).toArray) rfl (by kernel_rfl) (by kernel_rfl) (by kernel_rfl) (fun _ _ _ h => h) (yieldsIf_build (by rfl) 42 _ rfl (entV (dh, k, n)) _ hbe (by simp [Act.eval])) (by assumption) ?_
    try simp only [Act.put, List.setIfInBounds_toArray, List.set_cons_zero, List.set_cons_succ]
    have hC1d : Blk w2.drew gd (byteV dh) 37 := hC1
    have hC2d : Blk w2.drew gk (byteV k) 37 := hC2
    have c0d : w2.drew.cell? ⟨g, 0, none⟩ = some (.slice a m.length cap) := c0
    clear h2 hK hC1 hC2 hr1 hr2 hu37 hi1 hi2 c0
    generalize w2.drew = w3 at *
    have c0a : (w3.alloc (.cells (entV (dh, k, n)).toArray 42)).cell? ⟨g, 0, none⟩ = some (.slice a m.length cap) := (h2d.obj.alloc _).cell 0 rfl
    have hSa : (w3.alloc (.cells (entV (dh, k, n)).toArray 42)).rangeAt gd 0 (byteV dh) ∧ (w3.alloc (.cells (entV (dh, k, n)).toArray 42)).rangeAt gk 0 (byteV k) := ⟨(hC1d.alloc _).range0, (hC2d.alloc _).range0⟩
    have hsz3 : stOf g a w3.heap.size → False := fun h => by have := h2d.lt _ h; omega
    have hCa := hC1d.alloc (.cells (entV (dh, k, n)).toArray 42)
    have hCb := hC2d.alloc (.cells (entV (dh, k, n)).toArray 42)
    have hka : Keeps Nil w3 (w3.alloc (.cells (entV (dh, k, n)).toArray 42)) := (Keeps.refl Nil w3).alloc _
    have hoa := h2d.arr.keep0 hka
    have hsrc : Src (w3.alloc (.cells (entV (dh, k, n)).toArray 42)) (some ⟨w3.heap.size, 0, none⟩) 1 1 65 (entV (dh, k, n)) := ⟨by omega, oneCell_entV _, .inr ⟨_, rfl, fun j u hu => by rw [Addr.add_lit]; simpa using (Blk.new w3 (entV (dh, k, n)) 42).cell j hu⟩⟩
    have hx65 : (entsV m ++ entV (dh, k, n)) = entsV (m ++ [(dh, k, n)]) := by rw [entsV_append]; simp [entsV]
    have hwm : ∀ e ∈ m ++ [(dh, k, n)], WfE e := fun e he => by
      rcases List.mem_append.1 he with h | h
      · exact h2d.wf e h
      · rw [List.mem_singleton.1 h]; exact hw
    refine bothL (i := 4) (j := 9) rfl rfl (by kernel_rfl) (fun K hK => ?_) (fun K hK => ?_)
    go_simp
    refine (fun hHeld => hK _ _ hHeld ?_) (hHeld)
    clear hK
    try simp only [Act.put, List.setIfInBounds_toArray, List.set_cons_zero, List.set_cons_succ]
    refine onlyL (i := 9) rfl (by kernel_rfl) (fun K hK => ?_)
    refine step_bsOne rfl 32 42 _ rfl (entV (dh, k, n)) (.agg (entV (dh, k, n)).toArray) hcl 65 Try.underlying32 (by kernel_rfl) (by omega) (by omega) hwl (by simp [Act.eval]) ?_
    refine (fun hHeld => hK _ _ hHeld ?_) (hSa)
    clear hK
    try simp only [Act.put, List.setIfInBounds_toArray, List.set_cons_zero, List.set_cons_succ]
    rotate_left
    refine step_bsOne rfl 32 42 _ rfl (entV (dh, k, n)) (.agg (entV (dh, k, n)).toArray) hcl 65 Try.underlying32 (by kernel_rfl) (by omega) (by omega) hwl (by simp [Act.eval]) ?_
    refine (fun hHeld => hK _ _ hHeld ?_) (hSa)
    clear hK
    try simp only [Act.put, List.setIfInBounds_toArray, List.set_cons_zero, List.set_cons_succ]
    refine onlyL (i := 4) rfl (by kernel_rfl) (fun K hK => ?_)
    go_simp
    refine (fun hHeld => hK _ _ hHeld ?_) (hSa)
    clear hK
    try simp only [Act.put, List.setIfInBounds_toArray, List.set_cons_zero, List.set_cons_succ]
    all_goals
      refine onlyL (i := 10) rfl (by kernel_rfl) (fun K hK => ?_)
      refine step_append rfl _ _ 32 rfl 42 65 68 Try.underlying32 Try.infoEnt0 (by omega) a cap m.length _ rfl hoa _ 1 1 (entV (dh, k, n)) rfl hsrc (by omega) (by unfold maxLen; omega) (by omega) ?_
      intro g2 cap2 w4 hown4 hk4 hf4
      have hb4 : Blk w4 g [.slice a m.length cap] 34 := (h2d.obj.keep0 hka).keep hk4 h2d.ne
      have c4 := hb4.cell 0 (v := .slice a m.length cap) rfl
      have z4 := hb4.frozen 0
      rw [hx65] at hown4
      refine (fun hHeld => hK _ _ hHeld ?_) (⟨(hCa.keep hk4 (fun h => hg1 (.inr h))).range0, (hCb.keep hk4 (fun h => hg2 (.inr h))).range0⟩)
      clear hK
      try simp only [Act.put, List.setIfInBounds_toArray, List.set_cons_zero, List.set_cons_succ]
      refine takeL (i := 11) (v := _) rfl (by kernel_rfl) (by kernel_rfl) (by kernel_rfl) (fun _ _ _ h => h) (Or.inl ⟨by rfl, by intro w hSw; (try dsimp only at hSw); go_simp; try with_reducible rfl⟩) (by assumption) ?_
      try simp only [Act.put, List.setIfInBounds_toArray, List.set_cons_zero, List.set_cons_succ]
      refine takeL (i := 12) (v := _) rfl (by kernel_rfl) (by kernel_rfl) (by kernel_rfl) (fun _ _ _ h => h) (Or.inl ⟨by rfl, by intro w hSw; (try dsimp only at hSw); go_simp; try with_reducible rfl⟩) (by assumption) ?_
      try simp only [Act.put, List.setIfInBounds_toArray, List.set_cons_zero, List.set_cons_succ]
      refine onlyL (i := 13) rfl (by kernel_rfl) (fun K hK => ?_)
      go_simp
      have hsto := h2d.stored (a' := some ⟨g2, 0, none⟩) (l' := m ++ [(dh, k, n)]) (cap' := cap2) hka (by rw [List.length_append]; exact hown4) hk4 (fun x hx => by
        rw [(blkOf_some _ _ _ _).1 hx]
        rcases hf4 with h | h
        · exact .inl h
        · exact .inr (by rw [h]; exact hka.size)) hwm
      have hlm : (m ++ [(dh, k, n)]).length = m.length + 1 := by simp
      rw [hlm] at hsto
      refine (fun hHeld => hK _ _ hHeld ?_) (⟨((hCa.keep hk4 (fun h => hg1 (.inr h))).far (fun e => hg1 (.inl e)) _).range0, ((hCb.keep hk4 (fun h => hg2 (.inr h))).far (fun e => hg2 (.inl e)) _).range0⟩)
      clear hK
      try simp only [Act.put, List.setIfInBounds_toArray, List.set_cons_zero, List.set_cons_succ]
      refine wpAnyH_done (by kernel_rfl) ?_ _
      go_wp2_with fail
      go_end0
      obtain ⟨hst, hks, hfs⟩ := hsto
      refine ⟨some ⟨g2, 0, none⟩, cap2, rfl, ?_, hKd.trans hks, fun x hx => ?_⟩
      · rw [HP.out]; exact hst
      · rcases hfs x hx with h | h
        · exact .inl h
        · exact .inr (by have := hKd.size; omega)

def zeroKey : List Int := List.replicate 32 0
theorem zeroKey_len : zeroKey.length = 32 := rfl
theorem zeroKey_bytes : AreB zeroKey := fun x hx => by rw [List.eq_of_mem_replicate hx]; decide
theorem Try.builtZero : Try.prog.built 37 [] = some (byteV zeroKey).toArray := by kernel_rfl
/-- The key that is found; zeros: it is not there. -/
def findKey (l : List Ent) (dh : List Int) (n : Int) : List Int := if placeE l dh n = -1 then zeroKey else (l.getD (placeE l dh n).toNat ([], zeroKey, 0)).2.1
theorem findKey_ok {l : List Ent} (h : ∀ e ∈ l, WfE e) (dh : List Int) (n : Int) : (findKey l dh n).length = 32 ∧ AreB (findKey l dh n) := by
  unfold findKey
  split
  · exact ⟨zeroKey_len, zeroKey_bytes⟩
  · rcases place_lt l dh n with hp | ⟨i, hp, hi, e, he, hq⟩
    · contradiction
    · rw [hp]
      have := h e (List.mem_of_getElem? he)
      simp [List.getD, he]
      exact ⟨this.l2, this.b2⟩
def FindPost (l : List Ent) (dh : List Int) (n : Int) (w : World) (r : Ending) (w' : World) : Prop :=
  r = .returned (.tuple #[keyV (findKey l dh n), .bool (hasE l dh n)]) ∧ Keeps Nil w w'
set_option maxRecDepth 20000 in
set_option maxHeartbeats 1600000 in
theorem find_walk {w : World} {g cap : Nat} {a : Option Addr} {l : List Ent} (h : IsSt 34 42 w g a cap l) (dh : List Int) (n : Int) (hd : dh.length = 32) (bd : AreB dh) :
    Calls Try.prog 20 #[.pointer (some ⟨g, 0, none⟩), keyV dh, .int .u32 n] w (FindPost l dh n w) := by
  have hV := ((Has.nil w).cons (byteV dh) 37 rfl).cons (byteV zeroKey) 37 (n := w.heap.size + 1) (by simp [size_alloc'])
  have hk : Keeps Nil w ((w.alloc (.cells (byteV dh).toArray 37)).alloc (.cells (byteV zeroKey).toArray 37)) := ((Keeps.refl Nil w).alloc _).alloc _
  have h1 := h.keep0 hk
  have hlk : (byteV dh).length = 32 := by simp [byteV]; exact hd
  have hlz : (byteV zeroKey).length = 32 := rfl
  have HB := Lib.hid (And.intro (hV.at 1 rfl) (And.intro hlk (And.intro (hV.at 0 rfl) hlz)))
  have HI := Lib.hid (find0_walk h1 dh n hd bd)
  clear hV hlk
  go_enter Try.func20, Try.ntmps20
  go_wp2_with (refine wpl_load rfl 37 _ rfl w.heap.size rfl HB.out.1 _ Try.undKey rfl (by rw [HB.out.2.1]; exact Try.infoKey) ?_)
  change Calls _ _ _ ((w.alloc (.cells (byteV dh).toArray 37)).alloc (.cells (byteV zeroKey).toArray 37)) _
  generalize (w.alloc (.cells (byteV dh).toArray 37)).alloc (.cells (byteV zeroKey).toArray 37) = wz at *
  have hgr : w.heap.size ≤ w.heap.size + 1 := by omega
  have hng : ∀ x, stOf g a x → x ≠ w.heap.size + 1 := fun x hx => by have := h.lt x hx; omega
  generalize w.heap.size + 1 = gr at *
  refine HI.out.mono ?_
  rintro r w2 ⟨rfl, hk2⟩
  obtain ⟨_, _, hB0, _⟩ := HB.out
  have hB := hB0.keep0 hk2
  have h2 := h1.keep0 hk2
  have hK := hk.trans hk2
  have HF := Lib.hid (findKey_ok h.wf dh n)
  have c0 := h2.obj.cell 0 (v := .slice a l.length cap) rfl
  clear HI HB hB0 hk2 hk
  rcases place_lt l dh n with hp | ⟨i, hp, hi, e, he, hq⟩
  · have hT : findKey l dh n = zeroKey := by simp [findKey, hp]
    have hH : hasE l dh n = false := by simp [hasE, hp]
    have HT := Lib.hid (And.intro hT hH)
    rw [hp]
    clear hT hH hp h h1
    go_wp2_with (first | (refine wpl_build rfl 37 _ rfl (byteV zeroKey) _ Try.builtZero (by first | rfl | simp [Act.eval]) ?_) | (refine wpl_store rfl 37 _ _ rfl gr rfl (byteV zeroKey) rfl hB rfl (by rw [hlz]; exact Try.infoKey) oneCell_byteV ?_))
    intro w3 hb3 hk3 hs3
    go_wp2_with fail
    refine ret_blk_tmp Try.results20 gr rfl hb3 _ Try.undKey rfl (by rw [hlz]; exact Try.infoKey) rfl rfl ?_
    refine ⟨by rw [HT.out.1, HT.out.2]; rfl, hK.step hk3 (fun i hi => .inr (by rw [show i = gr from hi]; exact hgr))⟩
  · obtain ⟨b, ha, hb, hr⟩ := own_ent h2.arr h2.wf he
    subst ha
    have hwe := h2.wf e (List.mem_of_getElem? he)
    have hT : findKey l dh n = e.2.1 := by simp [findKey, hp, List.getD, he]
    have hH : hasE l dh n = true := by simp [hasE, hp]
    have hrk : w2.rangeAt b (i * 65 + 32) (byteV e.2.1) := fun j v hv => by
      have hj := (List.getElem?_eq_some_iff.1 hv).1
      have hj2 : j < 32 := by simp [byteV, hwe.l2] at hj; exact hj
      have := hr (32 + j) v (by
        unfold entV
        rw [List.getElem?_append_right (by simp [byteV, hwe.l1]), List.getElem?_append_left (by simp [byteV, hwe.l1, hwe.l2]; omega)]
        simpa [byteV, hwe.l1] using hv)
      rw [Nat.add_assoc]
      exact this
    have hle : (byteV e.2.1).length = 32 := by simp [byteV, hwe.l2]
    have HT := Lib.hid (And.intro hT (And.intro hH (And.intro hrk hle)))
    have hm := h2.arr.2.2.1
    have hcp := h2.arr.2.1
    unfold maxLen at hm
    have hi0 : (0 : Int) ≤ i := by omega
    have hi1 : (i : Int) < l.length := by omega
    have hbl : 32 = (byteV e.2.1).length := by rw [hle]
    have hzz : (byteV e.2.1).length = (byteV zeroKey).length := by rw [hle]; rfl
    have HZ := Lib.hid hzz
    rw [hp]
    clear hT hH hp h h1 hr hrk hle he hq h2 hbl hzz
    go_wp2_with (first | (refine wpl_load_at rfl 37 _ rfl b (i * 65 + 32) rfl (byteV e.2.1) HT.out.2.2.1 _ Try.undKey rfl (by rw [HT.out.2.2.2]; exact Try.infoKey) ?_) | (refine wpl_store rfl 37 _ _ rfl gr rfl (byteV e.2.1) rfl hB HZ.out (by rw [HT.out.2.2.2]; exact Try.infoKey) oneCell_byteV ?_))
    intro w3 hb3 hk3 hs3
    go_wp2_with fail
    refine ret_blk_tmp Try.results20 gr rfl hb3 _ Try.undKey rfl (by rw [HT.out.2.2.2]; exact Try.infoKey) rfl rfl ?_
    refine ⟨by rw [HT.out.1, HT.out.2.1]; rfl, hK.step hk3 (fun i hi => .inr (by rw [show i = gr from hi]; exact hgr))⟩
end Go.Proofs.Ytokminiendnhoaa
