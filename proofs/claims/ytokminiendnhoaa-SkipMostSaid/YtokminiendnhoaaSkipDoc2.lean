/-
  The document's keys for later: Find, Take, Put.
-/
import Derived.Test.YtokminiendnhoaaSkipDoc
namespace Go.Proofs.Ytokminiendnhoaa
set_option linter.unusedSimpArgs false
set_option linter.unusedVariables false
open Go.RowKit

theorem Try.isDe : ((Try.prog.info? 66).map (·.size)).isSome = true := by kernel_rfl
set_option maxRecDepth 20000 in
set_option maxHeartbeats 1600000 in
theorem refFind_walk {w : World} {g cap : Nat} {a : Option Addr} {l : List Ent} (h : IsSk w g a cap l) (dh : List Int) (n : Int) (hd : dh.length = 32) (bd : AreB dh) :
    Calls Try.prog 25 #[.pointer (some ⟨g, 0, none⟩), keyV dh, .int .u32 n] w (FindPost l dh n w) := by
  have hV := ((Has.nil w).cons (byteV dh) 37 rfl).cons (byteV zeroKey) 37 (n := w.heap.size + 1) (by simp [size_alloc'])
  have hk : Keeps Nil w ((w.alloc (.cells (byteV dh).toArray 37)).alloc (.cells (byteV zeroKey).toArray 37)) := ((Keeps.refl Nil w).alloc _).alloc _
  have h1 := h.keep0 hk
  have hlk : (byteV dh).length = 32 := by simp [byteV]; exact hd
  have hlz : (byteV zeroKey).length = 32 := rfl
  have HB := Lib.hid (And.intro (hV.at 1 rfl) (And.intro hlk (And.intro (hV.at 0 rfl) hlz)))
  have HI := Lib.hid (place_walk h1 dh n hd bd)
  clear hV hlk
  go_enter Try.func25, Try.ntmps25
  go_wp2_with (refine wpl_load rfl 37 _ rfl w.heap.size rfl HB.out.1 _ Try.undKey rfl (by rw [HB.out.2.1]; exact Try.infoKey) ?_)
  change Calls _ _ _ ((w.alloc (.cells (byteV dh).toArray 37)).alloc (.cells (byteV zeroKey).toArray 37)) _
  generalize (w.alloc (.cells (byteV dh).toArray 37)).alloc (.cells (byteV zeroKey).toArray 37) = wz at *
  have hgr : w.heap.size ≤ w.heap.size + 1 := by omega
  have hng : ∀ x, stOf g a x → x ≠ w.heap.size + 1 := fun x hx => by have := h.lt x hx; omega
  generalize w.heap.size + 1 = gr at *
  refine HI.out.mono ?_
  rintro r w2 ⟨rfl, hk2⟩
  obtain ⟨_, _, hB0, _⟩ := HB.out
  have hB := hB0.keep0 hk2
  have h2 := h1.keep0 hk2
  have hK := hk.trans hk2
  have c0 := h2.obj.cell 0 (v := .slice a l.length cap) rfl
  clear HI HB hB0 hk2 hk
  rcases place_lt l dh n with hp | ⟨i, hp, hi, e, he, hq⟩
  · have hT : findKey l dh n = zeroKey := by simp [findKey, hp]
    have hH : hasE l dh n = false := by simp [hasE, hp]
    have HT := Lib.hid (And.intro hT hH)
    rw [hp]
    clear hT hH hp h h1
    go_wp2_with (first | (refine wpl_build rfl 37 _ rfl (byteV zeroKey) _ Try.builtZero (by first | rfl | simp [Act.eval]) ?_) | (refine wpl_store rfl 37 _ _ rfl gr rfl (byteV zeroKey) rfl hB rfl (by rw [hlz]; exact Try.infoKey) oneCell_byteV ?_))
    intro w3 hb3 hk3 hs3
    go_wp2_with fail
    refine ret_blk_tmp Try.results25 gr rfl hb3 _ Try.undKey rfl (by rw [hlz]; exact Try.infoKey) rfl rfl ?_
    refine ⟨by rw [HT.out.1, HT.out.2]; rfl, hK.step hk3 (fun i hi => .inr (by rw [show i = gr from hi]; exact hgr))⟩
  · obtain ⟨b, off, ha, hb⟩ := h2.ents.some (by omega)
    subst ha
    have hr := h2.ents.ent h2.wf he
    have hwe := h2.wf e (List.mem_of_getElem? he)
    have hT : findKey l dh n = e.2.1 := by simp [findKey, hp, List.getD, he]
    have hH : hasE l dh n = true := by simp [hasE, hp]
    have hrk : w2.rangeAt b (off + i * 65 + 32) (byteV e.2.1) := fun j v hv => by
      have hj := (List.getElem?_eq_some_iff.1 hv).1
      have hj2 : j < 32 := by simp [byteV, hwe.l2] at hj; exact hj
      have := hr (32 + j) v (by
        unfold entV
        rw [List.getElem?_append_right (by simp [byteV, hwe.l1]), List.getElem?_append_left (by simp [byteV, hwe.l1, hwe.l2]; omega)]
        simpa [byteV, hwe.l1] using hv)
      rw [Nat.add_assoc]
      exact this
    have hle : (byteV e.2.1).length = 32 := by simp [byteV, hwe.l2]
    have HT := Lib.hid (And.intro hT (And.intro hH (And.intro hrk hle)))
    have hm := h2.ents.m
    have hcp := h2.ents.c
    have hi0 : (0 : Int) ≤ i := by omega
    have hi1 : (i : Int) < l.length := by omega
    have hzz : (byteV e.2.1).length = (byteV zeroKey).length := by rw [hle]; rfl
    have HZ := Lib.hid hzz
    rw [hp]
    clear hT hH hp h h1 hr hrk hle he hq h2 hzz
    go_wp2_with (first | (refine wpl_load_at rfl 37 _ rfl b (off + i * 65 + 32) rfl (byteV e.2.1) HT.out.2.2.1 _ Try.undKey rfl (by rw [HT.out.2.2.2]; exact Try.infoKey) ?_) | (refine wpl_store rfl 37 _ _ rfl gr rfl (byteV e.2.1) rfl hB HZ.out (by rw [HT.out.2.2.2]; exact Try.infoKey) oneCell_byteV ?_))
    intro w3 hb3 hk3 hs3
    go_wp2_with fail
    refine ret_blk_tmp Try.results25 gr rfl hb3 _ Try.undKey rfl (by rw [HT.out.2.2.2]; exact Try.infoKey) rfl rfl ?_
    refine ⟨by rw [HT.out.1, HT.out.2.1]; rfl, hK.step hk3 (fun i hi => .inr (by rw [show i = gr from hi]; exact hgr))⟩

/-- What a change leaves. -/
def RefPost (v : Value) (g : Nat) (a : Option Addr) (l : List Ent) (w : World) (r : Ending) (w' : World) : Prop :=
  ∃ a' cap', r = .returned v ∧ IsSk w' g a' cap' l ∧ Keeps (One g) w w' ∧ ∀ k, blkOf a' k → blkOf a k ∨ w.heap.size ≤ k
set_option maxRecDepth 20000 in
set_option maxHeartbeats 1600000 in
theorem refTake_walk {w : World} {g cap : Nat} {a : Option Addr} {l : List Ent} (h : IsSk w g a cap l) (hl : l.length ≤ 1000) (dh : List Int) (n : Int) (hd : dh.length = 32) (bd : AreB dh) :
    Calls Try.prog 22 #[.pointer (some ⟨g, 0, none⟩), keyV dh, .int .u32 n] w (RefPost (.bool (hasE l dh n)) g a (takeE l dh n) w) := by
  have hk : Keeps Nil w (w.alloc (.cells (byteV dh).toArray 37)) := (Keeps.refl Nil w).alloc _
  have hB := Blk.new w (byteV dh) 37
  have h1 := h.keep0 hk
  have HI := Lib.hid (place_walk h1 dh n hd bd)
  have hlk : (byteV dh).length = 32 := by simp [byteV, hd]
  have HB := Lib.hid (And.intro hB hlk)
  clear hB hlk
  go_enter Try.func22, Try.ntmps22
  go_wp2_with (refine wpl_load rfl 37 _ rfl w.heap.size rfl HB.out.1 _ Try.undKey rfl (by rw [HB.out.2]; exact Try.infoKey) ?_)
  refine HI.out.mono ?_
  rintro r w2 ⟨rfl, hk2⟩
  have h2 := h1.keep0 hk2
  have hK := hk.trans hk2
  have hgw := h.obj.lt
  clear HI HB hk2 hk h1 h
  rcases place_lt l dh n with hp | ⟨i, hp, hi, e, he, hq⟩
  · have hT : takeE l dh n = l := by simp [takeE, hp]
    have hH : hasE l dh n = false := by simp [hasE, hp]
    have HT := Lib.hid (And.intro hT (And.intro hH (And.intro h2 hK)))
    rw [hp]
    clear hT hH hp h2 hK
    go_wp2_with fail
    go_ret
    exact ⟨a, cap, by rw [HT.out.2.1]; rfl, by rw [HT.out.1]; exact HT.out.2.2.1, HT.out.2.2.2.nil, fun k hk => .inl hk⟩
  · obtain ⟨b, off, ha, hb⟩ := h2.ents.some (by omega)
    subst ha
    have hT : takeE l dh n = l.take i ++ l.drop (i + 1) := by simp [takeE, hp, List.eraseIdx_eq_take_drop_succ]
    have hH : hasE l dh n = true := by simp [hasE, hp]
    have hm := h2.ents.m
    have hcp := h2.ents.c
    have c0 := h2.obj.cell 0 rfl
    have z0 := h2.obj.frozen 0
    have hi0 : (0 : Int) ≤ i := by omega
    have hi1 : (i : Int) < l.length := by omega
    have H2 := Lib.hid h2
    have HK := Lib.hid hK
    have hwT : ∀ e ∈ l.take i, WfE e := fun e he => h2.wf e (List.mem_of_mem_take he)
    have hwD : ∀ e ∈ l.drop (i + 1), WfE e := fun e he => h2.wf e (List.mem_of_mem_drop he)
    have hlT : (l.take i).length = i := by rw [List.length_take]; omega
    have hlD : (l.drop (i + 1)).length = l.length - (i + 1) := by rw [List.length_drop]
    have heT := h2.ents.take h2.wf i (by omega)
    have heD := h2.ents.drop h2.wf (i + 1) (by omega)
    have HT := Lib.hid (And.intro hT (And.intro hH (And.intro (And.intro hwT hwD) (And.intro (And.intro hlT hlD) (And.intro heT heD)))))
    rw [hp]
    clear hT hH hp h2 hK he hq hwT hwD hlT hlD heT heD
    go_wp2_with (refine wpl_bs0 rfl 47 66 rfl Try.underlying47 Try.isDe 65 ?_)
    intro w3 ho3 hk3
    replace c0 := hk3.cell c0 (fun h => h)
    have HO3 := Lib.hid ho3
    have HK3 := Lib.hid (HK.out.trans hk3)
    have H3 := Lib.hid (H2.out.keep0 hk3)
    have hes := (HT.out.2.2.2.2.1.keep hk3 (fun _ _ h => h)).src HT.out.2.2.1.1
    rw [HT.out.2.2.2.1.1] at hes
    have HS := Lib.hid hes
    have hsz : w.heap.size ≤ w2.heap.size := HK.out.size
    have HG := Lib.hid hsz
    have hes2 : EntsAt w3 (some ⟨b, off + (i + 1) * 65, none⟩) (cap - (i + 1)) (l.drop (i + 1)) := HT.out.2.2.2.2.2.keep hk3 (fun _ _ h => h)
    have HE2 := Lib.hid hes2
    obtain ⟨g3, hg3⟩ : ∃ g3, g3 = w2.heap.size := ⟨_, rfl⟩
    have HG3 : Hid (w2.heap.size ≤ g3) := Lib.hid (Nat.le_of_eq hg3.symm)
    have HK23 := Lib.hid hk3
    rw [← hg3] at HO3 ⊢
    clear ho3 hk3 hes z0 hes2 hsz hg3
    go_wp2_with (at_builtin; go_must (refine wpl_append rfl _ _ 47 rfl 66 65 68 Try.underlying47 Try.infoDe0 (by omega) (some ⟨g3, 0, none⟩) 0 0 [] rfl HO3.out (some ⟨b, off, none⟩) i cap (entsV (l.take i)) rfl HS.out (by unfold maxLen; omega) (by omega) ?_))
    intro a4 c4 w4 ho4 hk4 hf4 _
    have hg3 : w2.heap.size ≤ g3 := HG3.out
    have hb3 : b < w2.heap.size := hb
    have hf4v : ∀ k, blkOf a4 k → w2.heap.size ≤ k := fun k hk => by
      rcases hf4 k hk with h' | h'
      · rw [(blkOf_some _ _ _ _).1 h']; exact hg3
      · have := HK23.out.size; omega
    have HO4 := Lib.hid (And.intro ho4 hf4v)
    have hk24 : Keeps Nil w2 w4 := HK23.out.step hk4 (fun k hk => .inr (by rw [(blkOf_some _ _ _ _).1 hk]; exact hg3))
    have HK24 := Lib.hid hk24
    have H4 := Lib.hid (H2.out.keep0 hk24)
    have hes4 : EntsAt w4 (some ⟨b, off + (i + 1) * 65, none⟩) (cap - (i + 1)) (l.drop (i + 1)) := HT.out.2.2.2.2.2.keep hk24 (fun _ _ h => h)
    have HE4 := Lib.hid hes4
    replace c0 := H4.out.obj.cell 0 rfl
    clear ho4 hk4 hf4 hf4v hk24 hes4 HE2 HO3 HS
    by_cases hci : cap = i + 1
    · have hll : l.length = i + 1 := by omega
      subst hci
      have hd0 : l.drop (i + 1) = [] := by rw [List.drop_eq_nil_iff]; omega
      have hsr : Src w4 (some ⟨b, off, none⟩) 0 0 65 (entsV (l.drop (i + 1))) := by
        rw [hd0]
        exact ⟨rfl, (fun u hu => by cases hu), .inr ⟨_, rfl, fun j u hu => by cases hu⟩⟩
      have HSR := Lib.hid hsr
      rw [hll] at c0 ⊢
      clear hsr hd0
      go_wp2_with (at_builtin; go_must (refine wpl_append rfl _ _ 47 rfl 66 65 68 Try.underlying47 Try.infoDe0 (by omega) a4 c4 i _ rfl HO4.out.1 (some ⟨b, off, none⟩) 0 0 (entsV (l.drop (i + 1))) rfl HSR.out (by unfold maxLen; omega) (by omega) ?_))
      intro a5 c5 w5 ho5 hk5 hf5 _
      have hf5v : ∀ k, blkOf a5 k → w2.heap.size ≤ k := fun k hk => by
        rcases hf5 k hk with h' | h'
        · exact HO4.out.2 k h'
        · have := HK24.out.size; omega
      have hk25 : Keeps Nil w2 w5 := HK24.out.step hk5 (fun k hk => .inr (HO4.out.2 k hk))
      have hlt : (takeE l dh n).length = i := by
        have hx := congrArg List.length HT.out.1
        rw [List.length_append, HT.out.2.2.2.1.1, HT.out.2.2.2.1.2] at hx
        omega
      have hwt := takeE_wf H2.out.wf dh n
      have hin : entsV (l.take i) ++ entsV (l.drop (i + 1)) = entsV (takeE l dh n) := by rw [← entsV_append, HT.out.1]
      rw [hin, ← hlt] at ho5
      have hg2 := H2.out.obj.lt
      have hput := H2.out.put hk25 (EntsAt.of_own ho5) (fun e => by have := hf5v g e; omega) hwt
      have c5g := (H2.out.keep0 hk25).obj.cell 0 rfl
      have z5g := (H2.out.keep0 hk25).obj.frozen 0
      rw [hlt] at hput
      have HF := Lib.hid (And.intro hput (fun k hk => (show w.heap.size ≤ k from Nat.le_trans HK.out.size (hf5v k hk))))
      clear ho5 hk5 hf5 hf5v hk25 hlt hwt hin hput hg2 H4 HE4 HO4
      go_wp2_with fail
      go_ret
      exact ⟨a5, c5, by rw [HT.out.2.1]; rfl, HF.out.1.1, HK.out.nil.trans HF.out.1.2, fun k hk => .inr (HF.out.2 k hk)⟩
    · have hsr := HE4.out.src HT.out.2.2.1.2
      rw [HT.out.2.2.2.1.2] at hsr
      have HSR := Lib.hid hsr
      clear hsr
      go_wp2_with (at_builtin; go_must (refine wpl_append rfl _ _ 47 rfl 66 65 68 Try.underlying47 Try.infoDe0 (by omega) a4 c4 i _ rfl HO4.out.1 (some ⟨b, off + (i + 1) * 65, none⟩) (l.length - (i + 1)) (cap - (i + 1)) (entsV (l.drop (i + 1))) rfl HSR.out (by unfold maxLen; omega) (by omega) ?_))
      intro a5 c5 w5 ho5 hk5 hf5 _
      have hf5v : ∀ k, blkOf a5 k → w2.heap.size ≤ k := fun k hk => by
        rcases hf5 k hk with h' | h'
        · exact HO4.out.2 k h'
        · have := HK24.out.size; omega
      have hk25 : Keeps Nil w2 w5 := HK24.out.step hk5 (fun k hk => .inr (HO4.out.2 k hk))
      have hlt : (takeE l dh n).length = i + (l.length - (i + 1)) := by
        have hx := congrArg List.length HT.out.1
        rw [List.length_append, HT.out.2.2.2.1.1, HT.out.2.2.2.1.2] at hx
        omega
      have hwt := takeE_wf H2.out.wf dh n
      have hin : entsV (l.take i) ++ entsV (l.drop (i + 1)) = entsV (takeE l dh n) := by rw [← entsV_append, HT.out.1]
      rw [hin, ← hlt] at ho5
      have hg2 := H2.out.obj.lt
      have hput := H2.out.put hk25 (EntsAt.of_own ho5) (fun e => by have := hf5v g e; omega) hwt
      have c5g := (H2.out.keep0 hk25).obj.cell 0 rfl
      have z5g := (H2.out.keep0 hk25).obj.frozen 0
      rw [hlt] at hput
      have HF := Lib.hid (And.intro hput (fun k hk => (show w.heap.size ≤ k from Nat.le_trans HK.out.size (hf5v k hk))))
      clear ho5 hk5 hf5 hf5v hk25 hlt hwt hin hput hg2 H4 HE4 HO4
      go_wp2_with fail
      go_ret
      exact ⟨a5, c5, by rw [HT.out.2.1]; rfl, HF.out.1.1, HK.out.nil.trans HF.out.1.2, fun k hk => .inr (HF.out.2 k hk)⟩
theorem Try.builtDe {e : Ent} (he : WfE e) : Try.prog.built 66 [(0, keyV e.1), (1, keyV e.2.1), (2, .int .u32 e.2.2)] = some (entV e).toArray := by
  have h1 : (byteV e.1).length = 32 := by simp [byteV, he.l1]
  have h2 : (byteV e.2.1).length = 32 := by simp [byteV, he.l2]
  rw [built_struct (zc := List.replicate 64 (.int .u8 0) ++ [.int .u32 0]) (z := .agg (Array.replicate 64 (.int .u8 0) ++ #[.int .u32 0])) (places := [(0, 32), (32, 32), (64, 1)]) (by kernel_rfl) (by kernel_rfl) Try.underlying66 (by kernel_rfl)]
  rw [fill_step (off := 0) (size := 32) (vs := byteV e.1) rfl rfl h1 (by simp), fill_step (off := 32) (size := 32) (vs := byteV e.2.1) rfl rfl h2 (by rw [splice_length _ _ _ (by simp [h1])]; simp), fill_step (off := 64) (size := 1) (vs := [.int .u32 e.2.2]) rfl rfl rfl (by rw [splice_length _ _ _ (by rw [splice_length _ _ _ (by simp [h1])]; simp [h2]), splice_length _ _ _ (by simp [h1])]; simp)]
  rw [splice3 _ _ _ _ (by simp) h1 h2 rfl]
  rfl

/-- What Put leaves ahead of the last cut. -/
def putN (l : List Ent) (dh : List Int) (n : Int) (k : List Int) : List Ent := takeE l dh n ++ [(dh, k, n)]
theorem putE_eq {l : List Ent} {dh k : List Int} {n : Int} (hl : l.length ≤ 40) : putE l dh n k = if 40 < (putN l dh n k).length then (putN l dh n k).drop 1 else putN l dh n k := by
  have ht := takeE_length l dh n
  unfold putE putN
  rw [List.length_append, List.length_singleton]
  by_cases h : 40 ≤ (takeE l dh n).length
  · rw [if_pos h, if_pos (by omega), List.eraseIdx_zero, List.drop_append_of_le_length (by omega)]
    cases takeE l dh n <;> simp
  · rw [if_neg h, if_neg (by omega)]
set_option maxRecDepth 20000 in
set_option maxHeartbeats 1600000 in
theorem refPut_walk {w : World} {g cap : Nat} {a : Option Addr} {l : List Ent} (h : IsSk w g a cap l) (hl : l.length ≤ 40) (dh k : List Int) (n : Int) (hw : WfE (dh, k, n)) :
    Calls Try.prog 24 #[.pointer (some ⟨g, 0, none⟩), keyV dh, .int .u32 n, keyV k] w (RefPost (.tuple #[]) g a (putE l dh n k) w) := by
  have hV := ((Has.nil w).cons (byteV dh) 37 rfl).cons (byteV k) 37 (n := w.heap.size + 1) (by simp [size_alloc'])
  have hk : Keeps Nil w ((w.alloc (.cells (byteV dh).toArray 37)).alloc (.cells (byteV k).toArray 37)) := ((Keeps.refl Nil w).alloc _).alloc _
  have h1 := h.keep0 hk
  have HT := Lib.hid (refTake_walk h1 (by omega) dh n hw.l1 hw.b1)
  have hlk : (byteV dh).length = 32 := by simp [byteV]; exact hw.l1
  have hlk2 : (byteV k).length = 32 := by simp [byteV]; exact hw.l2
  have HB := Lib.hid (And.intro (hV.at 1 rfl) (And.intro hlk (And.intro (hV.at 0 rfl) hlk2)))
  have hgw := h.obj.lt
  have HPE := Lib.hid (And.intro (putE_eq (dh := dh) (k := k) (n := n) hl) hw)
  have htl := takeE_length l dh n
  have haw := h.ents.lt
  clear hV hlk hlk2 h
  go_enter Try.func24, Try.ntmps24
  go_wp2_with (refine wpl_load rfl 37 _ rfl w.heap.size rfl HB.out.1 _ Try.undKey rfl (by rw [HB.out.2.1]; exact Try.infoKey) ?_)
  refine HT.out.mono ?_
  rintro r w2 ⟨a2, cap2, rfl, h2, hk2, hf2⟩
  have hgd : w.heap.size ≤ w.heap.size := Nat.le_refl _
  have hgk : w.heap.size ≤ w.heap.size + 1 := by omega
  have hdk : w.heap.size ≠ w.heap.size + 1 := by omega
  have hB1 := HB.out.1.keep hk2 (fun e => by have : w.heap.size = g := e; omega)
  have hB2 := HB.out.2.2.1.keep hk2 (fun e => by have : w.heap.size + 1 = g := e; omega)
  have hK2 := hk.nil.trans hk2
  have hf2' : ∀ x, blkOf a2 x → blkOf a x ∨ w.heap.size ≤ x := fun x hx => (hf2 x hx).imp id (fun e => Nat.le_trans hk.size e)
  have H2 := Lib.hid (And.intro h2 (And.intro hK2 hf2'))
  have HBB := Lib.hid (And.intro hB1 (And.intro HB.out.2.1 (And.intro hB2 HB.out.2.2.2)))
  have c0 := h2.obj.cell 0 rfl
  have hcp2 := h2.ents.c
  have hmx2 := h2.ents.m
  have hm2 : (takeE l dh n).length ≤ 40 := by omega
  have HPN : Hid (putN l dh n k = takeE l dh n ++ [(dh, k, n)]) := Lib.hid rfl
  generalize takeE l dh n = m at *
  generalize w.heap.size + 1 = gk at *
  clear HT HB hk h1 h2 hk2 hf2 hB1 hB2 hK2 hf2' htl haw
  go_wp2_with (refine wpl_bs0 rfl 47 66 rfl Try.underlying47 Try.isDe 65 ?_)
  intro w3 ho3 hk3
  replace c0 := hk3.cell c0 (fun h => h)
  obtain ⟨g3, hg3⟩ : ∃ g3, g3 = w2.heap.size := ⟨_, rfl⟩
  have HG3 : Hid (w2.heap.size ≤ g3) := Lib.hid (Nat.le_of_eq hg3.symm)
  have HK23 := Lib.hid hk3
  have HO3 := Lib.hid ho3
  have hes := (H2.out.1.ents.keep hk3 (fun _ _ h => h)).src H2.out.1.wf
  have HS := Lib.hid hes
  rw [← hg3] at HO3 ⊢
  clear ho3 hk3 hes hg3
  generalize hML : m.length = M at *
  have HML := Lib.hid hML
  clear hML
  go_wp2_with (at_builtin; go_must (refine wpl_append rfl _ _ 47 rfl 66 65 68 Try.underlying47 Try.infoDe0 (by omega) (some ⟨g3, 0, none⟩) 0 0 [] rfl HO3.out a2 M cap2 (entsV m) rfl HS.out (by unfold maxLen; omega) (by omega) ?_))
  intro a4 c4 w4 ho4 hk4 hf4 _
  have hg3 : w2.heap.size ≤ g3 := HG3.out
  have hf4v : ∀ x, blkOf a4 x → w2.heap.size ≤ x := fun x hx => by
    rcases hf4 x hx with h' | h'
    · rw [(blkOf_some _ _ _ _).1 h']; exact hg3
    · have := HK23.out.size; omega
  have hk24 : Keeps Nil w2 w4 := HK23.out.step hk4 (fun x hx => .inr (by rw [(blkOf_some _ _ _ _).1 hx]; exact hg3))
  have HK24 := Lib.hid hk24
  have HBB4 := Lib.hid (And.intro (HBB.out.1.keep0 hk24) (And.intro HBB.out.2.1 (And.intro (HBB.out.2.2.1.keep0 hk24) HBB.out.2.2.2)))
  obtain ⟨wE, gE, hgE, hbE, hwE, hkE⟩ := alloc1 w4 (entV (dh, k, n)) 66
  have hsE : Src wE (some ⟨gE, 0, none⟩) 1 1 65 (entV (dh, k, n)) := ⟨by have := HPE.out.2.len; omega, oneCell_entV _, .inr ⟨_, rfl, fun j u hu => by rw [Addr.add_lit, Nat.zero_add]; exact hbE.cell j hu⟩⟩
  have hoE := ho4.keep0 hkE
  have HE := Lib.hid (And.intro hsE hoE)
  have HWE : Hid (w4.alloc (.cells (entV (dh, k, n)).toArray 66) = wE) := Lib.hid hwE.symm
  have HGE := Lib.hid hgE.symm
  have HF4 := Lib.hid (And.intro hf4v hkE)
  have c0E := ((H2.out.1.keep0 hk24).obj.keep0 hkE).cell 0 rfl
  have z0E := ((H2.out.1.keep0 hk24).obj.keep0 hkE).frozen 0
  rw [HML.out] at c0E
  have hbe : Try.prog.built 66 [(0, .agg (byteV dh).toArray), (1, .agg (byteV k).toArray), (2, .int .u32 n)] = some (entV (dh, k, n)).toArray := Try.builtDe HPE.out.2
  have HBE := Lib.hid hbe
  have hcl : (.agg (entV (dh, k, n)).toArray : Value).cells = (entV (dh, k, n)).toArray := rfl
  have HCL := Lib.hid hcl
  have HWL := Lib.hid HPE.out.2.len
  clear ho4 hk4 hf4 hf4v hk24 hsE hoE hgE hbE hwE hkE HO3 HS hbe hcl c0
  go_wp2_with (first
    | (refine wpl_load rfl 37 _ rfl w.heap.size rfl HBB4.out.1 _ Try.undKey rfl (by rw [HBB4.out.2.1]; exact Try.infoKey) ?_)
    | (refine wpl_load rfl 37 _ rfl gk rfl HBB4.out.2.2.1 _ Try.undKey rfl (by rw [HBB4.out.2.2.2]; exact Try.infoKey) ?_)
    | (refine wpl_build rfl 66 _ rfl (entV (dh, k, n)) _ HBE.out (by simp [Act.eval, Act.put]) ?_)
    | (refine wpl_bsOne rfl 47 66 _ rfl (entV (dh, k, n)) (.agg (entV (dh, k, n)).toArray) HCL.out 65 Try.underlying47 (by kernel_rfl) (by omega) (by omega) HWL.out (by simp [Act.eval, Act.put]) ?_; rw [HWE.out, HGE.out])
    | (at_builtin; go_must (refine wpl_append rfl _ _ 47 rfl 66 65 68 Try.underlying47 Try.infoDe0 (by omega) a4 c4 M _ rfl HE.out.2 (some ⟨gE, 0, none⟩) 1 1 (entV (dh, k, n)) rfl HE.out.1 (by unfold maxLen; omega) (by omega) ?_)))
  intro a5 c5 w5 ho5 hk5 hf5 _
  have hf5v : ∀ x, blkOf a5 x → w2.heap.size ≤ x := fun x hx => by
    rcases hf5 x hx with h' | h'
    · exact HF4.out.1 x h'
    · have := HK24.out.size; have := HF4.out.2.size; omega
  have hk25 : Keeps Nil w2 w5 := (HK24.out.trans HF4.out.2).step hk5 (fun x hx => .inr (HF4.out.1 x hx))
  have hlt : (putN l dh n k).length = M + 1 := by rw [HPN.out, List.length_append, HML.out]; rfl
  have hwt : ∀ e ∈ putN l dh n k, WfE e := by
    rw [HPN.out]
    intro e he
    rcases List.mem_append.1 he with h' | h'
    · exact H2.out.1.wf e h'
    · rw [List.mem_singleton.1 h']; exact hw
  have hin : entsV m ++ entV (dh, k, n) = entsV (putN l dh n k) := by rw [HPN.out, entsV_append]; simp [entsV]
  rw [hin, ← hlt] at ho5
  have hg2 := H2.out.1.obj.lt
  have hput := H2.out.1.put hk25 (EntsAt.of_own ho5) (fun e => by have := hf5v g e; omega) hwt
  have c5g := (H2.out.1.keep0 hk25).obj.cell 0 rfl
  have z5g := (H2.out.1.keep0 hk25).obj.frozen 0
  obtain ⟨b5, hb5, _, _⟩ := ho5.some (by omega)
  subst hb5
  have h5m := ho5.2.2.1
  have h5c := ho5.2.1
  unfold maxLen at h5m
  rw [hlt] at hput h5c
  rw [HML.out] at c5g
  have hfar : ∀ x, blkOf (some ⟨b5, 0, none⟩) x → blkOf a x ∨ w.heap.size ≤ x := fun x hx => .inr (by have := hf5v x hx; have := H2.out.2.1.size; omega)
  have hPE := HPE.out.1
  rw [hlt] at hPE
  have HF := Lib.hid (And.intro hput (And.intro hfar (And.intro hwt hlt)))
  have c6 := hput.1.obj.cell 0 rfl
  have z6 := hput.1.obj.frozen 0
  rw [hlt] at c6
  clear ho5 hk5 hf5 hf5v hk25 hlt hwt hin hput hg2 HE HF4 HBB4 hfar c0E z0E HPE hw
  by_cases h40 : 40 < M + 1
  · rw [if_pos h40] at hPE
    have h40i : (40 : Int) < ((M : Int) + 1) := by omega
    have hc1 : ¬ c5 = 1 := by omega
    have hde := HF.out.1.1.ents.drop HF.out.2.2.1 1 (by rw [HF.out.2.2.2]; omega)
    have hdl : ((putN l dh n k).drop 1).length = M := by rw [List.length_drop, HF.out.2.2.2]; rfl
    have hput2 := HF.out.1.1.put (Keeps.refl Nil _) hde (fun e => HF.out.1.1.ne (by rw [blkOf_some] at e ⊢; exact e)) (fun e he => HF.out.2.2.1 e (List.mem_of_mem_drop he))
    rw [hdl] at hput2
    have HG := Lib.hid (And.intro hput2 hPE)
    have HK2 := Lib.hid (H2.out.2.1.trans HF.out.1.2)
    clear hde hdl hput2 hPE
    obtain ⟨w6, hw6⟩ : ∃ w6, w5.setCell ⟨g, 0, none⟩ (.slice (some ⟨b5, 0, none⟩) (M + 1) c5) = w6 := ⟨_, rfl⟩
    have HW6 := Lib.hid hw6
    rw [hw6] at HF HG HK2 c6 z6
    clear hw6
    go_wp2_with fail
    go_end0
    rw [show (65 : Nat) = 0 + 1 * 65 from rfl, HW6.out]
    exact ⟨_, _, rfl, by rw [HG.out.2]; exact HG.out.1.1, HK2.out.trans HG.out.1.2, fun x hx => HF.out.2.1 x (by rw [blkOf_some] at hx ⊢; exact hx)⟩
  · rw [if_neg h40] at hPE
    have h40i : ¬ (40 : Int) < ((M : Int) + 1) := by omega
    have HG := Lib.hid hPE
    clear hPE
    go_wp2_with fail
    go_end0
    exact ⟨_, _, rfl, by rw [HG.out]; exact HF.out.1.1, H2.out.2.1.trans HF.out.1.2, HF.out.2.1⟩
end Go.Proofs.Ytokminiendnhoaa
