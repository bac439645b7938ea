/-
  Package skip's Store: All, Load.
-/
import Derived.Test.YtokminiendnhoaaSkipPut
namespace Go.Proofs.Ytokminiendnhoaa
set_option linter.unusedSimpArgs false
set_option linter.unusedVariables false
open Go.RowKit

/-- Entries in new memory. -/
def FreshE (w : World) (l : List Ent) (e : Ending) (w' : World) : Prop :=
  ∃ a cap, e = .returned (.slice a l.length cap) ∧ Own w' 42 65 a cap l.length (entsV l) ∧ Keeps Nil w w' ∧ (∀ k, blkOf a k → w.heap.size ≤ k)
set_option maxRecDepth 20000 in
set_option maxHeartbeats 800000 in
theorem cloneE_walk {w : World} {a : Option Addr} {cap : Nat} {l : List Ent} (h : Own w 42 65 a cap l.length (entsV l)) (hl : l.length ≤ 1000) :
    Calls Try.prog 28 #[.slice a l.length cap] w (FreshE w l) := by
  cases a with
  | none =>
    obtain ⟨_, _, _, h4⟩ := h
    rcases h4 with ⟨_, h0, rfl⟩ | ⟨_, _, h4, _⟩
    · have hn := fun w => Lib.run_eql_slice_nil (P := Try.prog) w 32 42 none 0 0 0 0 Try.underlying32
      have hl0 : l = [] := List.eq_nil_of_length_eq_zero h0
      subst hl0
      simp only [List.length_nil]
      go_enter Try.func28, Try.ntmps28
      go_wp2
      go_ret
      exact ⟨none, 0, rfl, Own.nil _ _ _, Keeps.refl _ _, fun k hk => (blkOf_none k hk).elim⟩
    · cases h4
  | some ad =>
    have hn := fun w => Lib.run_eql_slice_nil (P := Try.prog) w 32 42 (some ad) l.length cap 0 0 Try.underlying32
    have HS := Lib.hid (fun w' (hk : Keeps Nil w w') => (h.keep0 hk).src (oneCell_entsV l))
    clear h
    go_enter Try.func28, Try.ntmps28
    go_wp2_with (refine wpl_bs0 rfl 32 42 rfl Try.underlying32 (by kernel_rfl) 65 ?_)
    intro w1 hown1 hk1
    go_wp2_with (at_builtin; refine wpl_append rfl _ _ 32 rfl 42 65 68 Try.underlying32 Try.infoEnt0 (by omega) _ 0 0 [] rfl hown1 _ l.length cap (entsV l) rfl (HS.out w1 hk1) (by unfold maxLen; omega) (by omega) ?_)
    intro a' cap' w2 hown2 hk2 hf2 _
    go_wp2
    go_ret
    refine ⟨a', cap', rfl, ?_, ?_, ?_⟩
    · simpa using hown2
    · exact hk1.step hk2 (fun i hi => .inr (by rw [(blkOf_some _ _ _ _).1 hi]; exact Nat.le_refl _))
    · intro k hk
      rcases hf2 k hk with h' | h'
      · rw [(blkOf_some _ _ _ _).1 h']; exact Nat.le_refl _
      · rw [h']; exact hk1.size
set_option maxRecDepth 20000 in
set_option maxHeartbeats 400000 in
theorem all_walk {w : World} {g cap : Nat} {a : Option Addr} {l : List Ent} (h : IsSt 34 42 w g a cap l) (hl : l.length ≤ 1000) :
    Calls Try.prog 19 #[.pointer (some ⟨g, 0, none⟩)] w (FreshE w l) := by
  have c0 := h.obj.cell 0 (v := .slice a l.length cap) rfl
  have HC := Lib.hid (cloneE_walk h.arr hl)
  go_enter Try.func19, Try.ntmps19
  go_wp2_with fail
  refine HC.out.mono ?_
  rintro e w2 ⟨a2, c2, rfl, h2⟩
  go_wp2_with fail
  go_ret
  exact ⟨a2, c2, rfl, h2⟩
/-- What is loaded: put one behind the other. -/
def loadE (l : List Ent) : List Ent := l.foldl (fun acc e => putE acc e.1 e.2.2 e.2.1) []
theorem putE_length (l : List Ent) (dh : List Int) (n : Int) (k : List Int) (h : l.length ≤ 40) : (putE l dh n k).length ≤ 40 := by
  have := takeE_length l dh n
  unfold putE
  split
  · rw [List.length_append, List.length_eraseIdx, if_pos (by omega)]; simp; omega
  · simp; omega
theorem loadE_length (l : List Ent) : (loadE l).length ≤ 40 := by
  have : ∀ (l acc : List Ent), acc.length ≤ 40 → (l.foldl (fun acc e => putE acc e.1 e.2.2 e.2.1) acc).length ≤ 40 := by
    intro l
    induction l with
    | nil => exact fun _ h => h
    | cons e l ih => exact fun acc h => ih _ (putE_length acc _ _ _ h)
  exact this l [] (Nat.zero_le _)
set_option maxRecDepth 100000 in
set_option maxHeartbeats 1600000 in
theorem load_walk {w : World} {g cap cap2 : Nat} {a a2 : Option Addr} {l r : List Ent} (h : IsSt 34 42 w g a cap l) (h2 : Own w 42 65 a2 cap2 r.length (entsV r)) (hw : ∀ e ∈ r, WfE e) (hne : ¬ blkOf a2 g) (hr : r.length ≤ 1000) :
    Calls Try.prog 23 #[.pointer (some ⟨g, 0, none⟩), .slice a2 r.length cap2] w (PutPost 34 42 g a (loadE r) w) := by
  have z0 := h.obj.frozen 0
  have c0 := h.obj.cell 0 (v := .slice a l.length cap) rfl
  go_enter Try.func23, Try.ntmps23
  go_wp2_with fail
  have h0 : IsSt 34 42 (w.setCell ⟨g, 0, none⟩ (.slice none 0 0)) g none 0 [] := ⟨h.obj.set 0 _, Own.nil _ _ _, blkOf_none _, fun e he => by cases he⟩
  have hk0 : Keeps (One g) w (w.setCell ⟨g, 0, none⟩ (.slice none 0 0)) := (Keeps.refl (One g) w).setOne 0 _
  have hglt := h.obj.lt
  clear z0 c0
  generalize w.setCell ⟨g, 0, none⟩ (.slice none 0 0) = wz at *
  obtain ⟨fs, hu⟩ := Try.undEnt
  have HU := Lib.hid hu
  clear hu
  have hm := h2.2.2.1
  have hcp := h2.2.1
  unfold maxLen at hm
  have hpg : ∀ k, One g k → stOf g a k := fun k hk => .inl hk
  obtain ⟨zc, hzv, hzl⟩ : ∃ zc : List Value, (∀ w, (zeroValue 42).run Try.prog w = .ok (.agg zc.toArray) w) ∧ zc.length = 65 := ⟨List.replicate 64 (.int .u8 0) ++ [.int .u32 0], fun w => by kernel_rfl, rfl⟩
  have HZ := Lib.hid hzl
  clear hzl
  go_loopw [11] (fun v wr => ∃ (j : Nat) (a' : Option Addr) (cap' : Nat), j ≤ r.length ∧ v = .int .i64 j ∧ IsSt 34 42 wr g a' cap' (loadE (r.take j)) ∧ Hid (Keeps (One g) w wr) ∧ Hid (∀ k, stOf g a' k → k = g ∨ w.heap.size ≤ k)) (fun v _ => r.length - (intOf v).toNat)
  case atStart => exact ⟨0, none, 0, Nat.zero_le _, rfl, h0, hk0, fun k hk => by
    rcases hk with h | h
    · exact .inl h
    · exact (blkOf_none k h).elim⟩
  case round =>
    obtain ⟨j, a', cap', hj, rfl, h1, hk1, hf1⟩ := hrel
    clear h0 hk0
    by_cases hlt : j < r.length
    · obtain ⟨e, he⟩ : ∃ e, r[j]? = some e := ⟨_, List.getElem?_eq_getElem hlt⟩
      have hwe := hw e (List.mem_of_getElem? he)
      have h2r : Own wr 42 65 a2 cap2 r.length (entsV r) := h2.keep hk1.out (fun k hk e => hne (by rw [← show k = g from e]; exact hk))
      obtain ⟨b, ha2, hb, hrr⟩ := own_ent h2r hw he
      have hj0 : (0 : Int) ≤ j := by omega
      have hj1 : (j : Int) < r.length := by omega
      have hlen := hwe.len
      have hl1 : (byteV e.1).length = 32 := by simp [byteV, hwe.l1]
      have hl2 : (byteV e.2.1).length = 32 := by simp [byteV, hwe.l2]
      have ho2e := h2r
      have hsn : r.take (j + 1) = r.take j ++ [e] := by
        rw [List.take_succ_eq_append_getElem hlt]
        rw [List.getElem?_eq_getElem hlt] at he
        rw [Option.some.inj he]
      have hld : loadE (r.take (j + 1)) = putE (loadE (r.take j)) e.1 e.2.2 e.2.1 := by rw [hsn]; simp [loadE, List.foldl_append]
      have hll := loadE_length (r.take j)
      have HX := Lib.hid (And.intro hrr (And.intro hlen (And.intro hl1 (And.intro hl2 (And.intro hld ho2e)))))
      subst ha2
      clear h2 h2r hrr hlen hl1 hl2 hld hsn he ho2e
      generalize hR : r.length = R at *
      go_wp2_with (first | (refine wpl_load_at rfl 42 _ rfl b (j * 65) rfl (entV e) HX.out.1 _ HU.out rfl (by rw [HX.out.2.1]; exact Try.infoEnt) ?_) | (refine wpl_store rfl 42 _ _ rfl wr.heap.size rfl (entV e) rfl (Blk.new wr zc _) (by rw [HX.out.2.1]; exact HZ.out.symm) (by rw [HX.out.2.1]; exact Try.infoEnt) (oneCell_entV e) ?_))
      intro w3 hb3 hk3 hs3
      obtain ⟨hrr, hlen, hl1, hl2, hld, ho2e⟩ := HX.out
      have hgt : ∀ k, stOf g a' k → k < wr.heap.size := h1.lt
      have hks : Keeps Nil wr w3 := ((Keeps.refl Nil wr).alloc _).step hk3 (fun i hi => .inr (by rw [show i = wr.heap.size from hi]; exact Nat.le_refl _))
      have c64 := hb3.cell 64 (v := .int .u32 e.2.2) (by
        unfold entV
        rw [List.getElem?_append_right (by omega), List.getElem?_append_right (by omega), hl1, hl2]
        rfl)
      have hr0 : w3.rangeAt wr.heap.size 0 (byteV e.1) := hb3.rangeAt 0 (fun j v hv => by
        unfold entV
        rw [List.getElem?_append_left (by have := (List.getElem?_eq_some_iff.1 hv).1; omega)]
        simpa using hv)
      have hr32 : w3.rangeAt wr.heap.size 32 (byteV e.2.1) := hb3.rangeAt 32 (fun j v hv => by
        have hj := (List.getElem?_eq_some_iff.1 hv).1
        unfold entV
        rw [List.getElem?_append_right (by omega), hl1, List.getElem?_append_left (by omega)]
        rw [show 32 + j - 32 = j by omega]
        exact hv)
      have HP := Lib.hid (put_walk (h1.keep0 hks) (by omega) e.1 e.2.1 e.2.2 hwe)
      have HY := Lib.hid (And.intro hr0 (And.intro hr32 (And.intro hl1 (And.intro hl2 hld))))
      have hK3 := hk1.out.step hks (fun _ h => h.elim)
      clear hrr hlen hl1 hl2 hld hr0 hr32 HX ho2e hb3 hk3 hs3
      generalize hgs : wr.heap.size = gs at *
      go_wp2_with (first | (refine wpl_load_at rfl 37 _ rfl gs 0 rfl (byteV e.1) HY.out.1 _ Try.undKey rfl (by rw [HY.out.2.2.1]; exact Try.infoKey) ?_) | (refine wpl_load_at rfl 37 _ rfl gs 32 rfl (byteV e.2.1) HY.out.2.1 _ Try.undKey rfl (by rw [HY.out.2.2.2.1]; exact Try.infoKey) ?_))
      refine HP.out.mono ?_
      rintro x w4 ⟨a4, c4, rfl, h4, hk4, hf4⟩
      rw [← HY.out.2.2.2.2] at h4
      have hK4 : Keeps (One g) w w4 := hK3.step hk4 (fun i hi => by
        rcases hf1.out i hi with h | h
        · exact .inl h
        · exact .inr h)
      have hf5 : ∀ k, stOf g a4 k → k = g ∨ w.heap.size ≤ k := fun k hk => by
        rcases hf4 k hk with h | h
        · exact hf1.out k h
        · exact .inr (by have := hK3.size; omega)
      have HK := Lib.hid (And.intro hK4 hf5)
      clear hK4 hf5 hk4 hf4 HP HY
      go_wp2_with fail
      go_roundw
      case rel => first | exact ⟨j + 1, a4, c4, by omega, by go_num, h4, HK.out.1, HK.out.2⟩ | ((repeat apply Exists.intro); exact ⟨⟨j + 1, a4, c4, by omega, by go_num, h4, HK.out.1, HK.out.2⟩, rfl⟩)
      case measure => simp [intOf]; omega
    · obtain rfl : j = r.length := by omega
      rw [List.take_of_length_le (Nat.le_refl _)] at h1
      go_wp2_with fail
      go_end0
      refine ⟨a', cap', rfl, h1, hk1.out.mono hpg, fun k hk => ?_⟩
      rcases hf1.out k hk with h | h
      · exact .inl (.inl h)
      · exact .inr h
end Go.Proofs.Ytokminiendnhoaa
