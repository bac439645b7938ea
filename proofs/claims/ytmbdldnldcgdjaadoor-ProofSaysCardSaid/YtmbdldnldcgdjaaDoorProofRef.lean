/-
  The document's paths; how long a path is; whether two lists of digests are the same.
-/
import Derived.Test.YtmbdldnldcgdjaaDoorProofPath
namespace Go.Proofs.YtmbdldnldcgdjaaDoor
set_option linter.unusedSimpArgs false
set_option linter.unusedVariables false
open Go.RowKit

def RPathP (w : World) (L : List (List Int)) (e : Ending) (w' : World) : Prop :=
  ∃ (a : Option Addr) (cap : Nat), e = .returned (.tuple #[.slice a L.length cap, .bool true]) ∧ OwnH w' a cap L ∧ Keeps Nil w w' ∧ (∀ k, blkOf a k → w.heap.size ≤ k)
set_option maxRecDepth 20000 in
set_option maxHeartbeats 1600000 in
/-- courierref16.Path of a leaf that is there. -/
theorem refPath_walk : ∀ (n : Nat) (i : Nat) {w : World} {a : Option Addr} {cap : Nat} {l : List (List Int)}, l.length = n → Hs w a l → n ≤ cap → cap ≤ 9223372036854775807 → i < n →
    Calls Tryd.prog 14 #[.int .i64 i, .slice a n cap] w (RPathP w (pathL i l)) := fun n => by
  induction n using Nat.strongRecOn with
  | _ n ih =>
    intro i w a cap l hn h hc hc9 hi9
    have hm := h.most
    have hi0 : (0 : Int) ≤ i := by omega
    have hi1 : (i : Int) < n := by omega
    by_cases h1 : n < 2
    · have hP := pathL_none (i := i) (l := l) (by omega)
      have h1' : (n : Int) = 1 := by omega
      have h1'' : n = 1 := by omega
      subst h1''
      clear ih
      rw [hP]
      go_enter Tryd.func14, Tryd.ntmps14
      go_wp2_with fail
      go_ret2
      exact ⟨none, 0, rfl, OwnH.nil _, Keeps.refl _ _, fun k hk => (blkOf_none k hk).elim⟩
    · have hs1 := splitN_pos (n := n) (by omega)
      have hs2 := splitN_lt (n := n) (by omega)
      obtain ⟨b, off, ha, hb, _⟩ := h.rng (by omega)
      subst ha
      have HS := Lib.hid (refSplit_walk (n : Int) w (by omega) (by omega))
      rw [show ((n : Int)).toNat = n by omega] at HS
      have hPl := fun hi => pathL_left (i := i) (l := l) (by omega) hi
      have hPr := fun hi => pathL_right (i := i) (l := l) (by omega) hi
      rw [hn] at hPl hPr
      have hT := h.take (splitN n)
      have hD := h.drop (splitN n)
      rw [Addr.add_lit] at hD
      have hlT : (l.take (splitN n)).length = splitN n := by rw [List.length_take]; omega
      have hlD : (l.drop (splitN n)).length = n - splitN n := by rw [List.length_drop]; omega
      generalize l.take (splitN n) = lT at *
      generalize l.drop (splitN n) = lD at *
      generalize splitN n = k at *
      have hn0 : (2 : Int) ≤ n := by omega
      have hn1 : ¬ (n : Int) = 1 := by omega
      have hnq : ((n : Int) == 1) = false := by simpa using hn1
      have hk0 : (0 : Int) ≤ k := by omega
      have hk1 : (k : Int) ≤ n := by omega
      have hk2 : (k : Int) ≤ cap := by omega
      have hk3 : (n : Int) ≤ cap := by omega
      have hn9 : n ≤ 1000000 := by omega
      have HI := Lib.hid ih
      have HLL := Lib.hid (And.intro hlT hlD)
      have hr0 := hD
      have hkc : ¬ cap = k := by omega
      clear ih hlT hlD h hn hm h1 hn1 hD hb
      by_cases hik : i < k
      · have HPL := Lib.hid (hPl hik)
        have hik' : (i : Int) < k := by omega
        clear hPl hPr
        have hq := hT
        have hr' := hr0
        clear hT hr0
        go_enter Tryd.func14, Tryd.ntmps14
        go_wp2_with fail
        refine HS.out.mono ?_
        rintro e w1 ⟨rfl, rfl⟩
        clear HS
        go_wp2_with fail
        refine (HI.out (k) (by omega) (i) HLL.out.1 hq (by omega) (by omega) (by omega)).mono ?_
        rintro e w2 ⟨a2, c2, rfl, ho2, qk, hf2⟩
        have hr2 := hr'.keep0 qk
        have hf3 : ∀ k, blkOf a2 k → w.heap.size ≤ k := fun k hk => hf2 k hk
        have HKB := Lib.hid qk
        clear hq qk hf2 hr'
        generalize hLP : (pathL (i) lT) = LP at *
        generalize hnP : LP.length = nP at *
        have hnP2 : nP ≤ 1000000 := by rw [← hnP, ← hLP, pathL_len (k) _ _ HLL.out.1]; have := depthN_le (k) (i); omega
        have HP := Lib.hid hnP
        unfold OwnH at ho2
        rw [hnP] at ho2
        clear hnP
        go_wp2_with fail
        refine (refRoot_walk (n - k) HLL.out.2 hr2 (by omega) (by omega)).mono ?_
        rintro e w3 ⟨rfl, qk⟩
        have hX := rootL_is hr2.are
        have hb := Blk.new w3 (byteV (rootL lD)) 26
        have hka := (Keeps.refl Nil w3).alloc (.cells (byteV (rootL lD)).toArray 26)
        replace ho2 := (ho2.keep0 qk).keep0 hka
        replace HKB := Lib.hid ((HKB.out.trans qk).trans hka)
        have hsrc := src_hash hb hX.1
        have hXl : (byteV (rootL lD)).length = 32 := by rw [byteV_len]; exact hX.1
        clear hka qk hr2 hb hX
        unfold keyV
        go_wp2_with (first | (refine wpl_bsOne rfl 24 26 _ rfl (byteV (rootL lD)) (.agg (byteV (rootL lD)).toArray) rfl 32 Tryd.underlying24 Tryd.infoHhP2 (by omega) (by omega) hXl (by simp [Act.eval]) ?_) | (at_builtin; go_must (refine wpl_append rfl _ _ 24 rfl 26 32 32 Tryd.underlying24 Tryd.infoHhP (by omega) a2 c2 nP _ rfl ho2 (some ⟨w3.heap.size, 0, none⟩) 1 1 (byteV (rootL lD)) rfl hsrc (by unfold maxLen; omega) (by omega) ?_)))
        intro a5 c5 w5 ho5 qk hg5 _
        have hwl := HKB.out.size
        rw [size_alloc'] at hwl
        have hK5 : Keeps Nil w w5 := HKB.out.step qk (fun k hk => .inr (hf3 k hk))
        have ho6 := OwnH.snoc HP.out ho5
        have hg6 : ∀ k, blkOf a5 k → w.heap.size ≤ k := fun k hk => by
          rcases hg5 k hk with h1 | h1
          · exact hf3 _ h1
          · rw [h1]; have := HKB.out.size; simp only [size_alloc'] at this ⊢; have := hf3; first | exact hwl | omega
        clear ho5 qk hg5 hsrc hXl
        go_wp2_with fail
        go_ret2
        rw [HPL.out]
        exact ⟨a5, c5, by rw [List.length_append, HP.out]; rfl, ho6, hK5, hg6⟩
      · have HPL := Lib.hid (hPr (by omega))
        have hik' : ¬ (i : Int) < k := by omega
        have hik2 : (i : Int) - k = ((i - k : Nat) : Int) := by omega
        have HIK := Lib.hid hik2
        clear hPl hPr hik2
        have hq := hr0
        have hr' := hT
        clear hT hr0
        go_enter Tryd.func14, Tryd.ntmps14
        go_wp2_with fail
        refine HS.out.mono ?_
        rintro e w1 ⟨rfl, rfl⟩
        clear HS
        go_wp2_with fail
        rw [HIK.out]
        go_wp2_with fail
        refine (HI.out (n - k) (by omega) (i - k) HLL.out.2 hq (by omega) (by omega) (by omega)).mono ?_
        rintro e w2 ⟨a2, c2, rfl, ho2, qk, hf2⟩
        have hr2 := hr'.keep0 qk
        have hf3 : ∀ k, blkOf a2 k → w.heap.size ≤ k := fun k hk => hf2 k hk
        have HKB := Lib.hid qk
        clear hq qk hf2 hr'
        generalize hLP : (pathL (i - k) lD) = LP at *
        generalize hnP : LP.length = nP at *
        have hnP2 : nP ≤ 1000000 := by rw [← hnP, ← hLP, pathL_len (n - k) _ _ HLL.out.2]; have := depthN_le (n - k) (i - k); omega
        have HP := Lib.hid hnP
        unfold OwnH at ho2
        rw [hnP] at ho2
        clear hnP
        go_wp2_with fail
        refine (refRoot_walk (k) HLL.out.1 hr2 (by omega) (by omega)).mono ?_
        rintro e w3 ⟨rfl, qk⟩
        have hX := rootL_is hr2.are
        have hb := Blk.new w3 (byteV (rootL lT)) 26
        have hka := (Keeps.refl Nil w3).alloc (.cells (byteV (rootL lT)).toArray 26)
        replace ho2 := (ho2.keep0 qk).keep0 hka
        replace HKB := Lib.hid ((HKB.out.trans qk).trans hka)
        have hsrc := src_hash hb hX.1
        have hXl : (byteV (rootL lT)).length = 32 := by rw [byteV_len]; exact hX.1
        clear hka qk hr2 hb hX
        unfold keyV
        go_wp2_with (first | (refine wpl_bsOne rfl 24 26 _ rfl (byteV (rootL lT)) (.agg (byteV (rootL lT)).toArray) rfl 32 Tryd.underlying24 Tryd.infoHhP2 (by omega) (by omega) hXl (by simp [Act.eval]) ?_) | (at_builtin; go_must (refine wpl_append rfl _ _ 24 rfl 26 32 32 Tryd.underlying24 Tryd.infoHhP (by omega) a2 c2 nP _ rfl ho2 (some ⟨w3.heap.size, 0, none⟩) 1 1 (byteV (rootL lT)) rfl hsrc (by unfold maxLen; omega) (by omega) ?_)))
        intro a5 c5 w5 ho5 qk hg5 _
        have hwl := HKB.out.size
        rw [size_alloc'] at hwl
        have hK5 : Keeps Nil w w5 := HKB.out.step qk (fun k hk => .inr (hf3 k hk))
        have ho6 := OwnH.snoc HP.out ho5
        have hg6 : ∀ k, blkOf a5 k → w.heap.size ≤ k := fun k hk => by
          rcases hg5 k hk with h1 | h1
          · exact hf3 _ h1
          · rw [h1]; have := HKB.out.size; simp only [size_alloc'] at this ⊢; have := hf3; first | exact hwl | omega
        clear ho5 qk hg5 hsrc hXl
        go_wp2_with fail
        go_ret2
        rw [HPL.out]
        exact ⟨a5, c5, by rw [List.length_append, HP.out]; rfl, ho6, hK5, hg6⟩
end Go.Proofs.YtmbdldnldcgdjaaDoor
