/-
  Paths: the program's and the document's.
-/
import Derived.Test.YtmbdldnldcgdjaaDoorTreeRoot
import Derived.Test.YtmbdldnldcgdjaaDoorHashes
import Derived.Test.YtmbdldnldcgdjaaDoorProofPlain
import Derived.Test.YtmbdldnldcgdjaaDoorBin
namespace Go.Proofs.YtmbdldnldcgdjaaDoor
set_option linter.unusedSimpArgs false
set_option linter.unusedVariables false
open Go.RowKit

theorem Tryd.infoHhP : (Tryd.prog.info? 26).map (fun i => (i.zero.map (·.cells.size), i.size, i.bytes)) = some (some 32, 32, 32) := by kernel_rfl
theorem Tryd.infoHhP2 : (Tryd.prog.info? 26).map (fun i => (i.zero.map (·.cells.size), i.size)) = some (some 32, 32) := by kernel_rfl
/-- These digests, in a slice of its own. -/
def OwnH (w : World) (a : Option Addr) (cap : Nat) (L : List (List Int)) : Prop := Own w 26 32 a cap L.length (byteV L.flatten)
def PathP (w : World) (L : List (List Int)) (e : Ending) (w' : World) : Prop :=
  ∃ (a : Option Addr) (cap : Nat), e = .returned (.slice a L.length cap) ∧ OwnH w' a cap L ∧ Keeps Nil w w' ∧ (∀ k, blkOf a k → w.heap.size ≤ k)
theorem OwnH.nil (w : World) : OwnH w none 0 [] := Own.nil _ _ _
theorem OwnH.hs {w : World} {a : Option Addr} {cap : Nat} {L : List (List Int)} (h : OwnH w a cap L) (hl : AreH L) (hm : L.length ≤ 1000000) : Hs w a L := Hs.own h hl hm
theorem byteV_snoc (L : List (List Int)) (X : List Int) : byteV (L ++ [X]).flatten = byteV L.flatten ++ byteV X := by
  rw [List.flatten_append, show [X].flatten = X by simp]; exact List.map_append
theorem OwnH.snoc {w : World} {a : Option Addr} {cap : Nat} {L : List (List Int)} {X : List Int} {n : Nat} (hn : L.length = n) (h : Own w 26 32 a cap (n + 1) (byteV L.flatten ++ byteV X)) : OwnH w a cap (L ++ [X]) := by
  unfold OwnH
  rw [byteV_snoc, List.length_append, hn]
  exact h
set_option maxRecDepth 20000 in
set_option maxHeartbeats 1600000 in
/-- proof.path. -/
theorem path_walk : ∀ (n : Nat) (i : Nat) {w : World} {a : Option Addr} {cap : Nat} {l : List (List Int)}, l.length = n → Hs w a l → n ≤ cap → cap ≤ 9223372036854775807 → i ≤ 1000000 →
    Calls Tryd.prog 21 #[.int .i64 i, .slice a n cap] w (PathP w (pathL i l)) := fun n => by
  induction n using Nat.strongRecOn with
  | _ n ih =>
    intro i w a cap l hn h hc hc9 hi9
    by_cases h1 : n < 2
    · have hP := pathL_none (i := i) (l := l) (by omega)
      have h1' : (n : Int) < 2 := by omega
      clear ih
      rw [hP]
      go_enter Tryd.func21, Tryd.ntmps21
      go_wp2_with fail
      go_ret
      exact ⟨none, 0, rfl, OwnH.nil _, Keeps.refl _ _, fun k hk => (blkOf_none k hk).elim⟩
    · have hs1 := splitN_pos (n := n) (by omega)
      have hs2 := splitN_lt (n := n) (by omega)
      have hm := h.most
      obtain ⟨b, off, ha, hb, _⟩ := h.rng (by omega)
      subst ha
      have HS := Lib.hid (split_walk (n : Int) w (by omega) (by omega))
      rw [show ((n : Int)).toNat = n by omega] at HS
      have hPl := fun hi => pathL_left (i := i) (l := l) (by omega) hi
      have hPr := fun hi => pathL_right (i := i) (l := l) (by omega) hi
      rw [hn] at hPl hPr
      have hT := h.take (splitN n)
      have hD := h.drop (splitN n)
      rw [Addr.add_lit] at hD
      have hlT : (l.take (splitN n)).length = splitN n := by rw [List.length_take]; omega
      have hlD : (l.drop (splitN n)).length = n - splitN n := by rw [List.length_drop]; omega
      generalize l.take (splitN n) = lT at *
      generalize l.drop (splitN n) = lD at *
      generalize splitN n = k at *
      have hn0 : (2 : Int) ≤ n := by omega
      have hk0 : (0 : Int) ≤ k := by omega
      have hk1 : (k : Int) ≤ n := by omega
      have hk2 : (k : Int) ≤ cap := by omega
      have hk3 : (n : Int) ≤ cap := by omega
      have hn9 : n ≤ 1000000 := by omega
      have HI := Lib.hid ih
      have HLL := Lib.hid (And.intro hlT hlD)
      clear ih hlT hlD h hn hm h1
      by_cases hik : i < k
      · have HPL := Lib.hid (hPl hik)
        have hik' : (i : Int) < k := by omega
        clear hPl hPr
        go_enter Tryd.func21, Tryd.ntmps21
        go_wp2_with fail
        refine HS.out.mono ?_
        rintro e w1 ⟨rfl, rfl⟩
        clear HS
        go_wp2_with fail
        refine wp_region_held_drew (S := fun _ => True) (by kernel_rfl) trivial (fun hHeld => ?_)
        have hKB : Keeps Nil w w.drew := (Keeps.refl Nil w).drew
        have hq := hT.keep0 hKB
        have hgw : w.heap.size ≤ w.drew.heap.size := hKB.size
        replace hD := hD.keep0 hKB
        generalize w.drew = v0 at *
        refine takeL (i := 0) (v := _) rfl (by kernel_rfl) (by kernel_rfl) (by kernel_rfl) (fun _ _ _ h => h) (Or.inl ⟨by rfl, by intro w hSw; (try dsimp only at hSw); go_simp; try with_reducible rfl⟩) (by assumption) ?_
        try simp only [Act.put, List.setIfInBounds_toArray, List.set_cons_zero, List.set_cons_succ]
        refine takeL (i := 1) (v := _) rfl (by kernel_rfl) (by kernel_rfl) (by kernel_rfl) (fun _ _ _ h => h) (Or.inl ⟨by rfl, by intro w hSw; (try dsimp only at hSw); go_simp; try with_reducible rfl⟩) (by assumption) ?_
        try simp only [Act.put, List.setIfInBounds_toArray, List.set_cons_zero, List.set_cons_succ]
        refine takeL (i := 2) (v := _) rfl (by kernel_rfl) (by kernel_rfl) (by kernel_rfl) (fun _ _ _ h => h) (Or.inl ⟨by rfl, by intro w hSw; (try dsimp only at hSw); go_simp; try with_reducible rfl⟩) (by assumption) ?_
        try simp only [Act.put, List.setIfInBounds_toArray, List.set_cons_zero, List.set_cons_succ]
        refine takeL (i := 3) (v := _) rfl (by kernel_rfl) (by kernel_rfl) (by kernel_rfl) (fun _ _ _ h => h) (Or.inl ⟨by rfl, by intro w hSw; (try dsimp only at hSw); go_simp; try with_reducible rfl⟩) (by assumption) ?_
        try simp only [Act.put, List.setIfInBounds_toArray, List.set_cons_zero, List.set_cons_succ]
        refine takeL (i := 5) (v := _) rfl (by kernel_rfl) (by kernel_rfl) (by kernel_rfl) (fun _ _ _ h => h) (Or.inl ⟨by rfl, by intro w hSw; (try dsimp only at hSw); go_simp; try with_reducible rfl⟩) (by assumption) ?_
        try simp only [Act.put, List.setIfInBounds_toArray, List.set_cons_zero, List.set_cons_succ]
        refine takeL (i := 6) (v := _) rfl (by kernel_rfl) (by kernel_rfl) (by kernel_rfl) (fun _ _ _ h => h) (Or.inl ⟨by rfl, by intro w hSw; (try dsimp only at hSw); go_simp; try with_reducible rfl⟩) (by assumption) ?_
        try simp only [Act.put, List.setIfInBounds_toArray, List.set_cons_zero, List.set_cons_succ]
        refine takeL (i := 7) (v := _) rfl (by kernel_rfl) (by kernel_rfl) (by kernel_rfl) (fun _ _ _ h => h) (Or.inl ⟨by rfl, by intro w hSw; (try dsimp only at hSw); go_simp; try with_reducible rfl⟩) (by assumption) ?_
        try simp only [Act.put, List.setIfInBounds_toArray, List.set_cons_zero, List.set_cons_succ]
        have hr' : Hs v0 (if cap = k then some ⟨b, off, none⟩ else some ⟨b, off + k * 32, none⟩) lD := by rw [if_neg (by omega)]; exact hD
        generalize (if cap = k then (some ⟨b, off, none⟩ : Option Addr) else some ⟨b, off + k * 32, none⟩) = aD at *
        clear hD hT hb
        -- the part: lT of length k at Hq ; the other: lD of length n - k at Hr ; HPL : pathL i l = pathL i lT ++ [rootL lD]
        refine onlyL (i := 4) rfl (by kernel_rfl) (fun K hK => ?_)
        go_simp
        refine (HI.out (k) (by omega) (i) HLL.out.1 hq (by omega) (by omega) (by omega)).mono ?_
        rintro e w2 ⟨a2, c2, rfl, ho2, qk, hf2⟩
        have hr2 := hr'.keep0 qk
        replace hKB := hKB.trans qk
        have hf3 : ∀ k, blkOf a2 k → w.heap.size ≤ k := fun k hk => Nat.le_trans hgw (hf2 k hk)
        clear hq qk hf2 hr'
        generalize hLP : (pathL (i) lT) = LP at *
        generalize hnP : LP.length = nP at *
        have hnP2 : nP ≤ 1000000 := by rw [← hnP, ← hLP, pathL_len (k) _ _ HLL.out.1]; have := depthN_le (k) (i); omega
        have HP := Lib.hid hnP
        unfold OwnH at ho2
        rw [hnP] at ho2
        clear hnP
        refine (fun hHeld => hK _ _ hHeld ?_) (trivial)
        clear hK
        try simp only [Act.put, List.setIfInBounds_toArray, List.set_cons_zero, List.set_cons_succ]
        refine onlyL (i := 8) rfl (by kernel_rfl) (fun K hK => ?_)
        go_simp
        refine (root_walk (n - k) HLL.out.2 hr2 (by omega) (by omega)).mono ?_
        rintro e w3 ⟨rfl, qk⟩
        have hX := rootL_is hr2.are
        replace ho2 := ho2.keep0 qk
        replace hKB := hKB.trans qk
        clear qk hr2
        refine (fun hHeld => hK _ _ hHeld ?_) (trivial)
        clear hK
        try simp only [Act.put, List.setIfInBounds_toArray, List.set_cons_zero, List.set_cons_succ]
        refine onlyL (i := 9) rfl (by kernel_rfl) (fun K hK => ?_)
        refine step_bsOne rfl 24 26 _ rfl (byteV (rootL lD)) (.agg (byteV (rootL lD)).toArray) rfl 32 Tryd.underlying24 Tryd.infoHhP2 (by omega) (by omega) (by rw [byteV_len]; exact hX.1) (by simp [Act.eval, keyV]) ?_
        have hb := Blk.new w3 (byteV (rootL lD)) 26
        have hka := (Keeps.refl Nil w3).alloc (.cells (byteV (rootL lD)).toArray 26)
        replace ho2 := ho2.keep0 hka
        replace hKB := hKB.trans hka
        have hsrc := src_hash hb hX.1
        clear hka
        refine (fun hHeld => hK _ _ hHeld ?_) (trivial)
        clear hK
        try simp only [Act.put, List.setIfInBounds_toArray, List.set_cons_zero, List.set_cons_succ]
        generalize w3.alloc (.cells (byteV (rootL lD)).toArray 26) = w4 at *
        refine onlyL (i := 10) rfl (by kernel_rfl) (fun K hK => ?_)
        refine step_append rfl _ _ 24 rfl 26 32 32 Tryd.underlying24 Tryd.infoHhP (by omega) a2 c2 nP _ rfl ho2 ⟨w3.heap.size, 0, none⟩ 1 1 (byteV (rootL lD)) rfl hsrc (by omega) (by unfold maxLen; omega) (by omega) ?_
        intro g5 c5 w5 ho5 qk hg5
        have hwl := hKB.size
        have hK5 : Keeps Nil w w5 := hKB.step qk (fun k hk => .inr (hf3 k hk))
        have ho6 := OwnH.snoc HP.out ho5
        have hg6 : ∀ k, blkOf (some ⟨g5, 0, none⟩) k → w.heap.size ≤ k := fun k hk => by
          rw [(blkOf_some _ _ _ _).1 hk]
          rcases hg5 with h1 | h1
          · exact hf3 _ h1
          · rw [h1]; exact hwl
        clear ho5 qk hg5 hsrc hb
        refine (fun hHeld => hK _ _ hHeld ?_) (trivial)
        clear hK
        try simp only [Act.put, List.setIfInBounds_toArray, List.set_cons_zero, List.set_cons_succ]
        refine takeL (i := 11) (v := _) rfl (by kernel_rfl) (by kernel_rfl) (by kernel_rfl) (fun _ _ _ h => h) (Or.inl ⟨by rfl, by intro w hSw; (try dsimp only at hSw); go_simp; try with_reducible rfl⟩) (by assumption) ?_
        try simp only [Act.put, List.setIfInBounds_toArray, List.set_cons_zero, List.set_cons_succ]
        refine wpAnyH_done (by kernel_rfl) ?_ _
        go_wp2_with fail
        go_ret
        rw [HPL.out]
        exact ⟨some ⟨g5, 0, none⟩, c5, by rw [List.length_append, HP.out]; rfl, ho6, hK5, hg6⟩
      · have HPL := Lib.hid (hPr (by omega))
        have hik' : ¬ (i : Int) < k := by omega
        have hik2 : IntKind.i64.wrap ((i : Int) - k) = ((i - k : Nat) : Int) := by rw [IntKind.wrap_i64]; omega
        have HIK := Lib.hid hik2
        clear hPl hPr hik2
        go_enter Tryd.func21, Tryd.ntmps21
        go_wp2_with fail
        refine HS.out.mono ?_
        rintro e w1 ⟨rfl, rfl⟩
        clear HS
        have hi0 : (0 : Int) ≤ i := by omega
        have hi8 : (i : Int) ≤ 1000000 := by omega
        go_wp2_with fail
        refine wp_region_held_drew (S := fun _ => True) (by kernel_rfl) trivial (fun hHeld => ?_)
        have hKB : Keeps Nil w w.drew := (Keeps.refl Nil w).drew
        have hr' := hT.keep0 hKB
        have hgw : w.heap.size ≤ w.drew.heap.size := hKB.size
        replace hD := hD.keep0 hKB
        generalize w.drew = v0 at *
        refine takeL (i := 0) (v := _) rfl (by kernel_rfl) (by kernel_rfl) (by kernel_rfl) (fun _ _ _ h => h) (Or.inl ⟨by rfl, by intro w hSw; (try dsimp only at hSw); go_simp; try with_reducible rfl⟩) (by assumption) ?_
        try simp only [Act.put, List.setIfInBounds_toArray, List.set_cons_zero, List.set_cons_succ]
        refine takeL (i := 1) (v := _) rfl (by kernel_rfl) (by kernel_rfl) (by kernel_rfl) (fun _ _ _ h => h) (Or.inl ⟨by rfl, by intro w hSw; (try dsimp only at hSw); go_simp; try with_reducible rfl⟩) (by assumption) ?_
        try simp only [Act.put, List.setIfInBounds_toArray, List.set_cons_zero, List.set_cons_succ]
        refine takeL (i := 2) (v := _) rfl (by kernel_rfl) (by kernel_rfl) (by kernel_rfl) (fun _ _ _ h => h) (Or.inl ⟨by rfl, by intro w hSw; (try dsimp only at hSw); go_simp; try with_reducible rfl⟩) (by assumption) ?_
        try simp only [Act.put, List.setIfInBounds_toArray, List.set_cons_zero, List.set_cons_succ]
        refine takeL (i := 3) (v := _) rfl (by kernel_rfl) (by kernel_rfl) (by kernel_rfl) (fun _ _ _ h => h) (Or.inl ⟨by rfl, by intro w hSw; (try dsimp only at hSw); go_simp; try with_reducible rfl⟩) (by assumption) ?_
        try simp only [Act.put, List.setIfInBounds_toArray, List.set_cons_zero, List.set_cons_succ]
        refine takeL (i := 4) (v := _) rfl (by kernel_rfl) (by kernel_rfl) (by kernel_rfl) (fun _ _ _ h => h) (Or.inl ⟨by rfl, by intro w hSw; (try dsimp only at hSw); go_simp; try with_reducible rfl⟩) (by assumption) ?_
        try simp only [Act.put, List.setIfInBounds_toArray, List.set_cons_zero, List.set_cons_succ]
        refine takeL (i := 5) (v := _) rfl (by kernel_rfl) (by kernel_rfl) (by kernel_rfl) (fun _ _ _ h => h) (Or.inl ⟨by rfl, by intro w hSw; (try dsimp only at hSw); go_simp; try with_reducible rfl⟩) (by assumption) ?_
        try simp only [Act.put, List.setIfInBounds_toArray, List.set_cons_zero, List.set_cons_succ]
        refine takeL (i := 7) (v := _) rfl (by kernel_rfl) (by kernel_rfl) (by kernel_rfl) (fun _ _ _ h => h) (Or.inl ⟨by rfl, by intro w hSw; (try dsimp only at hSw); go_simp; try with_reducible rfl⟩) (by assumption) ?_
        try simp only [Act.put, List.setIfInBounds_toArray, List.set_cons_zero, List.set_cons_succ]
        refine takeL (i := 8) (v := _) rfl (by kernel_rfl) (by kernel_rfl) (by kernel_rfl) (fun _ _ _ h => h) (Or.inl ⟨by rfl, by intro w hSw; (try dsimp only at hSw); go_simp; try with_reducible rfl⟩) (by assumption) ?_
        try simp only [Act.put, List.setIfInBounds_toArray, List.set_cons_zero, List.set_cons_succ]
        refine takeL (i := 9) (v := _) rfl (by kernel_rfl) (by kernel_rfl) (by kernel_rfl) (fun _ _ _ h => h) (Or.inl ⟨by rfl, by intro w hSw; (try dsimp only at hSw); go_simp; try with_reducible rfl⟩) (by assumption) ?_
        try simp only [Act.put, List.setIfInBounds_toArray, List.set_cons_zero, List.set_cons_succ]
        have hq : Hs v0 (if cap = k then some ⟨b, off, none⟩ else some ⟨b, off + k * 32, none⟩) lD := by rw [if_neg (by omega)]; exact hD
        generalize (if cap = k then (some ⟨b, off, none⟩ : Option Addr) else some ⟨b, off + k * 32, none⟩) = aD at *
        clear hD hT hb
        rw [HIK.out]
        -- the part: lD of length n - k at Hq ; the other: lT of length k at Hr ; HPL : pathL i l = pathL i - k lD ++ [rootL lT]
        refine onlyL (i := 6) rfl (by kernel_rfl) (fun K hK => ?_)
        go_simp
        refine (HI.out (n - k) (by omega) (i - k) HLL.out.2 hq (by omega) (by omega) (by omega)).mono ?_
        rintro e w2 ⟨a2, c2, rfl, ho2, qk, hf2⟩
        have hr2 := hr'.keep0 qk
        replace hKB := hKB.trans qk
        have hf3 : ∀ k, blkOf a2 k → w.heap.size ≤ k := fun k hk => Nat.le_trans hgw (hf2 k hk)
        clear hq qk hf2 hr'
        generalize hLP : (pathL (i - k) lD) = LP at *
        generalize hnP : LP.length = nP at *
        have hnP2 : nP ≤ 1000000 := by rw [← hnP, ← hLP, pathL_len (n - k) _ _ HLL.out.2]; have := depthN_le (n - k) (i - k); omega
        have HP := Lib.hid hnP
        unfold OwnH at ho2
        rw [hnP] at ho2
        clear hnP
        refine (fun hHeld => hK _ _ hHeld ?_) (trivial)
        clear hK
        try simp only [Act.put, List.setIfInBounds_toArray, List.set_cons_zero, List.set_cons_succ]
        refine onlyL (i := 10) rfl (by kernel_rfl) (fun K hK => ?_)
        go_simp
        refine (root_walk (k) HLL.out.1 hr2 (by omega) (by omega)).mono ?_
        rintro e w3 ⟨rfl, qk⟩
        have hX := rootL_is hr2.are
        replace ho2 := ho2.keep0 qk
        replace hKB := hKB.trans qk
        clear qk hr2
        refine (fun hHeld => hK _ _ hHeld ?_) (trivial)
        clear hK
        try simp only [Act.put, List.setIfInBounds_toArray, List.set_cons_zero, List.set_cons_succ]
        refine onlyL (i := 11) rfl (by kernel_rfl) (fun K hK => ?_)
        refine step_bsOne rfl 24 26 _ rfl (byteV (rootL lT)) (.agg (byteV (rootL lT)).toArray) rfl 32 Tryd.underlying24 Tryd.infoHhP2 (by omega) (by omega) (by rw [byteV_len]; exact hX.1) (by simp [Act.eval, keyV]) ?_
        have hb := Blk.new w3 (byteV (rootL lT)) 26
        have hka := (Keeps.refl Nil w3).alloc (.cells (byteV (rootL lT)).toArray 26)
        replace ho2 := ho2.keep0 hka
        replace hKB := hKB.trans hka
        have hsrc := src_hash hb hX.1
        clear hka
        refine (fun hHeld => hK _ _ hHeld ?_) (trivial)
        clear hK
        try simp only [Act.put, List.setIfInBounds_toArray, List.set_cons_zero, List.set_cons_succ]
        generalize w3.alloc (.cells (byteV (rootL lT)).toArray 26) = w4 at *
        refine onlyL (i := 12) rfl (by kernel_rfl) (fun K hK => ?_)
        refine step_append rfl _ _ 24 rfl 26 32 32 Tryd.underlying24 Tryd.infoHhP (by omega) a2 c2 nP _ rfl ho2 ⟨w3.heap.size, 0, none⟩ 1 1 (byteV (rootL lT)) rfl hsrc (by omega) (by unfold maxLen; omega) (by omega) ?_
        intro g5 c5 w5 ho5 qk hg5
        have hwl := hKB.size
        have hK5 : Keeps Nil w w5 := hKB.step qk (fun k hk => .inr (hf3 k hk))
        have ho6 := OwnH.snoc HP.out ho5
        have hg6 : ∀ k, blkOf (some ⟨g5, 0, none⟩) k → w.heap.size ≤ k := fun k hk => by
          rw [(blkOf_some _ _ _ _).1 hk]
          rcases hg5 with h1 | h1
          · exact hf3 _ h1
          · rw [h1]; exact hwl
        clear ho5 qk hg5 hsrc hb
        refine (fun hHeld => hK _ _ hHeld ?_) (trivial)
        clear hK
        try simp only [Act.put, List.setIfInBounds_toArray, List.set_cons_zero, List.set_cons_succ]
        refine takeL (i := 13) (v := _) rfl (by kernel_rfl) (by kernel_rfl) (by kernel_rfl) (fun _ _ _ h => h) (Or.inl ⟨by rfl, by intro w hSw; (try dsimp only at hSw); go_simp; try with_reducible rfl⟩) (by assumption) ?_
        try simp only [Act.put, List.setIfInBounds_toArray, List.set_cons_zero, List.set_cons_succ]
        refine wpAnyH_done (by kernel_rfl) ?_ _
        go_wp2_with fail
        go_ret
        rw [HPL.out]
        exact ⟨some ⟨g5, 0, none⟩, c5, by rw [List.length_append, HP.out]; rfl, ho6, hK5, hg6⟩
end Go.Proofs.YtmbdldnldcgdjaaDoor
