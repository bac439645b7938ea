/-
  TreeParts: the root of all is the node of the roots of both parts.
-/
import Derived.Test.YtmbdldnldcgdjaaTreeFirst
import Derived.Test.YtmbdldnldcgdjaaHashes
import Derived.Test.YtmbdldnldcgdjaaBin
namespace Go.Proofs.Ytmbdldnldcgdjaa
set_option linter.unusedSimpArgs false
set_option linter.unusedVariables false
open Go.RowKit

theorem SeqAt.make {w : World} {a : Option Addr} {n cap : Nat} {l : List Int} (h : Row .i64 w a n l) : SeqAt (w.alloc (.cells #[.slice a n cap, .int .i64 0] 31)) w.heap.size a n cap l 0 :=
  ⟨Blk.new w [.slice a n cap, .int .i64 0] _, h.keep ((Keeps.refl Nil w).alloc _), fun h0 e => by
    obtain ⟨bb, off, ha, hbb, _⟩ := h.cell h0
    rw [ha] at e
    have e' := (blkOf_some _ _ _ _).1 e
    omega⟩
theorem and_split : ∀ n : Fin 51, 2 ≤ n.val → bits .and .i64 (splitN n.val) ((splitN n.val : Int) - 1) = 0 := by decide +kernel
set_option maxRecDepth 20000 in
set_option maxHeartbeats 1600000 in
theorem treeParts_walk (a0 : Option Addr) (len0 cap0 : Nat) (z0 : List Int) (w : World) (hr : Row .i64 w a0 len0 z0) :
    Calls Try.prog 4 #[.slice a0 len0 cap0] w (TrueS w) := by
  by_cases hl : 60 < len0
  · have hl2 : (60 : Int) < len0 := by omega
    clear hr hl
    go_enter Try.func4, Try.ntmps4
    go_wp2_with fail
    refine (treefirst_walk w).mono ?_
    rintro e w1 ⟨rfl, hk1⟩
    go_wp2_with fail
    go_ret
    exact ⟨by first | rfl | simp, hk1⟩
  · have l0 : (len0 : Int) ≤ 60 := by omega
    clear hl
    have HR := Lib.hid hr
    clear hr
    go_enter Try.func4, Try.ntmps4
    go_wp2_with fail
    refine (treefirst_walk w).mono ?_
    rintro e w1 ⟨rfl, hk1⟩
    go_wp2_with fail
    have HH := Lib.hid (hashes_walk (SeqAt.make (cap := cap0) (HR.out.keep hk1)) rfl 50 (by omega))
    have HK1 := Lib.hid (hk1.alloc (.cells #[.slice a0 len0 cap0, .int .i64 0] 31))
    have HG := Lib.hid hk1.size
    clear hk1
    refine HH.out.mono ?_
    rintro e w2 ⟨ah, ch, L, rfl, hO, hA, hL, hk2, hf⟩
    have hKv : Keeps Nil w w2 := HK1.out.step hk2 (fun i hi => .inr (by rw [show i = w1.heap.size from hi]; exact HG.out))
    have hHs := Hs.own hO hA (by omega)
    have HC := Lib.hid (And.intro hO.2.1 hO.2.2.1)
    clear HH hO hf hk2 HK1 HG HR
    have HN := Lib.hid (show L.length = L.length from rfl)
    have HSP := Lib.hid (fun w => split_walk (L.length : Int) w (by omega) (by omega))
    rw [show ((L.length : Int)).toNat = L.length by omega] at HSP
    go_wp2_with fail
    refine (HSP.out _).mono ?_
    rintro e w3 ⟨rfl, rfl⟩
    have hgE := fun (V U : List Value) (p q : Operand) (w : World) => Try.guardT .eql p q V.toArray U.toArray w
    have hq := fun (l : List Int) (h : Hash32 l) (w : World) => (show (binOp .eql 25 (.agg (byteV l).toArray) (.agg (byteV l).toArray)).run Try.prog w = .ok (.bool true) w by rw [Try.eqlDig h.1 h.1 h.2 h.2]; simp)
    by_cases h0 : L.length = 0
    · have hL0 : L = [] := List.eq_nil_of_length_eq_zero h0
      subst hL0
      have hs : splitN ([] : List (List Int)).length = 0 := rfl
      rw [hs]
      have hqE := hq (digest []) ⟨digest_len _, digest_bytes _⟩
      clear hq HSP HN
      have h00 : (([] : List (List Int)).length : Int) = 0 := rfl
      go_wp2_with fail
      refine (root_walk 0 (cap := 0) (l := []) rfl (Hs.none _ none) (by omega) (by omega)).mono ?_
      rintro e w4 ⟨rfl, qk⟩
      rw [rootL_none]
      go_wp2_with fail
      refine (refSum_walk (cap := 0) (row_none _) (by omega)).mono ?_
      rintro e w5 ⟨rfl, qk2⟩
      go_wp2_with (refine wpl_bin rfl _ _ _ _ _ rfl _ _ rfl rfl _ hqE (hgE _ _ _ _) ?_)
      go_ret
      exact ⟨by first | rfl | simp, (hKv.trans qk).trans qk2⟩
    · obtain ⟨b, off, ha, hb, hrng⟩ := hHs.rng (by omega)
      subst ha
      by_cases h1 : L.length = 1
      · have hR := rootL_one h1
        have hs : splitN L.length = 0 := splitN_small (by omega)
        rw [hs]
        have hqE := hq (L.getD 0 []) (hA.at_ (by omega))
        have hld := hrng 0 (by omega)
        have hlen := hA.at32 (i := 0) (by omega)
        clear hq HSP hrng
        have HR1 := Lib.hid (And.intro h1 hR)
        have h11 : (L.length : Int) = 1 := by omega
        clear h0 h1 hR HN
        generalize hn : L.length = n at *
        have HN := Lib.hid hn
        clear hn
        go_wp2_with fail
        refine wp_region_held_drew (S := fun w' => Keeps Nil w2.drew w') (by kernel_rfl) (Keeps.refl _ _) (fun hHeld => ?_)
        replace hKv := hKv.drew
        replace hHs := hHs.keep0 (Keeps.refl Nil w2).drew
        have hld' := rangeAt_keep hld (Keeps.refl Nil w2).drew (fun h => h)
        clear hld
        generalize w2.drew = v0 at *
        have hUH := Try.undH
        have hiL : (Try.prog.info? 25).map (·.size) = some (byteV (L.getD 0 [])).length := by rw [hlen]; exact Try.infoH
        have hn0 : (0 : Int) < n := by omega
        refine takeL (i := 0) (v := _) rfl (by kernel_rfl) (by kernel_rfl) (by kernel_rfl) (fun _ _ _ h => h) (Or.inl ⟨by rfl, by intro w hSw; (try dsimp only at hSw); go_simp; try with_reducible rfl⟩) (by assumption) ?_
        try simp only [Act.put, List.setIfInBounds_toArray, List.set_cons_zero, List.set_cons_succ]
        refine takeL (i := 1) (v := _) rfl (by kernel_rfl) (by kernel_rfl) (by kernel_rfl) (fun _ _ _ h => h) (Or.inl ⟨by rfl, by intro w hSw; (try dsimp only at hSw); go_simp; try with_reducible rfl⟩) (by assumption) ?_
        try simp only [Act.put, List.setIfInBounds_toArray, List.set_cons_zero, List.set_cons_succ]
        refine takeL (i := 2) (v := _) rfl (by kernel_rfl) (by kernel_rfl) (by kernel_rfl) (fun _ _ _ h => h) (Or.inl ⟨by rfl, by intro w hSw; (try dsimp only at hSw); go_simp; try with_reducible rfl⟩) (by assumption) ?_
        try simp only [Act.put, List.setIfInBounds_toArray, List.set_cons_zero, List.set_cons_succ]
        refine takeL (i := 3) (v := _) rfl (by kernel_rfl) (by kernel_rfl) (by kernel_rfl) (fun _ _ _ h => h) (Or.inl ⟨by rfl, by intro w hSw; (try dsimp only at hSw); go_simp; try with_reducible rfl⟩) (by assumption) ?_
        try simp only [Act.put, List.setIfInBounds_toArray, List.set_cons_zero, List.set_cons_succ]
        refine takeL (i := 4) (v := _) rfl (by kernel_rfl) (by kernel_rfl) (by kernel_rfl) (fun _ _ _ h => h) (Or.inl ⟨by rfl, by intro w hSw; (try dsimp only at hSw); go_simp; try with_reducible rfl⟩) (by assumption) ?_
        try simp only [Act.put, List.setIfInBounds_toArray, List.set_cons_zero, List.set_cons_succ]
        refine takeL (i := 5) (v := _) rfl (by kernel_rfl) (by kernel_rfl) (by kernel_rfl) (fun _ _ _ h => h) (Or.inl ⟨by rfl, by intro w hSw; (try dsimp only at hSw); go_simp; try with_reducible rfl⟩) (by assumption) ?_
        try simp only [Act.put, List.setIfInBounds_toArray, List.set_cons_zero, List.set_cons_succ]
        refine takeL (i := 6) (v := _) rfl (by kernel_rfl) (by kernel_rfl) (by kernel_rfl) (fun _ _ _ h => h) (Or.inl ⟨by rfl, by intro w hSw; (try dsimp only at hSw); go_simp; try with_reducible rfl⟩) (by assumption) ?_
        try simp only [Act.put, List.setIfInBounds_toArray, List.set_cons_zero, List.set_cons_succ]
        refine takeL (i := 8) (v := _) rfl (by kernel_rfl) (by kernel_rfl) (by kernel_rfl) (fun _ _ _ h => h) (Or.inl ⟨by rfl, by intro w hSw; (try dsimp only at hSw); go_simp; try with_reducible rfl⟩) (by assumption) ?_
        try simp only [Act.put, List.setIfInBounds_toArray, List.set_cons_zero, List.set_cons_succ]
        refine takeL (i := 9) (v := _) rfl (by kernel_rfl) (by kernel_rfl) (by kernel_rfl) (fun _ _ _ h => h) (Or.inl ⟨by rfl, by intro w hSw; (try dsimp only at hSw); go_simp; try with_reducible rfl⟩) (by assumption) ?_
        try simp only [Act.put, List.setIfInBounds_toArray, List.set_cons_zero, List.set_cons_succ]
        refine takeL (i := 10) (v := _) rfl (by kernel_rfl) (by kernel_rfl) (by kernel_rfl) (fun _ _ _ h => h) (yieldsIf_load_mid (by rfl) 25 _ rfl b (off+0*32) rfl (byteV (L.getD 0 [])) _ (fun w hSw => (rangeAt_keep hld' hSw (fun h => h))) hUH rfl hiL) (by assumption) ?_
        try simp only [Act.put, List.setIfInBounds_toArray, List.set_cons_zero, List.set_cons_succ]
        refine onlyL (i := 7) rfl (by kernel_rfl) (fun K hK => ?_)
        go_simp
        refine (root_walk n HN.out hHs (by have := HC.out.1; omega) (by have := HC.out.2; unfold maxLen at this; omega)).mono ?_
        rintro e w4 ⟨rfl, qk⟩
        rw [HR1.out.2]
        refine (fun hHeld => hK _ _ hHeld ?_) (qk)
        clear hK
        try simp only [Act.put, List.setIfInBounds_toArray, List.set_cons_zero, List.set_cons_succ]
        refine takeL (i := 11) (v := _) rfl (by kernel_rfl) (by kernel_rfl) (by kernel_rfl) (fun _ _ _ h => h) (yieldsIf_bin (by rfl) _ _ _ _ _ rfl _ _ rfl rfl _ hqE (hgE (byteV (L.getD 0 [])) (byteV (L.getD 0 [])) _ _)) (by assumption) ?_
        try simp only [Act.put, List.setIfInBounds_toArray, List.set_cons_zero, List.set_cons_succ]
        refine takeL (i := 12) (v := _) rfl (by kernel_rfl) (by kernel_rfl) (by kernel_rfl) (fun _ _ _ h => h) (Or.inl ⟨by rfl, by intro w hSw; (try dsimp only at hSw); go_simp; try with_reducible rfl⟩) (by assumption) ?_
        try simp only [Act.put, List.setIfInBounds_toArray, List.set_cons_zero, List.set_cons_succ]
        refine takeL (i := 13) (v := _) rfl (by kernel_rfl) (by kernel_rfl) (by kernel_rfl) (fun _ _ _ h => h) (Or.inl ⟨by rfl, by intro w hSw; (try dsimp only at hSw); go_simp; try with_reducible rfl⟩) (by assumption) ?_
        try simp only [Act.put, List.setIfInBounds_toArray, List.set_cons_zero, List.set_cons_succ]
        refine wpAnyH_done (by kernel_rfl) ?_ _
        go_wp2_with fail
        go_ret
        exact ⟨by first | rfl | simp, hKv.trans qk⟩
      · have hR := rootL_more (l := L) (by omega)
        have hs1 := splitN_pos (n := L.length) (by omega)
        have hs2 := splitN_lt (n := L.length) (by omega)
        have hs3 := splitN_most (n := L.length) (by omega)
        have hand := and_split ⟨L.length, by omega⟩ (by show 2 ≤ L.length; omega)
        dsimp only at hand
        have hT := hHs.take (splitN L.length)
        have hD := hHs.drop (splitN L.length)
        rw [Addr.add_lit] at hD
        have hlT : (L.take (splitN L.length)).length = splitN L.length := by rw [List.length_take]; omega
        have hlD : (L.drop (splitN L.length)).length = L.length - splitN L.length := by rw [List.length_drop]
        have hqE := hq (rootL L) (rootL_is hA)
        clear hq HSP hrng HN hb
        generalize L.take (splitN L.length) = lT at *
        generalize L.drop (splitN L.length) = lD at *
        generalize splitN L.length = k at *
        have HX := Lib.hid (And.intro hlT (And.intro hlD hR))
        clear hlT hlD hR
        generalize hn : L.length = n at *
        have HN := Lib.hid hn
        clear hn
        have hk0 : (1 : Int) ≤ k := by omega
        have hk1 : (k : Int) < n := by omega
        have hk2 : (n : Int) ≤ 2 * k := by omega
        have hk3 : (n : Int) ≤ 50 := by omega
        have hk4 : (n : Int) ≤ ch := by have := HC.out.1; omega
        have hk5 : (k : Int) ≤ ch := by omega
        have hk6 : (ch : Int) ≤ 9223372036854775807 := by have := HC.out.2; unfold maxLen at this; omega
        go_wp2_with fail
        refine wp_region_held_drew (S := fun _ => True) (by kernel_rfl) trivial (fun hHeld => ?_)
        replace hKv := hKv.drew
        replace hHs := hHs.keep0 (Keeps.refl Nil w2).drew
        replace hT := hT.keep0 (Keeps.refl Nil w2).drew
        replace hD := hD.keep0 (Keeps.refl Nil w2).drew
        generalize w2.drew = v0 at *
        have hkz : (0 : Int) ≤ k := by omega
        have hk7 : (k : Int) ≤ n := by omega
        refine takeL (i := 0) (v := _) rfl (by kernel_rfl) (by kernel_rfl) (by kernel_rfl) (fun _ _ _ h => h) (Or.inl ⟨by rfl, by intro w hSw; (try dsimp only at hSw); go_simp; try with_reducible rfl⟩) (by assumption) ?_
        try simp only [Act.put, List.setIfInBounds_toArray, List.set_cons_zero, List.set_cons_succ]
        refine takeL (i := 1) (v := _) rfl (by kernel_rfl) (by kernel_rfl) (by kernel_rfl) (fun _ _ _ h => h) (Or.inl ⟨by rfl, by intro w hSw; (try dsimp only at hSw); go_simp; try with_reducible rfl⟩) (by assumption) ?_
        try simp only [Act.put, List.setIfInBounds_toArray, List.set_cons_zero, List.set_cons_succ]
        refine takeL (i := 2) (v := _) rfl (by kernel_rfl) (by kernel_rfl) (by kernel_rfl) (fun _ _ _ h => h) (Or.inl ⟨by rfl, by intro w hSw; (try dsimp only at hSw); go_simp; try with_reducible rfl⟩) (by assumption) ?_
        try simp only [Act.put, List.setIfInBounds_toArray, List.set_cons_zero, List.set_cons_succ]
        refine takeL (i := 4) (v := _) rfl (by kernel_rfl) (by kernel_rfl) (by kernel_rfl) (fun _ _ _ h => h) (Or.inl ⟨by rfl, by intro w hSw; (try dsimp only at hSw); go_simp; try with_reducible rfl⟩) (by assumption) ?_
        try simp only [Act.put, List.setIfInBounds_toArray, List.set_cons_zero, List.set_cons_succ]
        refine takeL (i := 5) (v := _) rfl (by kernel_rfl) (by kernel_rfl) (by kernel_rfl) (fun _ _ _ h => h) (Or.inl ⟨by rfl, by intro w hSw; (try dsimp only at hSw); go_simp; try with_reducible rfl⟩) (by assumption) ?_
        try simp only [Act.put, List.setIfInBounds_toArray, List.set_cons_zero, List.set_cons_succ]
        refine takeL (i := 6) (v := _) rfl (by kernel_rfl) (by kernel_rfl) (by kernel_rfl) (fun _ _ _ h => h) (Or.inl ⟨by rfl, by intro w hSw; (try dsimp only at hSw); go_simp; try with_reducible rfl⟩) (by assumption) ?_
        try simp only [Act.put, List.setIfInBounds_toArray, List.set_cons_zero, List.set_cons_succ]
        refine takeL (i := 8) (v := _) rfl (by kernel_rfl) (by kernel_rfl) (by kernel_rfl) (fun _ _ _ h => h) (Or.inl ⟨by rfl, by intro w hSw; (try dsimp only at hSw); go_simp; try with_reducible rfl⟩) (by assumption) ?_
        try simp only [Act.put, List.setIfInBounds_toArray, List.set_cons_zero, List.set_cons_succ]
        refine takeL (i := 9) (v := _) rfl (by kernel_rfl) (by kernel_rfl) (by kernel_rfl) (fun _ _ _ h => h) (Or.inl ⟨by rfl, by intro w hSw; (try dsimp only at hSw); go_simp; try with_reducible rfl⟩) (by assumption) ?_
        try simp only [Act.put, List.setIfInBounds_toArray, List.set_cons_zero, List.set_cons_succ]
        refine takeL (i := 10) (v := _) rfl (by kernel_rfl) (by kernel_rfl) (by kernel_rfl) (fun _ _ _ h => h) (Or.inl ⟨by rfl, by intro w hSw; (try dsimp only at hSw); go_simp; try with_reducible rfl⟩) (by assumption) ?_
        try simp only [Act.put, List.setIfInBounds_toArray, List.set_cons_zero, List.set_cons_succ]
        have hD' : Hs v0 (if ch = k then some ⟨b, off, none⟩ else some ⟨b, off + k * 32, none⟩) lD := by rw [if_neg (by omega)]; exact hD
        have ha1 := rootL_is hT.are
        have ha2 := rootL_is hD.are
        generalize (if ch = k then (some ⟨b, off, none⟩ : Option Addr) else some ⟨b, off + k * 32, none⟩) = aD at *
        clear hD
        refine onlyL (i := 3) rfl (by kernel_rfl) (fun K hK => ?_)
        go_simp
        refine (root_walk n HN.out hHs (by omega) (by omega)).mono ?_
        rintro e w4 ⟨rfl, qk⟩
        replace hT := hT.keep0 qk
        replace hD' := hD'.keep0 qk
        replace hKv := hKv.trans qk
        clear qk hHs
        refine (fun hHeld => hK _ _ hHeld ?_) (trivial)
        clear hK
        try simp only [Act.put, List.setIfInBounds_toArray, List.set_cons_zero, List.set_cons_succ]
        refine onlyL (i := 7) rfl (by kernel_rfl) (fun K hK => ?_)
        go_simp
        refine (root_walk k HX.out.1 hT (by omega) (by omega)).mono ?_
        rintro e w5 ⟨rfl, qk⟩
        replace hD' := hD'.keep0 qk
        replace hKv := hKv.trans qk
        clear qk hT
        refine (fun hHeld => hK _ _ hHeld ?_) (trivial)
        clear hK
        try simp only [Act.put, List.setIfInBounds_toArray, List.set_cons_zero, List.set_cons_succ]
        refine onlyL (i := 11) rfl (by kernel_rfl) (fun K hK => ?_)
        go_simp
        refine (root_walk (n - k) HX.out.2.1 hD' (by omega) (by omega)).mono ?_
        rintro e w6 ⟨rfl, qk⟩
        replace hKv := hKv.trans qk
        clear qk hD'
        refine (fun hHeld => hK _ _ hHeld ?_) (trivial)
        clear hK
        try simp only [Act.put, List.setIfInBounds_toArray, List.set_cons_zero, List.set_cons_succ]
        refine onlyL (i := 12) rfl (by kernel_rfl) (fun K hK => ?_)
        go_simp
        refine (node_walk ha1 ha2).mono ?_
        rintro e w7 ⟨rfl, qk⟩
        rw [← HX.out.2.2]
        replace hKv := hKv.trans qk
        clear qk
        refine (fun hHeld => hK _ _ hHeld ?_) (trivial)
        clear hK
        try simp only [Act.put, List.setIfInBounds_toArray, List.set_cons_zero, List.set_cons_succ]
        refine takeL (i := 13) (v := _) rfl (by kernel_rfl) (by kernel_rfl) (by kernel_rfl) (fun _ _ _ h => h) (yieldsIf_bin (by rfl) _ _ _ _ _ rfl _ _ rfl rfl _ hqE (hgE (byteV (rootL L)) (byteV (rootL L)) _ _)) (by assumption) ?_
        try simp only [Act.put, List.setIfInBounds_toArray, List.set_cons_zero, List.set_cons_succ]
        refine takeL (i := 14) (v := _) rfl (by kernel_rfl) (by kernel_rfl) (by kernel_rfl) (fun _ _ _ h => h) (Or.inl ⟨by rfl, by intro w hSw; (try dsimp only at hSw); go_simp; try with_reducible rfl⟩) (by assumption) ?_
        try simp only [Act.put, List.setIfInBounds_toArray, List.set_cons_zero, List.set_cons_succ]
        refine takeL (i := 15) (v := _) rfl (by kernel_rfl) (by kernel_rfl) (by kernel_rfl) (fun _ _ _ h => h) (Or.inl ⟨by rfl, by intro w hSw; (try dsimp only at hSw); go_simp; try with_reducible rfl⟩) (by assumption) ?_
        try simp only [Act.put, List.setIfInBounds_toArray, List.set_cons_zero, List.set_cons_succ]
        refine wpAnyH_done (by kernel_rfl) ?_ _
        go_wp2_with fail
        go_ret
        exact ⟨by first | rfl | simp, hKv⟩
end Go.Proofs.Ytmbdldnldcgdjaa
