/-
  ProofGoes: each leaf's path comes to the root; another one's does not, nor one less or more.
-/
import Derived.Test.YtmbdldnldcgdjaaDoorProofFirst
import Derived.Deep.DeepCutAuto
import Derived.Deep.CutRange
import Derived.Deep.CutBlock
namespace Go.Proofs.YtmbdldnldcgdjaaDoor
set_option linter.unusedSimpArgs false
set_option linter.unusedVariables false
open Go.RowKit

/-- A guarded operation whose guard says yes is as one without. -/
theorem step_W {P : Program} {ops : Array Oper} {o : Oper} {a : Act} {w : World} {K : Act → World → Prop} {Q : Exit → Act → World → Prop} {E : Prop} (hw : Region.wanted o (yielded ops a.tmps) = true)
    (h : if Region.wanted { o with guard := none } (yielded ops a.tmps) = true then Oper.wp P { o with guard := none } a w K Q else True) : if Region.wanted o (yielded ops a.tmps) = true then Oper.wp P o a w K Q else E := by
  rw [if_pos hw]
  have h2 : Region.wanted { o with guard := none } (yielded ops a.tmps) = true := by simp [Region.wanted]
  rw [if_pos h2] at h
  exact h
/-- append, whatever comes, inside a region that draws its order. -/
theorem step_appendO {P : Program} {ops : Array Oper} {o : Oper} {a : Act} {w : World} {K : Act → World → Prop} {Q : Exit → Act → World → Prop} {E : Prop} (hg : o.guard = none) (s x : Operand) (t : TypeId) (ho : o.op = .call { callee := .builtin .append, args := #[s, x], argTypes := #[t, t] })
    (e : TypeId) (size bytes : Nat) (ht : P.underlying t = some (.slice e)) (hi : (P.info? e).map (fun i => (i.zero.map (·.cells.size), i.size, i.bytes)) = some (some size, size, bytes)) (hsz : 0 < size)
    (ad : Option Addr) (cap n : Nat) (xs : List Value) (hs : a.eval s = .slice ad n cap) (hown : Own w e size ad cap n xs)
    (ao : Option Addr) (m c : Nat) (news : List Value) (hx : a.eval x = .slice ao m c) (hsrc : Src w ao m c size news) (h63 : n + m ≤ maxLen) (hbytes : (n + m) * bytes ≤ 140737488355328)
    (h : ∀ a' cap' w', Own w' e size a' cap' (n + m) (xs ++ news) → Keeps (blkOf ad) w w' → (∀ k, blkOf a' k → blkOf ad k ∨ k = w.heap.size) → K (a.put o.dst (.slice a' (n + m) cap')) w') :
    if Region.wanted o (yielded ops a.tmps) = true then Oper.wp P o a w K Q else E := by
  by_cases hm : m = 0
  · subst hm
    have hnews : news = [] := List.eq_nil_of_length_eq_zero (by simpa using hsrc.1)
    subst hnews
    have hw : Region.wanted o (yielded ops a.tmps) = true := by simp [Region.wanted, hg]
    rw [if_pos hw]
    obtain ⟨i, hie, _⟩ := Option.map_eq_some_iff.1 hi
    have hrun := run_append_zero (P := P) w t o.type e i ht hie ad n cap ao c hown.2.1
    unfold Oper.wp
    simp [execOp, ho, resolve, invoke, builtin, hs, hx, hrun, Result.andThen]
    exact h ad cap w (by simpa using hown) (Keeps.refl _ _) (fun k hk => .inl hk)
  · have hsrc' := hsrc
    obtain ⟨_, _, hc⟩ := hsrc
    rcases hc with ⟨_, h0, _⟩ | ⟨ad', rfl, _⟩
    · exact (hm h0).elim
    · exact step_append hg s x t ho e size bytes ht hi hsz ad cap n xs hs hown ad' m c news hx hsrc' (by omega) h63 hbytes (fun g cap' w' h1 h2 h3 => h _ cap' w' h1 h2 (fun k hk => by rw [(blkOf_some _ _ _ _).1 hk]; exact h3))
/-- An empty slice literal, of any size, inside a region. -/
theorem step_bs0O {P : Program} {ops : Array Oper} {o : Oper} {a : Act} {w : World} {K : Act → World → Prop} {Q : Exit → Act → World → Prop} {E : Prop} (hg : o.guard = none) (t e : TypeId) (ho : o.op = .buildSlice t 0 #[])
    (hu : P.underlying t = some (.slice e)) (hi : ((P.info? e).map (·.size)).isSome = true) (size : Nat)
    (h : ∀ g w', g = w.heap.size → Own w' e size (some ⟨g, 0, none⟩) 0 0 [] → Keeps Nil w w' → K (a.put o.dst (.slice (some ⟨g, 0, none⟩) 0 0)) w') : if Region.wanted o (yielded ops a.tmps) = true then Oper.wp P o a w K Q else E := by
  have hw : Region.wanted o (yielded ops a.tmps) = true := by simp [Region.wanted, hg]
  rw [if_pos hw]
  obtain ⟨i, hie⟩ := Option.isSome_iff_exists.1 hi
  obtain ⟨i, hie, _⟩ := Option.map_eq_some_iff.1 hie
  have hr : (Instr.buildSlice t 0 #[]).run P w = .ok (.slice (some ⟨w.heap.size, 0, none⟩) 0 0) (w.alloc (.cells #[] e)) := by
    have he : (Array.range 0).map (fun (_ : Nat) => (default : Value)) = #[] := Array.eq_empty_of_size_eq_zero (by simp)
    simp [Instr.buildSlice, run_underlying hu, sizeOf, typeInfo, hie, newRow, Instr.fill, he]
  have hr' : (Instr.buildSlice t 0 ((#[] : Array (Nat × Operand)).map fun (i, x) => (i, a.eval x))).run P w = .ok (.slice (some ⟨w.heap.size, 0, none⟩) 0 0) (w.alloc (.cells #[] e)) := by simpa using hr
  unfold Oper.wp execOp
  simp only [ho, Sem.run_bind, hr', Result.andThen_ok]
  exact h _ _ rfl ⟨by simp, Nat.le_refl _, Nat.zero_le _, .inr ⟨w.heap.size, [], rfl, Blk.new w [] e, by simp⟩⟩ ((Keeps.refl _ _).alloc _)
theorem SeqAt.make {w : World} {a : Option Addr} {n cap : Nat} {l : List Int} (h : Row .i64 w a n l) : SeqAt (w.alloc (.cells #[.slice a n cap, .int .i64 0] 40)) w.heap.size a n cap l 0 :=
  ⟨Blk.new w [.slice a n cap, .int .i64 0] _, h.keep ((Keeps.refl Nil w).alloc _), fun h0 e => by
    obtain ⟨bb, off, ha, hbb, _⟩ := h.cell h0
    rw [ha] at e
    have e' := (blkOf_some _ _ _ _).1 e
    omega⟩
/-- What Check tells of a leaf's own path, of one more, of one less. -/
theorem goes_upE {L : List (List Int)} {i n : Nat} (hl : L.length = n) (hi : i < n) (hn : n ≤ 1048576) {m : Nat} (P : List (List Int)) (hm : P.length = m) : upE i n P.length = if m < (pathL i L).length then some 2 else if (pathL i L).length < m then some 3 else none := by
  unfold upE
  rw [if_neg (by omega), pathL_len n i L hl, hm]
  simp only [Int.toNat_natCast]
theorem goes_ok {L : List (List Int)} {i n : Nat} (hl : L.length = n) (hi : i < n) (hn : n ≤ 1048576) : upE i n (pathL i L).length = none := by
  rw [goes_upE hl hi hn _ rfl, if_neg (by omega), if_neg (by omega)]
theorem goes_val {L : List (List Int)} {i n : Nat} (hl : L.length = n) (hi : i < n) (hn : n ≤ 1048576) : upV (L.getD i []) i n (pathL i L) = rootL L := by
  unfold upV
  rw [goes_ok hl hi hn, if_pos rfl]
  simp only [Int.toNat_natCast]
  exact upL_path n i L hl hi
theorem goes_chk {L : List (List Int)} {i n : Nat} (hl : L.length = n) (hi : i < n) (hn : n ≤ 1048576) : chkE (rootL L) (L.getD i []) i n (pathL i L) = none := by
  unfold chkE
  rw [goes_ok hl hi hn, if_pos rfl, goes_val hl hi hn, if_pos rfl]
theorem goes_more {L : List (List Int)} {i n : Nat} (hl : L.length = n) (hi : i < n) (hn : n ≤ 1048576) (R X Y : List Int) : chkE R X i n (pathL i L ++ [Y]) = some 3 := by
  have h : upE i n (pathL i L ++ [Y]).length = some 3 := by
    rw [goes_upE hl hi hn _ rfl, List.length_append, if_neg (by omega), if_pos (by simp)]
  unfold chkE
  rw [h, if_neg (by simp)]
theorem goes_less {L : List (List Int)} {i n : Nat} (hl : L.length = n) (hi : i < n) (hn : n ≤ 1048576) (R X : List Int) (h0 : 0 < (pathL i L).length) : chkE R X i n ((pathL i L).drop 1) = some 2 := by
  have h : upE i n ((pathL i L).drop 1).length = some 2 := by
    rw [goes_upE hl hi hn _ rfl, List.length_drop, if_pos (by omega)]
  unfold chkE
  rw [h, if_neg (by simp)]
theorem goes_bad {L : List (List Int)} {i n : Nat} (hl : L.length = n) (hi : i < n) (hn : n ≤ 1048576) (R X : List Int) : chkE R X i n (pathL i L) = none ∨ chkE R X i n (pathL i L) = some 12 := by
  unfold chkE
  rw [goes_ok hl hi hn, if_pos rfl]
  split
  · exact .inl rfl
  · exact .inr rfl
theorem alloc1 (w : World) (c1 : List Value) (T1 : TypeId) : ∃ wA g, g = w.heap.size ∧ Blk wA g c1 T1 ∧ wA = w.alloc (.cells c1.toArray T1) ∧ Keeps Nil w wA :=
  ⟨_, _, rfl, Blk.new w c1 _, rfl, (Keeps.refl Nil w).alloc _⟩
theorem getD_cell {l : List Int} {n i : Nat} (h : l.length = n) (hi : i < n) : Option.map (Value.int .u8) l[i]? = some (.int .u8 (l.getD i 0)) := by simp [List.getD, show i < l.length by omega]
theorem getD_mem3 {l : List Int} {n i : Nat} (h : l.length = n) (hi : i < n) : l.getD i 0 ∈ l := by simp [List.getD, show i < l.length by omega]
theorem xor_one8 : ∀ x : Fin 256, 0 ≤ bits .xor .u8 (x.val : Int) 1 ∧ bits .xor .u8 (x.val : Int) 1 < 256 := by decide +kernel
theorem xor_one {x : Int} (h : 0 ≤ x ∧ x < 256) : 0 ≤ bits .xor .u8 x 1 ∧ bits .xor .u8 x 1 < 256 := by
  have := xor_one8 ⟨x.toNat, by omega⟩
  rwa [show ((⟨x.toNat, by omega⟩ : Fin 256).val : Int) = x by simp; omega] at this
set_option maxRecDepth 100000 in
set_option maxHeartbeats 3200000 in
theorem proofGoes_walk (a0 : Option Addr) (len0 cap0 : Nat) (z0 : List Int) (n1 n2 : Int) (w : World) {p : Nat → Addr} (w0 : IsRow .i64 w a0 len0 cap0 z0) (wf1 : (Lit.int .i64 n1).wf = true) (wf2 : (Lit.int .i64 n2).wf = true) (hE : Errs w p) :
    Calls Tryd.prog 5 #[.slice a0 len0 cap0, .int .i64 n1, .int .i64 n2] w (fun e w' => e = .returned (.bool true) ∧ Keeps Nil w w') := by
  have hw1 := i64_wf wf1
  have hw2 := i64_wf wf2
  have HE := Lib.hid hE
  have HR := Lib.hid (Row.of_isRow w0)
  clear hE wf1 wf2 w0
  by_cases hl : 60 < len0
  · have hl2 : (60 : Int) < len0 := by omega
    clear hl HR
    go_enter Tryd.func5, Tryd.ntmps5
    go_wp2_with fail
    refine (prooffirst_walk HE.out).mono ?_
    rintro e w1 ⟨rfl, hk1⟩
    go_wp2_with fail
    go_ret
    exact ⟨by first | rfl | simp, hk1⟩
  · have l0 : (len0 : Int) ≤ 60 := by omega
    clear hl
    go_enter Tryd.func5, Tryd.ntmps5
    go_wp2_with fail
    refine (prooffirst_walk HE.out).mono ?_
    rintro e w1 ⟨rfl, hk1⟩
    go_wp2_with fail
    have HH := Lib.hid (hashes_walk (SeqAt.make (cap := cap0) (HR.out.keep hk1)) rfl 40 (by omega))
    have HK1 := Lib.hid (hk1.alloc (.cells #[.slice a0 len0 cap0, .int .i64 0] 40))
    have HG := Lib.hid hk1.size
    clear hk1
    refine HH.out.mono ?_
    rintro e w2 ⟨ah, ch, L, rfl, hO, hA, hL, hk2, hf⟩
    have hKv : Keeps Nil w w2 := HK1.out.step hk2 (fun i hi => .inr (by rw [show i = w1.heap.size from hi]; exact HG.out))
    have hHs := Hs.own hO hA (by omega)
    have hcn := hO.2.1
    have hcx := hO.2.2.1
    unfold maxLen at hcx
    have HK2 := Lib.hid hKv
    clear HH hO hf hk2 HK1 HG HR hKv
    generalize hn : L.length = n at *
    have HN := Lib.hid hn
    clear hn
    by_cases h0 : n = 0
    · have hn : (n : Int) = 0 := by omega
      clear h0
      go_wp2_with fail
      go_ret
      exact ⟨by first | rfl | simp, HK2.out⟩
    · have hn0 : (0 : Int) < n := by omega
      have hn5 : (n : Int) ≤ 40 := by omega
      clear h0
      go_wp2_with fail
      refine (number_walk n1 n _ hw1.1 hw1.2 (by omega) (by omega)).mono ?_
      rintro e w3 ⟨rfl, rfl⟩
      obtain ⟨i, hi⟩ := Int.eq_ofNat_of_zero_le (Int.emod_nonneg n1 (show (n : Int) ≠ 0 by omega))
      have hi9 := Int.emod_lt_of_pos n1 (show (0 : Int) < n by omega)
      rw [hi] at hi9 ⊢
      clear hi hw1
      have hi8 : i < n := by omega
      have hi0 : (0 : Int) ≤ i := by omega
      have hRl := rootL_is hA
      have hXl := hA.at_ (i := i) (by rw [HN.out]; exact hi8)
      have hUH := Tryd.undH
      have hR32 : (byteV (rootL L)).length = 32 := by rw [byteV_len]; exact hRl.1
      have hiR : (Tryd.prog.info? 26).map (·.size) = some (byteV (rootL L)).length := by rw [hR32]; exact Tryd.infoH
      have hX32 : (byteV (L.getD i [])).length = 32 := by rw [byteV_len]; exact hXl.1
      have hiX : (Tryd.prog.info? 26).map (·.size) = some (byteV (L.getD i [])).length := by rw [hX32]; exact Tryd.infoH
      have hoR := byteV_one (rootL L)
      have hoX := byteV_one (L.getD i [])
      have hzv := Tryd.zeroH32
      have HZ := Lib.hid (show (byteV z32).length = 32 by rw [byteV_len, z32_len])
      generalize byteV z32 = Z at *
      have HHs := Lib.hid hHs
      clear hHs
      have HRT := Lib.hid (refRoot_walk n (cap := ch) HN.out HHs.out hcn (by omega))
      go_wp2_with fail
      refine HRT.out.mono ?_
      rintro e w3 ⟨rfl, qk⟩
      have hbN := Blk.new w3 Z 26
      have hka := (Keeps.refl (One w3.heap.size) w3).alloc (.cells Z.toArray 26)
      have HW3 := Lib.hid (And.intro (HK2.out.trans qk) (And.intro (HHs.out.keep0 qk) hka))
      clear qk hka HRT HK2 HHs
      go_wp2_with (refine wpl_store rfl 26 _ _ rfl w3.heap.size rfl (byteV (rootL L)) rfl hbN (by rw [hR32, HZ.out]) hiR hoR ?_)
      intro w4 hbR hk4 _
      have hk34 := HW3.out.2.2.trans hk4
      have HK4 := Lib.hid (HW3.out.1.step hk34 (fun i hi => .inr (by rw [show i = w3.heap.size from hi]; exact HW3.out.1.size)))
      have HH4 := Lib.hid (HW3.out.2.1.keepF hk34 (fun k _ hl e => by have e' : k = w3.heap.size := e; omega))
      have HP := Lib.hid (pathOk_walk (cap := ch) (i := i) HN.out HH4.out hcn (by omega) hi8 (by omega))
      have HBR := Lib.hid hbR
      clear hk4 hk34 hbN HW3 hbR
      generalize w3.heap.size = gR at *
      go_wp2_with fail
      refine HP.out.mono ?_
      rintro e w5 ⟨aP, cP, rfl, ho, qk, _⟩
      have hPA := pathL_are n i L HN.out hA
      have hPm : (pathL i L).length ≤ 60 := by rw [pathL_len n i L HN.out]; have := depthN_le n i; omega
      have HPh := Lib.hid (ho.hs hPA (by omega))
      have hPc := ho.2.1
      have hPx := ho.2.2.1
      unfold maxLen at hPx
      have HPo := Lib.hid ho
      have HK5 := Lib.hid (HK4.out.trans qk)
      have HH5 := Lib.hid (HH4.out.keep0 qk)
      have hbR5 := HBR.out.keep0 qk
      have HC1 := Lib.hid (goes_chk HN.out hi8 (by omega))
      have HV1 := Lib.hid (goes_val HN.out hi8 (by omega))
      have HU1 := Lib.hid (goes_ok HN.out hi8 (by omega))
      have HC2 := Lib.hid (goes_more HN.out hi8 (by omega) (rootL L) (L.getD i []))
      have HC3 := Lib.hid (goes_less HN.out hi8 (by omega) (rootL L) (L.getD i []))
      have HC4 := Lib.hid (goes_bad HN.out hi8 (by omega) (rootL L))
      obtain ⟨b, off, ha, hb, hr⟩ := HH5.out.rng (by rw [HN.out]; omega)
      have hld := hr i (by rw [HN.out]; exact hi8)
      clear HP ho qk HBR HH4 HK4 hr
      subst ha
      generalize hP : pathL i L = P at *
      unfold OwnH at HPo
      generalize hnP : P.length = m at *
      have HNP := Lib.hid hnP
      clear hP hnP
      have hR2 : Hash32 (rootL L) := hRl
      have hX2 : Hash32 (L.getD i []) := hXl
      have hic : (i : Int) < ch := by omega
      generalize hRR : rootL L = R at *
      generalize hXX : L.getD i [] = X at *
      have HRX := Lib.hid (And.intro hRR hXX)
      clear hRR hXX
      have HE5 := Lib.hid (fun w' (hk : Keeps Nil w5 w') => HE.out.keep (HK5.out.trans hk))
      have HCK := Lib.hid (fun w' (hk : Keeps Nil w5 w') => check_walk (R := R) (X := X) (i := i) (n := n) (P := P) (m := m) (cap := cP) (a := aP) (HE5.out w' hk) HNP.out (HPh.out.keep0 hk) hPc (by omega) hR2 hX2)
      unfold ChkPost at HCK
      rw [HC1.out, show errO p none = .nilIface from rfl] at HCK
      unfold keyV at HCK
      go_wp2_with fail
      refine wp_region_held_drew (S := fun w' => Keeps Nil w5.drew w') (by kernel_rfl) (Keeps.refl _ _) (fun hHeld => ?_)
      have hk5d := (Keeps.refl Nil w5).drew
      have hbR6 := hbR5.drew
      have hld6 := rangeAt_keep hld hk5d (fun h => h)
      generalize hv : w5.drew = v0 at *
      refine takeL (i := 0) (v := _) rfl (by kernel_rfl) (by kernel_rfl) (by kernel_rfl) (fun _ _ _ h => h) (Or.inl ⟨by rfl, by intro w hSw; (try dsimp only at hSw); go_simp; try with_reducible rfl⟩) (by assumption) ?_
      try simp only [Act.put, List.setIfInBounds_toArray, List.set_cons_zero, List.set_cons_succ]
      refine takeL (i := 1) (v := _) rfl (by kernel_rfl) (by kernel_rfl) (by kernel_rfl) (fun _ _ _ h => h) (Or.inl ⟨by rfl, by intro w hSw; (try dsimp only at hSw); go_simp; try with_reducible rfl⟩) (by assumption) ?_
      try simp only [Act.put, List.setIfInBounds_toArray, List.set_cons_zero, List.set_cons_succ]
      refine takeL (i := 2) (v := _) rfl (by kernel_rfl) (by kernel_rfl) (by kernel_rfl) (fun _ _ _ h => h) (Or.inl ⟨by rfl, by intro w hSw; (try dsimp only at hSw); go_simp; try with_reducible rfl⟩) (by assumption) ?_
      try simp only [Act.put, List.setIfInBounds_toArray, List.set_cons_zero, List.set_cons_succ]
      refine takeL (i := 3) (v := _) rfl (by kernel_rfl) (by kernel_rfl) (by kernel_rfl) (fun _ _ _ h => h) (yieldsIf_load_mid (by rfl) 26 _ rfl gR 0 rfl (byteV R) _ (fun w hSw => ((hbR6.keep0 hSw).range0)) hUH rfl hiR) (by assumption) ?_
      try simp only [Act.put, List.setIfInBounds_toArray, List.set_cons_zero, List.set_cons_succ]
      refine takeL (i := 4) (v := _) rfl (by kernel_rfl) (by kernel_rfl) (by kernel_rfl) (fun _ _ _ h => h) (Or.inl ⟨by rfl, by intro w hSw; (try dsimp only at hSw); go_simp; try with_reducible rfl⟩) (by assumption) ?_
      try simp only [Act.put, List.setIfInBounds_toArray, List.set_cons_zero, List.set_cons_succ]
      refine takeL (i := 5) (v := _) rfl (by kernel_rfl) (by kernel_rfl) (by kernel_rfl) (fun _ _ _ h => h) (Or.inl ⟨by rfl, by intro w hSw; (try dsimp only at hSw); go_simp; try with_reducible rfl⟩) (by assumption) ?_
      try simp only [Act.put, List.setIfInBounds_toArray, List.set_cons_zero, List.set_cons_succ]
      refine takeL (i := 6) (v := _) rfl (by kernel_rfl) (by kernel_rfl) (by kernel_rfl) (fun _ _ _ h => h) (Or.inl ⟨by rfl, by intro w hSw; (try dsimp only at hSw); go_simp; try with_reducible rfl⟩) (by assumption) ?_
      try simp only [Act.put, List.setIfInBounds_toArray, List.set_cons_zero, List.set_cons_succ]
      refine takeL (i := 7) (v := _) rfl (by kernel_rfl) (by kernel_rfl) (by kernel_rfl) (fun _ _ _ h => h) (yieldsIf_load_mid (by rfl) 26 _ rfl b (off+i*32) rfl (byteV X) _ (fun w hSw => (rangeAt_keep hld6 hSw (fun h => h))) hUH rfl hiX) (by assumption) ?_
      try simp only [Act.put, List.setIfInBounds_toArray, List.set_cons_zero, List.set_cons_succ]
      refine takeL (i := 8) (v := _) rfl (by kernel_rfl) (by kernel_rfl) (by kernel_rfl) (fun _ _ _ h => h) (Or.inl ⟨by rfl, by intro w hSw; (try dsimp only at hSw); go_simp; try with_reducible rfl⟩) (by assumption) ?_
      try simp only [Act.put, List.setIfInBounds_toArray, List.set_cons_zero, List.set_cons_succ]
      refine takeL (i := 9) (v := _) rfl (by kernel_rfl) (by kernel_rfl) (by kernel_rfl) (fun _ _ _ h => h) (Or.inl ⟨by rfl, by intro w hSw; (try dsimp only at hSw); go_simp; try with_reducible rfl⟩) (by assumption) ?_
      try simp only [Act.put, List.setIfInBounds_toArray, List.set_cons_zero, List.set_cons_succ]
      refine takeL (i := 10) (v := _) rfl (by kernel_rfl) (by kernel_rfl) (by kernel_rfl) (fun _ _ _ h => h) (Or.inl ⟨by rfl, by intro w hSw; (try dsimp only at hSw); go_simp; try with_reducible rfl⟩) (by assumption) ?_
      try simp only [Act.put, List.setIfInBounds_toArray, List.set_cons_zero, List.set_cons_succ]
      refine onlyL (i := 11) rfl (by kernel_rfl) (fun K hK => ?_)
      go_simp
      refine (HCK.out _ hk5d).mono ?_
      rintro e w6 ⟨rfl, qk⟩
      have HK6 := Lib.hid (hk5d.trans qk)
      refine (fun hHeld => hK _ _ hHeld ?_) (qk)
      clear hK
      try simp only [Act.put, List.setIfInBounds_toArray, List.set_cons_zero, List.set_cons_succ]
      refine takeL (i := 12) (v := _) rfl (by kernel_rfl) (by kernel_rfl) (by kernel_rfl) (fun _ _ _ h => h) (Or.inl ⟨by rfl, by intro w hSw; (try dsimp only at hSw); go_simp; try with_reducible rfl⟩) (by assumption) ?_
      try simp only [Act.put, List.setIfInBounds_toArray, List.set_cons_zero, List.set_cons_succ]
      refine takeL (i := 13) (v := _) rfl (by kernel_rfl) (by kernel_rfl) (by kernel_rfl) (fun _ _ _ h => h) (Or.inl ⟨by rfl, by intro w hSw; (try dsimp only at hSw); go_simp; try with_reducible rfl⟩) (by assumption) ?_
      try simp only [Act.put, List.setIfInBounds_toArray, List.set_cons_zero, List.set_cons_succ]
      refine wpAnyH_done (by kernel_rfl) ?_ _
      clear qk hbR6 hld6 hk5d hHeld
      have hbR6 := hbR5.keep0 HK6.out
      have hld6 := rangeAt_keep hld HK6.out (fun h => h)
      have HUP := Lib.hid (upBig_walk (X := X) (i := i) (n := n) (HE5.out _ HK6.out) HNP.out (HPh.out.keep0 HK6.out) hPc (by omega) hX2)
      unfold UpPost at HUP
      rw [show upE (i : Int) n P.length = none by rw [HNP.out]; exact HU1.out, HV1.out, show errO p none = .nilIface from rfl] at HUP
      unfold keyV at HUP
      clear hbR5 hld hv
      go_wp2_with (refine wpl_load_at rfl 26 _ rfl b (off + i * 32) rfl (byteV X) hld6 _ hUH rfl hiX ?_)
      go_wp2_with fail
      refine HUP.out.mono ?_
      rintro e w7 ⟨rfl, qk⟩
      have hbN := Blk.new w7 Z 26
      have hka := (Keeps.refl Nil w7).alloc (.cells Z.toArray 26)
      have HK7 := Lib.hid ((HK6.out.trans qk).trans hka)
      have hbR7 := (hbR6.keep0 qk).keep0 hka
      have hld7 := rangeAt_keep (rangeAt_keep hld6 qk (fun h => h)) hka (fun h => h)
      have hgR := (hbR6.keep0 qk).lt
      have hge := (HK6.out.trans qk).size
      clear qk hka HUP hbR6 hld6
      go_wp2_with (refine wpl_store rfl 26 _ _ rfl w7.heap.size rfl (byteV R) rfl hbN (by rw [hR32, HZ.out]) hiR hoR ?_)
      intro w8 hbU hk8 _
      have HK8 := Lib.hid (HK7.out.step hk8 (fun i hi => .inr (by rw [show i = w7.heap.size from hi]; exact hge)))
      have hbR8 := hbR7.keep hk8 (fun e => by have e' : gR = w7.heap.size := e; omega)
      have hbl := hb
      have hbw : b ≠ w7.heap.size := by have := HK5.out.size; omega
      have hld8 := rangeAt_keep hld7 hk8 (fun e => hbw e)
      have HPo8 := Lib.hid (HPo.out.keep0 HK8.out)
      have HPh8 := Lib.hid (HPh.out.keep0 HK8.out)
      clear hk8 hbN hbR7 hld7 hgR hge HK7 HK6 hbw
      generalize w7.heap.size = gU at *
      have hqN := fun w => Tryd.neqDig hR2.1 hR2.1 hR2.2 hR2.2 w
      rw [bne_self_eq_false] at hqN
      have hgN := Tryd.guardH2
      have HCM := Lib.hid (fun w' (hk : Keeps Nil w5 w') (a : Option Addr) (c : Nat) (h : Hs w' a (P ++ [R])) (hc : m + 1 ≤ c) (hx : c ≤ 9223372036854775807) => check_walk (R := R) (X := X) (i := i) (n := n) (P := P ++ [R]) (m := m + 1) (cap := c) (a := a) (HE5.out w' hk) (by rw [List.length_append, HNP.out]; rfl) h hc hx hR2 hX2)
      unfold ChkPost at HCM
      rw [HC2.out R, show errO p (some 3) = errV p 3 from rfl] at HCM
      have HCL := Lib.hid (fun w' (hk : Keeps Nil w5 w') (a : Option Addr) (c q : Nat) (hq : (P.drop 1).length = q) (h : Hs w' a (P.drop 1)) (hc : q ≤ c) (hx : c ≤ 9223372036854775807) (hch : chkE R X i n (P.drop 1) = some 2) => by
        have h1 := check_walk (R := R) (X := X) (i := i) (n := n) (P := P.drop 1) (m := q) (cap := c) (a := a) (HE5.out w' hk) hq h hc hx hR2 hX2
        unfold ChkPost at h1
        rw [hch, show errO p (some 2) = errV p 2 from rfl] at h1
        unfold keyV at h1
        exact h1)
      have HI2 := Lib.hid (fun w' (hk : Keeps Nil w5 w') => is_walk (HE5.out w' hk) (v := errV p 2) (c := 103) (pl := false) (q := 0) (.inr (.inl ⟨2, by omega, rfl, by omega, rfl, rfl⟩)) 103)
      rw [show isV 103 false 0 103 = true by simp [isV, sameF]] at HI2
      generalize errV p 2 = V2 at *
      have HI3 := Lib.hid (fun w' (hk : Keeps Nil w5 w') => is_walk (HE5.out w' hk) (v := errV p 3) (c := 104) (pl := false) (q := 0) (.inr (.inl ⟨3, by omega, rfl, by omega, rfl, rfl⟩)) 104)
      rw [show isV 104 false 0 104 = true by simp [isV, sameF]] at HI3
      unfold keyV at HCM
      generalize errV p 3 = V3 at *
      go_upto_region 16 with fail
      go_cut [94] from 70 to 94 (fun s94 wx => s94 = .bool false ∧ Keeps Nil w8 wx)
      case first =>
        refine wp_region_held_drew (S := fun w' => Keeps Nil w8.drew w') (by kernel_rfl) (Keeps.refl _ _) (fun hHeld => ?_)
        have HFD := Lib.hid (Keeps.refl Nil w8).drew
        have hKB : Keeps Nil w8.drew w8.drew := Keeps.refl _ _
        replace HK8 := Lib.hid (HK8.out.drew)
        replace HPo8 := Lib.hid (HPo8.out.keep0 (Keeps.refl Nil w8).drew)
        replace HPh8 := Lib.hid (HPh8.out.keep0 (Keeps.refl Nil w8).drew)
        replace hbR8 := hbR8.drew
        replace hbU := hbU.drew
        replace hld8 := rangeAt_keep hld8 (Keeps.refl Nil w8).drew (fun h => h)
        generalize w8.drew = v0 at *
        refine takeL (i := 0) (v := _) rfl (by kernel_rfl) (by kernel_rfl) (by kernel_rfl) (fun _ _ _ h => h) (Or.inl ⟨by rfl, by intro w hSw; (try dsimp only at hSw); go_simp; try with_reducible rfl⟩) (by assumption) ?_
        try simp only [Act.put, List.setIfInBounds_toArray, List.set_cons_zero, List.set_cons_succ]
        refine takeL (i := 1) (v := _) rfl (by kernel_rfl) (by kernel_rfl) (by kernel_rfl) (fun _ _ _ h => h) (Or.inl ⟨by rfl, by intro w hSw; (try dsimp only at hSw); go_simp; try with_reducible rfl⟩) (by assumption) ?_
        try simp only [Act.put, List.setIfInBounds_toArray, List.set_cons_zero, List.set_cons_succ]
        refine takeL (i := 2) (v := _) rfl (by kernel_rfl) (by kernel_rfl) (by kernel_rfl) (fun _ _ _ h => h) (Or.inl ⟨by rfl, by intro w hSw; (try dsimp only at hSw); go_simp; try with_reducible rfl⟩) (by assumption) ?_
        try simp only [Act.put, List.setIfInBounds_toArray, List.set_cons_zero, List.set_cons_succ]
        refine takeL (i := 3) (v := _) rfl (by kernel_rfl) (by kernel_rfl) (by kernel_rfl) (fun _ _ _ h => h) (yieldsIf_load_mid (by rfl) 26 _ rfl gU 0 rfl (byteV R) _ (fun w hSw => ((hbU.keep0 hSw).range0)) hUH rfl hiR) (by assumption) ?_
        try simp only [Act.put, List.setIfInBounds_toArray, List.set_cons_zero, List.set_cons_succ]
        refine takeL (i := 4) (v := _) rfl (by kernel_rfl) (by kernel_rfl) (by kernel_rfl) (fun _ _ _ h => h) (yieldsIf_load_mid (by rfl) 26 _ rfl gR 0 rfl (byteV R) _ (fun w hSw => ((hbR8.keep0 hSw).range0)) hUH rfl hiR) (by assumption) ?_
        try simp only [Act.put, List.setIfInBounds_toArray, List.set_cons_zero, List.set_cons_succ]
        refine takeL (i := 5) (v := _) rfl (by kernel_rfl) (by kernel_rfl) (by kernel_rfl) (fun _ _ _ h => h) (yieldsIf_bin (by rfl) _ _ _ _ _ rfl _ _ rfl rfl _ hqN (hgN _ _ _ _ _)) (by assumption) ?_
        try simp only [Act.put, List.setIfInBounds_toArray, List.set_cons_zero, List.set_cons_succ]
        refine takeL (i := 6) (v := _) rfl (by kernel_rfl) (by kernel_rfl) (by kernel_rfl) (fun _ _ _ h => h) (Or.inl ⟨by rfl, by intro w hSw; (try dsimp only at hSw); go_simp; try with_reducible rfl⟩) (by assumption) ?_
        try simp only [Act.put, List.setIfInBounds_toArray, List.set_cons_zero, List.set_cons_succ]
        refine takeL (i := 7) (v := _) rfl (by kernel_rfl) (by kernel_rfl) (by kernel_rfl) (fun _ _ _ h => h) (Or.inl ⟨by rfl, by intro w hSw; (try dsimp only at hSw); go_simp; try with_reducible rfl⟩) (by assumption) ?_
        try simp only [Act.put, List.setIfInBounds_toArray, List.set_cons_zero, List.set_cons_succ]
        refine takeL (i := 8) (v := _) rfl (by kernel_rfl) (by kernel_rfl) (by kernel_rfl) (fun _ _ _ h => h) (yieldsIf_load_mid (by rfl) 26 _ rfl gR 0 rfl (byteV R) _ (fun w hSw => ((hbR8.keep0 hSw).range0)) hUH rfl hiR) (by assumption) ?_
        try simp only [Act.put, List.setIfInBounds_toArray, List.set_cons_zero, List.set_cons_succ]
        refine takeL (i := 9) (v := _) rfl (by kernel_rfl) (by kernel_rfl) (by kernel_rfl) (fun _ _ _ h => h) (Or.inl ⟨by rfl, by intro w hSw; (try dsimp only at hSw); go_simp; try with_reducible rfl⟩) (by assumption) ?_
        try simp only [Act.put, List.setIfInBounds_toArray, List.set_cons_zero, List.set_cons_succ]
        refine takeL (i := 10) (v := _) rfl (by kernel_rfl) (by kernel_rfl) (by kernel_rfl) (fun _ _ _ h => h) (Or.inl ⟨by rfl, by intro w hSw; (try dsimp only at hSw); go_simp; try with_reducible rfl⟩) (by assumption) ?_
        try simp only [Act.put, List.setIfInBounds_toArray, List.set_cons_zero, List.set_cons_succ]
        refine takeL (i := 11) (v := _) rfl (by kernel_rfl) (by kernel_rfl) (by kernel_rfl) (fun _ _ _ h => h) (Or.inl ⟨by rfl, by intro w hSw; (try dsimp only at hSw); go_simp; try with_reducible rfl⟩) (by assumption) ?_
        try simp only [Act.put, List.setIfInBounds_toArray, List.set_cons_zero, List.set_cons_succ]
        refine takeL (i := 12) (v := _) rfl (by kernel_rfl) (by kernel_rfl) (by kernel_rfl) (fun _ _ _ h => h) (yieldsIf_load_mid (by rfl) 26 _ rfl b (off+i*32) rfl (byteV X) _ (fun w hSw => (rangeAt_keep hld8 hSw (fun h => h))) hUH rfl hiX) (by assumption) ?_
        try simp only [Act.put, List.setIfInBounds_toArray, List.set_cons_zero, List.set_cons_succ]
        refine takeL (i := 13) (v := _) rfl (by kernel_rfl) (by kernel_rfl) (by kernel_rfl) (fun _ _ _ h => h) (Or.inl ⟨by rfl, by intro w hSw; (try dsimp only at hSw); go_simp; try with_reducible rfl⟩) (by assumption) ?_
        try simp only [Act.put, List.setIfInBounds_toArray, List.set_cons_zero, List.set_cons_succ]
        refine takeL (i := 14) (v := _) rfl (by kernel_rfl) (by kernel_rfl) (by kernel_rfl) (fun _ _ _ h => h) (Or.inl ⟨by rfl, by intro w hSw; (try dsimp only at hSw); go_simp; try with_reducible rfl⟩) (by assumption) ?_
        try simp only [Act.put, List.setIfInBounds_toArray, List.set_cons_zero, List.set_cons_succ]
        refine takeL (i := 16) (v := _) rfl (by kernel_rfl) (by kernel_rfl) (by kernel_rfl) (fun _ _ _ h => h) (Or.inl ⟨by rfl, by intro w hSw; (try dsimp only at hSw); go_simp; try with_reducible rfl⟩) (by assumption) ?_
        try simp only [Act.put, List.setIfInBounds_toArray, List.set_cons_zero, List.set_cons_succ]
        refine takeL (i := 18) (v := _) rfl (by kernel_rfl) (by kernel_rfl) (by kernel_rfl) (fun _ _ _ h => h) (yieldsIf_load_mid (by rfl) 26 _ rfl gR 0 rfl (byteV R) _ (fun w hSw => ((hbR8.keep0 hSw).range0)) hUH rfl hiR) (by assumption) ?_
        try simp only [Act.put, List.setIfInBounds_toArray, List.set_cons_zero, List.set_cons_succ]
        refine bothL (i := 15) (j := 19) rfl rfl (by kernel_rfl) (fun K hK => ?_) (fun K hK => ?_)
        · skip
          refine step_W (by rfl) ?_
          refine step_bs0O rfl 24 26 rfl Tryd.underlying24 (by kernel_rfl) 32 ?_
          intro g15 w15 hg15 ho15 qk
          have hge15 : v0.heap.size ≤ g15 := by have := hKB.size; omega
          try (have hne : g19 ≠ g15 := by have := hb19.lt; omega)
          clear hg15
          refine (fun hHeld => hK _ _ hHeld ?_) ((hKB.trans qk))
          clear hK
          try simp only [Act.put, List.setIfInBounds_toArray, List.set_cons_zero, List.set_cons_succ]
          replace hKB := hKB.trans qk
          refine bothL (i := 17) (j := 19) rfl rfl (by kernel_rfl) (fun K hK => ?_) (fun K hK => ?_)
          · skip
            refine step_W (by rfl) ?_
            refine step_appendO rfl _ _ 24 rfl 26 32 32 Tryd.underlying24 Tryd.infoHhP (by omega) (some ⟨g15, 0, none⟩) 0 0 [] rfl ho15 aP m cP (byteV P.flatten) rfl ((HPo8.out.keep0 hKB).src (byteV_one _)) (by unfold maxLen; omega) (by omega) ?_
            intro a17 c17 w17 ho17 qk17 hf17
            have hf17' : ∀ k, blkOf a17 k → v0.heap.size ≤ k := fun k hk => by
              rcases hf17 k hk with h' | h'
              · rw [(blkOf_some _ _ _ _).1 h']; exact hge15
              · rw [h']; exact hKB.size
            replace hKB := hKB.step qk17 (fun i hi => .inr (by rw [(blkOf_some _ _ _ _).1 hi]; exact hge15))
            try (replace hb19 := hb19.keep qk17 (fun e => hne ((blkOf_some _ _ _ _).1 e)))
            clear qk17 hf17 ho15
            rw [Nat.zero_add] at ho17 ⊢
            rw [List.nil_append] at ho17
            refine (fun hHeld => hK _ _ hHeld ?_) (hKB)
            clear hK
            try simp only [Act.put, List.setIfInBounds_toArray, List.set_cons_zero, List.set_cons_succ]
            refine onlyL (i := 19) rfl (by kernel_rfl) (fun K hK => ?_)
            refine step_W (by rfl) ?_
            refine step_bsOne rfl 24 26 _ rfl (byteV R) (.agg (byteV R).toArray) rfl 32 Tryd.underlying24 Tryd.infoHhP2 (by omega) (by omega) hR32 (by simp [Act.eval]) ?_
            obtain ⟨w19, g19, hg19, hb19, hw19, qk⟩ := alloc1 _ (byteV R) 26
            rw [← hw19, ← hg19]
            try (have hne : g19 ≠ g15 := by have := ho15.lt g15 ((blkOf_some _ _ _ _).2 rfl); omega)
            clear hg19 hw19
            refine (fun hHeld => hK _ _ hHeld ?_) ((hKB.trans qk))
            clear hK
            try simp only [Act.put, List.setIfInBounds_toArray, List.set_cons_zero, List.set_cons_succ]
            replace hKB := hKB.trans qk
            replace ho17 := ho17.keep0 qk
            refine onlyL (i := 20) rfl (by kernel_rfl) (fun K hK => ?_)
            refine step_W (by rfl) ?_
            refine step_appendO rfl _ _ 24 rfl 26 32 32 Tryd.underlying24 Tryd.infoHhP (by omega) a17 c17 m _ rfl ho17 (some ⟨g19, 0, none⟩) 1 1 (byteV R) rfl (src_hash hb19 hR2.1) (by unfold maxLen; omega) (by omega) ?_
            intro a20 c20 w20 ho20 qk20 _
            replace hKB := hKB.step qk20 (fun i hi => .inr (hf17' i hi))
            clear qk20
            refine (fun hHeld => hK _ _ hHeld ?_) (hKB)
            clear hK
            try simp only [Act.put, List.setIfInBounds_toArray, List.set_cons_zero, List.set_cons_succ]
            refine onlyL (i := 21) rfl (by kernel_rfl) (fun K hK => ?_)
            go_simp
            have hK8B := HK8.out.trans hKB
            have hoM : OwnH w20 a20 c20 (P ++ [R]) := OwnH.snoc HNP.out ho20
            have hAM : AreH (P ++ [R]) := hPA.append (fun y hy => by rw [List.mem_singleton.1 hy]; exact hR2)
            refine (HCM.out _ hK8B a20 c20 (hoM.hs hAM (by rw [List.length_append, HNP.out]; simp only [List.length_singleton]; omega)) ho20.2.1 (by have := ho20.2.2.1; unfold maxLen at this; omega)).mono ?_
            rintro e w21 ⟨rfl, qk⟩
            replace hKB := hKB.trans qk
            replace hK8B := hK8B.trans qk
            clear qk hoM ho20
            refine (fun hHeld => hK _ _ hHeld ?_) (hKB)
            clear hK
            try simp only [Act.put, List.setIfInBounds_toArray, List.set_cons_zero, List.set_cons_succ]
            refine onlyL (i := 22) rfl (by kernel_rfl) (fun K hK => ?_)
            go_simp
            refine (HI3.out _ hK8B).mono ?_
            rintro e w22 ⟨rfl, qk⟩
            replace hKB := hKB.trans qk
            replace hK8B := hK8B.trans qk
            clear qk
            refine (fun hHeld => hK _ _ hHeld ?_) (hKB)
            clear hK
            try simp only [Act.put, List.setIfInBounds_toArray, List.set_cons_zero, List.set_cons_succ]
            refine takeL (i := 23) (v := _) rfl (by kernel_rfl) (by kernel_rfl) (by kernel_rfl) (fun _ _ _ h => h) (Or.inl ⟨by rfl, by intro w hSw; (try dsimp only at hSw); go_simp; try with_reducible rfl⟩) (by assumption) ?_
            try simp only [Act.put, List.setIfInBounds_toArray, List.set_cons_zero, List.set_cons_succ]
            refine takeL (i := 24) (v := _) rfl (by kernel_rfl) (by kernel_rfl) (by kernel_rfl) (fun _ _ _ h => h) (Or.inl ⟨by rfl, by intro w hSw; (try dsimp only at hSw); go_simp; try with_reducible rfl⟩) (by assumption) ?_
            try simp only [Act.put, List.setIfInBounds_toArray, List.set_cons_zero, List.set_cons_succ]
            refine wpAnyH_done (by kernel_rfl) ?_ _
            have HF := Lib.hid hKB
            clear hK8B hKB hHeld
            go_wp2_with fail
            go_meet
            exact ⟨rfl, HFD.out.trans HF.out⟩
          · skip
            refine step_W (by rfl) ?_
            refine step_bsOne rfl 24 26 _ rfl (byteV R) (.agg (byteV R).toArray) rfl 32 Tryd.underlying24 Tryd.infoHhP2 (by omega) (by omega) hR32 (by simp [Act.eval]) ?_
            obtain ⟨w19, g19, hg19, hb19, hw19, qk⟩ := alloc1 _ (byteV R) 26
            rw [← hw19, ← hg19]
            try (have hne : g19 ≠ g15 := by have := ho15.lt g15 ((blkOf_some _ _ _ _).2 rfl); omega)
            clear hg19 hw19
            refine (fun hHeld => hK _ _ hHeld ?_) ((hKB.trans qk))
            clear hK
            try simp only [Act.put, List.setIfInBounds_toArray, List.set_cons_zero, List.set_cons_succ]
            replace hKB := hKB.trans qk
            replace ho15 := ho15.keep0 qk
            refine onlyL (i := 17) rfl (by kernel_rfl) (fun K hK => ?_)
            refine step_W (by rfl) ?_
            refine step_appendO rfl _ _ 24 rfl 26 32 32 Tryd.underlying24 Tryd.infoHhP (by omega) (some ⟨g15, 0, none⟩) 0 0 [] rfl ho15 aP m cP (byteV P.flatten) rfl ((HPo8.out.keep0 hKB).src (byteV_one _)) (by unfold maxLen; omega) (by omega) ?_
            intro a17 c17 w17 ho17 qk17 hf17
            have hf17' : ∀ k, blkOf a17 k → v0.heap.size ≤ k := fun k hk => by
              rcases hf17 k hk with h' | h'
              · rw [(blkOf_some _ _ _ _).1 h']; exact hge15
              · rw [h']; exact hKB.size
            replace hKB := hKB.step qk17 (fun i hi => .inr (by rw [(blkOf_some _ _ _ _).1 hi]; exact hge15))
            try (replace hb19 := hb19.keep qk17 (fun e => hne ((blkOf_some _ _ _ _).1 e)))
            clear qk17 hf17 ho15
            rw [Nat.zero_add] at ho17 ⊢
            rw [List.nil_append] at ho17
            refine (fun hHeld => hK _ _ hHeld ?_) (hKB)
            clear hK
            try simp only [Act.put, List.setIfInBounds_toArray, List.set_cons_zero, List.set_cons_succ]
            refine onlyL (i := 20) rfl (by kernel_rfl) (fun K hK => ?_)
            refine step_W (by rfl) ?_
            refine step_appendO rfl _ _ 24 rfl 26 32 32 Tryd.underlying24 Tryd.infoHhP (by omega) a17 c17 m _ rfl ho17 (some ⟨g19, 0, none⟩) 1 1 (byteV R) rfl (src_hash hb19 hR2.1) (by unfold maxLen; omega) (by omega) ?_
            intro a20 c20 w20 ho20 qk20 _
            replace hKB := hKB.step qk20 (fun i hi => .inr (hf17' i hi))
            clear qk20
            refine (fun hHeld => hK _ _ hHeld ?_) (hKB)
            clear hK
            try simp only [Act.put, List.setIfInBounds_toArray, List.set_cons_zero, List.set_cons_succ]
            refine onlyL (i := 21) rfl (by kernel_rfl) (fun K hK => ?_)
            go_simp
            have hK8B := HK8.out.trans hKB
            have hoM : OwnH w20 a20 c20 (P ++ [R]) := OwnH.snoc HNP.out ho20
            have hAM : AreH (P ++ [R]) := hPA.append (fun y hy => by rw [List.mem_singleton.1 hy]; exact hR2)
            refine (HCM.out _ hK8B a20 c20 (hoM.hs hAM (by rw [List.length_append, HNP.out]; simp only [List.length_singleton]; omega)) ho20.2.1 (by have := ho20.2.2.1; unfold maxLen at this; omega)).mono ?_
            rintro e w21 ⟨rfl, qk⟩
            replace hKB := hKB.trans qk
            replace hK8B := hK8B.trans qk
            clear qk hoM ho20
            refine (fun hHeld => hK _ _ hHeld ?_) (hKB)
            clear hK
            try simp only [Act.put, List.setIfInBounds_toArray, List.set_cons_zero, List.set_cons_succ]
            refine onlyL (i := 22) rfl (by kernel_rfl) (fun K hK => ?_)
            go_simp
            refine (HI3.out _ hK8B).mono ?_
            rintro e w22 ⟨rfl, qk⟩
            replace hKB := hKB.trans qk
            replace hK8B := hK8B.trans qk
            clear qk
            refine (fun hHeld => hK _ _ hHeld ?_) (hKB)
            clear hK
            try simp only [Act.put, List.setIfInBounds_toArray, List.set_cons_zero, List.set_cons_succ]
            refine takeL (i := 23) (v := _) rfl (by kernel_rfl) (by kernel_rfl) (by kernel_rfl) (fun _ _ _ h => h) (Or.inl ⟨by rfl, by intro w hSw; (try dsimp only at hSw); go_simp; try with_reducible rfl⟩) (by assumption) ?_
            try simp only [Act.put, List.setIfInBounds_toArray, List.set_cons_zero, List.set_cons_succ]
            refine takeL (i := 24) (v := _) rfl (by kernel_rfl) (by kernel_rfl) (by kernel_rfl) (fun _ _ _ h => h) (Or.inl ⟨by rfl, by intro w hSw; (try dsimp only at hSw); go_simp; try with_reducible rfl⟩) (by assumption) ?_
            try simp only [Act.put, List.setIfInBounds_toArray, List.set_cons_zero, List.set_cons_succ]
            refine wpAnyH_done (by kernel_rfl) ?_ _
            have HF := Lib.hid hKB
            clear hK8B hKB hHeld
            go_wp2_with fail
            go_meet
            exact ⟨rfl, HFD.out.trans HF.out⟩
        · skip
          refine step_W (by rfl) ?_
          refine step_bsOne rfl 24 26 _ rfl (byteV R) (.agg (byteV R).toArray) rfl 32 Tryd.underlying24 Tryd.infoHhP2 (by omega) (by omega) hR32 (by simp [Act.eval]) ?_
          obtain ⟨w19, g19, hg19, hb19, hw19, qk⟩ := alloc1 _ (byteV R) 26
          rw [← hw19, ← hg19]
          try (have hne : g19 ≠ g15 := by have := ho15.lt g15 ((blkOf_some _ _ _ _).2 rfl); omega)
          clear hg19 hw19
          refine (fun hHeld => hK _ _ hHeld ?_) ((hKB.trans qk))
          clear hK
          try simp only [Act.put, List.setIfInBounds_toArray, List.set_cons_zero, List.set_cons_succ]
          replace hKB := hKB.trans qk
          refine onlyL (i := 15) rfl (by kernel_rfl) (fun K hK => ?_)
          refine step_W (by rfl) ?_
          refine step_bs0O rfl 24 26 rfl Tryd.underlying24 (by kernel_rfl) 32 ?_
          intro g15 w15 hg15 ho15 qk
          have hge15 : v0.heap.size ≤ g15 := by have := hKB.size; omega
          try (have hne : g19 ≠ g15 := by have := hb19.lt; omega)
          clear hg15
          refine (fun hHeld => hK _ _ hHeld ?_) ((hKB.trans qk))
          clear hK
          try simp only [Act.put, List.setIfInBounds_toArray, List.set_cons_zero, List.set_cons_succ]
          replace hKB := hKB.trans qk
          replace hb19 := hb19.keep0 qk
          refine onlyL (i := 17) rfl (by kernel_rfl) (fun K hK => ?_)
          refine step_W (by rfl) ?_
          refine step_appendO rfl _ _ 24 rfl 26 32 32 Tryd.underlying24 Tryd.infoHhP (by omega) (some ⟨g15, 0, none⟩) 0 0 [] rfl ho15 aP m cP (byteV P.flatten) rfl ((HPo8.out.keep0 hKB).src (byteV_one _)) (by unfold maxLen; omega) (by omega) ?_
          intro a17 c17 w17 ho17 qk17 hf17
          have hf17' : ∀ k, blkOf a17 k → v0.heap.size ≤ k := fun k hk => by
            rcases hf17 k hk with h' | h'
            · rw [(blkOf_some _ _ _ _).1 h']; exact hge15
            · rw [h']; exact hKB.size
          replace hKB := hKB.step qk17 (fun i hi => .inr (by rw [(blkOf_some _ _ _ _).1 hi]; exact hge15))
          try (replace hb19 := hb19.keep qk17 (fun e => hne ((blkOf_some _ _ _ _).1 e)))
          clear qk17 hf17 ho15
          rw [Nat.zero_add] at ho17 ⊢
          rw [List.nil_append] at ho17
          refine (fun hHeld => hK _ _ hHeld ?_) (hKB)
          clear hK
          try simp only [Act.put, List.setIfInBounds_toArray, List.set_cons_zero, List.set_cons_succ]
          refine onlyL (i := 20) rfl (by kernel_rfl) (fun K hK => ?_)
          refine step_W (by rfl) ?_
          refine step_appendO rfl _ _ 24 rfl 26 32 32 Tryd.underlying24 Tryd.infoHhP (by omega) a17 c17 m _ rfl ho17 (some ⟨g19, 0, none⟩) 1 1 (byteV R) rfl (src_hash hb19 hR2.1) (by unfold maxLen; omega) (by omega) ?_
          intro a20 c20 w20 ho20 qk20 _
          replace hKB := hKB.step qk20 (fun i hi => .inr (hf17' i hi))
          clear qk20
          refine (fun hHeld => hK _ _ hHeld ?_) (hKB)
          clear hK
          try simp only [Act.put, List.setIfInBounds_toArray, List.set_cons_zero, List.set_cons_succ]
          refine onlyL (i := 21) rfl (by kernel_rfl) (fun K hK => ?_)
          go_simp
          have hK8B := HK8.out.trans hKB
          have hoM : OwnH w20 a20 c20 (P ++ [R]) := OwnH.snoc HNP.out ho20
          have hAM : AreH (P ++ [R]) := hPA.append (fun y hy => by rw [List.mem_singleton.1 hy]; exact hR2)
          refine (HCM.out _ hK8B a20 c20 (hoM.hs hAM (by rw [List.length_append, HNP.out]; simp only [List.length_singleton]; omega)) ho20.2.1 (by have := ho20.2.2.1; unfold maxLen at this; omega)).mono ?_
          rintro e w21 ⟨rfl, qk⟩
          replace hKB := hKB.trans qk
          replace hK8B := hK8B.trans qk
          clear qk hoM ho20
          refine (fun hHeld => hK _ _ hHeld ?_) (hKB)
          clear hK
          try simp only [Act.put, List.setIfInBounds_toArray, List.set_cons_zero, List.set_cons_succ]
          refine onlyL (i := 22) rfl (by kernel_rfl) (fun K hK => ?_)
          go_simp
          refine (HI3.out _ hK8B).mono ?_
          rintro e w22 ⟨rfl, qk⟩
          replace hKB := hKB.trans qk
          replace hK8B := hK8B.trans qk
          clear qk
          refine (fun hHeld => hK _ _ hHeld ?_) (hKB)
          clear hK
          try simp only [Act.put, List.setIfInBounds_toArray, List.set_cons_zero, List.set_cons_succ]
          refine takeL (i := 23) (v := _) rfl (by kernel_rfl) (by kernel_rfl) (by kernel_rfl) (fun _ _ _ h => h) (Or.inl ⟨by rfl, by intro w hSw; (try dsimp only at hSw); go_simp; try with_reducible rfl⟩) (by assumption) ?_
          try simp only [Act.put, List.setIfInBounds_toArray, List.set_cons_zero, List.set_cons_succ]
          refine takeL (i := 24) (v := _) rfl (by kernel_rfl) (by kernel_rfl) (by kernel_rfl) (fun _ _ _ h => h) (Or.inl ⟨by rfl, by intro w hSw; (try dsimp only at hSw); go_simp; try with_reducible rfl⟩) (by assumption) ?_
          try simp only [Act.put, List.setIfInBounds_toArray, List.set_cons_zero, List.set_cons_succ]
          refine wpAnyH_done (by kernel_rfl) ?_ _
          have HF := Lib.hid hKB
          clear hK8B hKB hHeld
          go_wp2_with fail
          go_meet
          exact ⟨rfl, HFD.out.trans HF.out⟩
      case rest =>
      obtain ⟨rfl, hk9⟩ := hcut
      have HK9 := Lib.hid (HK8.out.trans hk9)
      replace hbR8 := hbR8.keep0 hk9
      replace hld8 := rangeAt_keep hld8 hk9 (fun h => h)
      replace HPh8 := Lib.hid (HPh8.out.keep0 hk9)
      clear hk9 HPo8 HK8 hbU
      obtain ⟨w9, hw9⟩ : ∃ x, x = wc := ⟨_, rfl⟩
      subst hw9
      go_upto_region 18 with fail
      go_cut [111] from 95 to 111 (fun s111 wx => s111 = .bool false ∧ Keeps Nil w9 wx)
      case first =>
        have hk9d := Lib.hid (Keeps.refl Nil w9).drew
        by_cases hm0 : m = 0
        · have hmz : (m : Int) = 0 := by omega
          refine wp_region_held_drew (S := fun w' => Keeps Nil w9.drew w') (by kernel_rfl) (Keeps.refl _ _) (fun hHeld => ?_)
          generalize w9.drew = v1 at *
          refine takeL (i := 0) (v := _) rfl (by kernel_rfl) (by kernel_rfl) (by kernel_rfl) (fun _ _ _ h => h) (Or.inl ⟨by rfl, by intro w hSw; (try dsimp only at hSw); go_simp; try with_reducible rfl⟩) (by assumption) ?_
          try simp only [Act.put, List.setIfInBounds_toArray, List.set_cons_zero, List.set_cons_succ]
          refine takeL (i := 1) (v := _) rfl (by kernel_rfl) (by kernel_rfl) (by kernel_rfl) (fun _ _ _ h => h) (Or.inl ⟨by rfl, by intro w hSw; (try dsimp only at hSw); go_simp; try with_reducible rfl⟩) (by assumption) ?_
          try simp only [Act.put, List.setIfInBounds_toArray, List.set_cons_zero, List.set_cons_succ]
          refine takeL (i := 2) (v := _) rfl (by kernel_rfl) (by kernel_rfl) (by kernel_rfl) (fun _ _ _ h => h) (Or.inl ⟨by rfl, by intro w hSw; (try dsimp only at hSw); go_simp; try with_reducible rfl⟩) (by assumption) ?_
          try simp only [Act.put, List.setIfInBounds_toArray, List.set_cons_zero, List.set_cons_succ]
          refine takeL (i := 3) (v := _) rfl (by kernel_rfl) (by kernel_rfl) (by kernel_rfl) (fun _ _ _ h => h) (Or.inl ⟨by rfl, by intro w hSw; (try dsimp only at hSw); go_simp; try with_reducible rfl⟩) (by assumption) ?_
          try simp only [Act.put, List.setIfInBounds_toArray, List.set_cons_zero, List.set_cons_succ]
          refine takeL (i := 4) (v := undef) rfl (by kernel_rfl) (by kernel_rfl) (by kernel_rfl) (fun _ _ _ h => h) (Or.inr ⟨by rfl, rfl⟩) (by assumption) ?_
          try simp only [Act.put, List.setIfInBounds_toArray, List.set_cons_zero, List.set_cons_succ]
          refine takeL (i := 5) (v := undef) rfl (by kernel_rfl) (by kernel_rfl) (by kernel_rfl) (fun _ _ _ h => h) (Or.inr ⟨by rfl, rfl⟩) (by assumption) ?_
          try simp only [Act.put, List.setIfInBounds_toArray, List.set_cons_zero, List.set_cons_succ]
          refine takeL (i := 6) (v := undef) rfl (by kernel_rfl) (by kernel_rfl) (by kernel_rfl) (fun _ _ _ h => h) (Or.inr ⟨by rfl, rfl⟩) (by assumption) ?_
          try simp only [Act.put, List.setIfInBounds_toArray, List.set_cons_zero, List.set_cons_succ]
          refine takeL (i := 7) (v := undef) rfl (by kernel_rfl) (by kernel_rfl) (by kernel_rfl) (fun _ _ _ h => h) (Or.inr ⟨by rfl, rfl⟩) (by assumption) ?_
          try simp only [Act.put, List.setIfInBounds_toArray, List.set_cons_zero, List.set_cons_succ]
          refine takeL (i := 8) (v := undef) rfl (by kernel_rfl) (by kernel_rfl) (by kernel_rfl) (fun _ _ _ h => h) (Or.inr ⟨by rfl, rfl⟩) (by assumption) ?_
          try simp only [Act.put, List.setIfInBounds_toArray, List.set_cons_zero, List.set_cons_succ]
          refine takeL (i := 9) (v := undef) rfl (by kernel_rfl) (by kernel_rfl) (by kernel_rfl) (fun _ _ _ h => h) (Or.inr ⟨by rfl, rfl⟩) (by assumption) ?_
          try simp only [Act.put, List.setIfInBounds_toArray, List.set_cons_zero, List.set_cons_succ]
          refine takeL (i := 10) (v := undef) rfl (by kernel_rfl) (by kernel_rfl) (by kernel_rfl) (fun _ _ _ h => h) (Or.inr ⟨by rfl, rfl⟩) (by assumption) ?_
          try simp only [Act.put, List.setIfInBounds_toArray, List.set_cons_zero, List.set_cons_succ]
          refine takeL (i := 11) (v := undef) rfl (by kernel_rfl) (by kernel_rfl) (by kernel_rfl) (fun _ _ _ h => h) (Or.inr ⟨by rfl, rfl⟩) (by assumption) ?_
          try simp only [Act.put, List.setIfInBounds_toArray, List.set_cons_zero, List.set_cons_succ]
          refine takeL (i := 12) (v := undef) rfl (by kernel_rfl) (by kernel_rfl) (by kernel_rfl) (fun _ _ _ h => h) (Or.inr ⟨by rfl, rfl⟩) (by assumption) ?_
          try simp only [Act.put, List.setIfInBounds_toArray, List.set_cons_zero, List.set_cons_succ]
          refine takeL (i := 13) (v := undef) rfl (by kernel_rfl) (by kernel_rfl) (by kernel_rfl) (fun _ _ _ h => h) (Or.inr ⟨by rfl, rfl⟩) (by assumption) ?_
          try simp only [Act.put, List.setIfInBounds_toArray, List.set_cons_zero, List.set_cons_succ]
          refine takeL (i := 14) (v := undef) rfl (by kernel_rfl) (by kernel_rfl) (by kernel_rfl) (fun _ _ _ h => h) (Or.inr ⟨by rfl, rfl⟩) (by assumption) ?_
          try simp only [Act.put, List.setIfInBounds_toArray, List.set_cons_zero, List.set_cons_succ]
          refine takeL (i := 15) (v := undef) rfl (by kernel_rfl) (by kernel_rfl) (by kernel_rfl) (fun _ _ _ h => h) (Or.inr ⟨by rfl, rfl⟩) (by assumption) ?_
          try simp only [Act.put, List.setIfInBounds_toArray, List.set_cons_zero, List.set_cons_succ]
          refine takeL (i := 16) (v := _) rfl (by kernel_rfl) (by kernel_rfl) (by kernel_rfl) (fun _ _ _ h => h) (Or.inl ⟨by rfl, by intro w hSw; (try dsimp only at hSw); go_simp; try with_reducible rfl⟩) (by assumption) ?_
          try simp only [Act.put, List.setIfInBounds_toArray, List.set_cons_zero, List.set_cons_succ]
          refine wpAnyH_done (by kernel_rfl) ?_ _
          clear hmz hHeld
          go_wp2_with fail
          go_meet
          exact ⟨rfl, hk9d.out⟩
        · have hmp : (0 : Int) < m := by omega
          have hmn : 0 < m := by omega
          have hm1 : (1 : Int) ≤ m := by omega
          obtain ⟨gP, haP, _, _⟩ := HPo.out.some hmn
          have hD0 : Hs w9.drew (if cP = 1 then some ⟨gP, 0, none⟩ else some ⟨gP, 32, none⟩) (P.drop 1) := by
            split
            · rw [List.drop_of_length_le (by rw [HNP.out]; omega)]
              exact Hs.none _ _
            · have h1 := HPh8.out
              rw [haP] at h1
              have h2 := (h1.drop 1).keep0 hk9d.out
              rw [Addr.add_lit] at h2
              exact h2
          subst haP
          refine wp_region_held_drew (S := fun w' => Keeps Nil w9.drew w') (by kernel_rfl) (Keeps.refl _ _) (fun hHeld => ?_)
          have hKB : Keeps Nil w9.drew w9.drew := Keeps.refl _ _
          have hbR9 := hbR8.drew
          have hld9 := rangeAt_keep hld8 (Keeps.refl Nil w9).drew (fun h => h)
          generalize w9.drew = v1 at *
          have hmc : (m : Int) ≤ cP := by omega
          have h1c : (1 : Int) ≤ cP := by omega
          have hcPx : (cP : Int) ≤ 9223372036854775807 := by omega
          refine takeL (i := 0) (v := _) rfl (by kernel_rfl) (by kernel_rfl) (by kernel_rfl) (fun _ _ _ h => h) (Or.inl ⟨by rfl, by intro w hSw; (try dsimp only at hSw); go_simp; try with_reducible rfl⟩) (by assumption) ?_
          try simp only [Act.put, List.setIfInBounds_toArray, List.set_cons_zero, List.set_cons_succ]
          refine takeL (i := 1) (v := _) rfl (by kernel_rfl) (by kernel_rfl) (by kernel_rfl) (fun _ _ _ h => h) (Or.inl ⟨by rfl, by intro w hSw; (try dsimp only at hSw); go_simp; try with_reducible rfl⟩) (by assumption) ?_
          try simp only [Act.put, List.setIfInBounds_toArray, List.set_cons_zero, List.set_cons_succ]
          refine takeL (i := 2) (v := _) rfl (by kernel_rfl) (by kernel_rfl) (by kernel_rfl) (fun _ _ _ h => h) (Or.inl ⟨by rfl, by intro w hSw; (try dsimp only at hSw); go_simp; try with_reducible rfl⟩) (by assumption) ?_
          try simp only [Act.put, List.setIfInBounds_toArray, List.set_cons_zero, List.set_cons_succ]
          refine takeL (i := 3) (v := _) rfl (by kernel_rfl) (by kernel_rfl) (by kernel_rfl) (fun _ _ _ h => h) (Or.inl ⟨by rfl, by intro w hSw; (try dsimp only at hSw); go_simp; try with_reducible rfl⟩) (by assumption) ?_
          try simp only [Act.put, List.setIfInBounds_toArray, List.set_cons_zero, List.set_cons_succ]
          refine takeL (i := 4) (v := _) rfl (by kernel_rfl) (by kernel_rfl) (by kernel_rfl) (fun _ _ _ h => h) (yieldsIf_load_mid (by rfl) 26 _ rfl gR 0 rfl (byteV R) _ (fun w hSw => ((hbR9.keep0 hSw).range0)) hUH rfl hiR) (by assumption) ?_
          try simp only [Act.put, List.setIfInBounds_toArray, List.set_cons_zero, List.set_cons_succ]
          refine takeL (i := 5) (v := _) rfl (by kernel_rfl) (by kernel_rfl) (by kernel_rfl) (fun _ _ _ h => h) (Or.inl ⟨by rfl, by intro w hSw; (try dsimp only at hSw); go_simp; try with_reducible rfl⟩) (by assumption) ?_
          try simp only [Act.put, List.setIfInBounds_toArray, List.set_cons_zero, List.set_cons_succ]
          refine takeL (i := 6) (v := _) rfl (by kernel_rfl) (by kernel_rfl) (by kernel_rfl) (fun _ _ _ h => h) (Or.inl ⟨by rfl, by intro w hSw; (try dsimp only at hSw); go_simp; try with_reducible rfl⟩) (by assumption) ?_
          try simp only [Act.put, List.setIfInBounds_toArray, List.set_cons_zero, List.set_cons_succ]
          refine takeL (i := 7) (v := _) rfl (by kernel_rfl) (by kernel_rfl) (by kernel_rfl) (fun _ _ _ h => h) (Or.inl ⟨by rfl, by intro w hSw; (try dsimp only at hSw); go_simp; try with_reducible rfl⟩) (by assumption) ?_
          try simp only [Act.put, List.setIfInBounds_toArray, List.set_cons_zero, List.set_cons_succ]
          refine takeL (i := 8) (v := _) rfl (by kernel_rfl) (by kernel_rfl) (by kernel_rfl) (fun _ _ _ h => h) (yieldsIf_load_mid (by rfl) 26 _ rfl b (off+i*32) rfl (byteV X) _ (fun w hSw => (rangeAt_keep hld9 hSw (fun h => h))) hUH rfl hiX) (by assumption) ?_
          try simp only [Act.put, List.setIfInBounds_toArray, List.set_cons_zero, List.set_cons_succ]
          refine takeL (i := 9) (v := _) rfl (by kernel_rfl) (by kernel_rfl) (by kernel_rfl) (fun _ _ _ h => h) (Or.inl ⟨by rfl, by intro w hSw; (try dsimp only at hSw); go_simp; try with_reducible rfl⟩) (by assumption) ?_
          try simp only [Act.put, List.setIfInBounds_toArray, List.set_cons_zero, List.set_cons_succ]
          refine takeL (i := 10) (v := _) rfl (by kernel_rfl) (by kernel_rfl) (by kernel_rfl) (fun _ _ _ h => h) (Or.inl ⟨by rfl, by intro w hSw; (try dsimp only at hSw); go_simp; try with_reducible rfl⟩) (by assumption) ?_
          try simp only [Act.put, List.setIfInBounds_toArray, List.set_cons_zero, List.set_cons_succ]
          refine takeL (i := 11) (v := _) rfl (by kernel_rfl) (by kernel_rfl) (by kernel_rfl) (fun _ _ _ h => h) (Or.inl ⟨by rfl, by intro w hSw; (try dsimp only at hSw); go_simp; try with_reducible rfl⟩) (by assumption) ?_
          try simp only [Act.put, List.setIfInBounds_toArray, List.set_cons_zero, List.set_cons_succ]
          refine takeL (i := 12) (v := _) rfl (by kernel_rfl) (by kernel_rfl) (by kernel_rfl) (fun _ _ _ h => h) (Or.inl ⟨by rfl, by intro w hSw; (try dsimp only at hSw); go_simp; try with_reducible rfl⟩) (by assumption) ?_
          try simp only [Act.put, List.setIfInBounds_toArray, List.set_cons_zero, List.set_cons_succ]
          generalize (if cP = 1 then (some ⟨gP, 0, none⟩ : Option Addr) else some ⟨gP, 32, none⟩) = aD at *
          refine onlyL (i := 13) rfl (by kernel_rfl) (fun K hK => ?_)
          go_simp
          refine (HCL.out _ ((HK9.out.trans hk9d.out).trans hKB) _ _ (m - 1) (by rw [List.length_drop, HNP.out]) hD0 (by omega) (by omega) (HC3.out hmn)).mono ?_
          rintro e w23 ⟨rfl, qk⟩
          replace hKB := hKB.trans qk
          clear qk hD0
          refine (fun hHeld => hK _ _ hHeld ?_) (hKB)
          clear hK
          try simp only [Act.put, List.setIfInBounds_toArray, List.set_cons_zero, List.set_cons_succ]
          refine onlyL (i := 14) rfl (by kernel_rfl) (fun K hK => ?_)
          go_simp
          refine (HI2.out _ ((HK9.out.trans hk9d.out).trans hKB)).mono ?_
          rintro e w24 ⟨rfl, qk⟩
          replace hKB := hKB.trans qk
          clear qk
          refine (fun hHeld => hK _ _ hHeld ?_) (hKB)
          clear hK
          try simp only [Act.put, List.setIfInBounds_toArray, List.set_cons_zero, List.set_cons_succ]
          refine takeL (i := 15) (v := _) rfl (by kernel_rfl) (by kernel_rfl) (by kernel_rfl) (fun _ _ _ h => h) (Or.inl ⟨by rfl, by intro w hSw; (try dsimp only at hSw); go_simp; try with_reducible rfl⟩) (by assumption) ?_
          try simp only [Act.put, List.setIfInBounds_toArray, List.set_cons_zero, List.set_cons_succ]
          refine takeL (i := 16) (v := _) rfl (by kernel_rfl) (by kernel_rfl) (by kernel_rfl) (fun _ _ _ h => h) (Or.inl ⟨by rfl, by intro w hSw; (try dsimp only at hSw); go_simp; try with_reducible rfl⟩) (by assumption) ?_
          try simp only [Act.put, List.setIfInBounds_toArray, List.set_cons_zero, List.set_cons_succ]
          refine wpAnyH_done (by kernel_rfl) ?_ _
          have HF := Lib.hid hKB
          clear hKB hHeld
          go_wp2_with fail
          go_meet
          exact ⟨rfl, hk9d.out.trans HF.out⟩
      case rest =>
      obtain ⟨rfl, hk10⟩ := hcut
      have HK10 := Lib.hid (HK9.out.trans hk10)
      replace hbR8 := hbR8.keep0 hk10
      replace hld8 := rangeAt_keep hld8 hk10 (fun h => h)
      clear hk10 HPh8 HK9
      obtain ⟨wq, hwq⟩ : ∃ x, x = wc := ⟨_, rfl⟩
      subst hwq
      have hbN := Blk.new wq Z 26
      have hka := (Keeps.refl Nil wq).alloc (.cells Z.toArray 26)
      have HKN := Lib.hid (HK10.out.trans hka)
      have hRN := hbR8.keep0 hka
      have hlN := rangeAt_keep hld8 hka (fun h => h)
      have hgl := hbR8.lt
      have hge := HK10.out.size
      clear hka hbR8
      go_wp2_with (first | (refine wpl_load_at rfl 26 _ rfl b (off + i * 32) rfl (byteV X) hld8 _ hUH rfl hiX ?_) | (refine wpl_store rfl 26 _ _ rfl wq.heap.size rfl (byteV X) rfl hbN (by rw [hX32, HZ.out]) hiX hoX ?_))
      intro w25 hbB hk25 _
      have hgne : gR ≠ wq.heap.size := by omega
      have hbw : b ≠ wq.heap.size := by omega
      have hlX := hgl
      have hRO := hRN.keep hk25 hgne
      have hlO := rangeAt_keep hlN hk25 hbw
      have c7 := hbB.cell 7 (v := .int .u8 (X.getD 7 0)) (by rw [byteV, List.getElem?_map]; exact getD_cell hX2.1 (by omega))
      have z7 := hbB.frozen 7
      have hx7 := hX2.2 _ (getD_mem3 hX2.1 (show 7 < 32 by omega))
      have hy7 := xor_one hx7
      have hbB2 := hbB.set 7 (.int .u8 (bits .xor .u8 (X.getD 7 0) 1))
      rw [← byteV_set] at hbB2
      have hk7 := (Keeps.refl (One wq.heap.size) w25).setOne 7 (.int .u8 (bits .xor .u8 (X.getD 7 0) 1))
      have hXB : Hash32 (X.set 7 (bits .xor .u8 (X.getD 7 0) 1)) := ⟨by rw [List.length_set]; exact hX2.1, areB_set hX2.2 7 hy7⟩
      have HF := Lib.hid (And.intro hbB2 (And.intro (hRO.keep hk7 hgne) (And.intro (rangeAt_keep hlO hk7 hbw) ((HKN.out.step hk25 (fun i hi => .inr (by rw [show i = wq.heap.size from hi]; exact hge))).step hk7 (fun i hi => .inr (by rw [show i = wq.heap.size from hi]; exact hge))))))
      clear hk25 hbN HKN hRN hlN hld8 hgl HK10 hbw hgne hlX hRO hlO hbB hbB2 hk7 hy7 hge
      generalize wq.heap.size = gB at *
      generalize hXE : X.set 7 (bits .xor .u8 (X.getD 7 0) 1) = XB at *
      have HXE := Lib.hid hXE
      clear hXE
      generalize X.getD 7 0 = x7 at *
      go_wp2_with fail
      generalize hw26 : w25.setCell ⟨gB, 7, none⟩ (.int .u8 (bits .xor .u8 x7 1)) = w26 at *
      refine (number_walk n2 n w26 hw2.1 hw2.2 (by omega) (by omega)).mono ?_
      rintro e w27 ⟨rfl, rfl⟩
      obtain ⟨k, hk⟩ := Int.eq_ofNat_of_zero_le (Int.emod_nonneg n2 (show (n : Int) ≠ 0 by omega))
      have hk9 := Int.emod_lt_of_pos n2 (show (0 : Int) < n by omega)
      rw [hk] at hk9 ⊢
      clear hk hw26 c7 z7 hx7
      have hbX26 := HF.out.1
      have hbR26 := HF.out.2.1
      have hld26 := HF.out.2.2.1
      have HK26 := Lib.hid HF.out.2.2.2
      clear HF
      have hXB32 : (byteV XB).length = 32 := by rw [byteV_len]; exact hXB.1
      have hiXB : (Tryd.prog.info? 26).map (·.size) = some (byteV XB).length := by rw [hXB32]; exact Tryd.infoH
      have HRC := Lib.hid (fun w' (hk : Keeps Nil w5 w') (Y : List Int) (hY : Hash32 Y) (q : Int) => refCheck_walk (R := R) (X := Y) (i := q) (n := n) (P := P) (m := m) (cap := cP) (a := aP) HNP.out (HPh.out.keep0 hk) hPc (by omega) hR2 hY)
      have HCX := Lib.hid (fun w' (hk : Keeps Nil w5 w') (Y : List Int) (hY : Hash32 Y) (q : Int) => check_walk (R := R) (X := Y) (i := q) (n := n) (P := P) (m := m) (cap := cP) (a := aP) (HE5.out w' hk) HNP.out (HPh.out.keep0 hk) hPc (by omega) hR2 hY)
      have HIO := Lib.hid (fun w' (hk : Keeps Nil w5 w') (o : Option Nat) (h : ∀ k, o = some k → k < 19) => is_walk (HE5.out w' hk) (isErr_O o h) (codeO o))
      unfold RChkPost keyV at HRC
      unfold ChkPost keyV at HCX
      clear HCK HCM HCL HI2 HI3
      go_upto_region 23 with fail
      go_cut [139] from 123 to 139 (fun s139 wx => s139 = .bool false ∧ Keeps Nil w26 wx)
      case first =>
        have hc4 := HC4.out XB
        have HR1 := Lib.hid (HRC.out _ HK26.out XB hXB (i : Int))
        go_wp2_with (first | (refine wpl_load rfl 26 _ rfl gR rfl hbR26 _ hUH rfl hiR ?_) | (refine wpl_load rfl 26 _ rfl gB rfl hbX26 _ hUH rfl hiXB ?_))
        refine HR1.out.mono ?_
        rintro e w28 ⟨rfl, qk⟩
        have HK28 := Lib.hid qk
        have hbR28 := hbR26.keep0 qk
        have hbX28 := hbX26.keep0 qk
        clear qk
        rcases hc4 with h | h
        · rw [h, show codeO none = 0 from rfl]
          clear h
          go_wp2_with fail
          go_meet
          exact ⟨rfl, HK28.out⟩
        · rw [h, show codeO (some 12) = 113 from rfl]
          have HX1 := Lib.hid (HCX.out _ (HK26.out.trans HK28.out) XB hXB (i : Int))
          rw [h, show errO p (some 12) = errV p 12 from rfl] at HX1
          have HI12 := Lib.hid (fun w' (hk : Keeps Nil w5 w') => is_walk (HE5.out w' hk) (v := errV p 12) (c := 113) (pl := false) (q := 0) (.inr (.inl ⟨12, by omega, rfl, by omega, rfl, rfl⟩)) 113)
          rw [show isV 113 false 0 113 = true by simp [isV, sameF]] at HI12
          generalize errV p 12 = V12 at *
          clear h
          go_wp2_with (first | (refine wpl_load rfl 26 _ rfl gR rfl hbR28 _ hUH rfl hiR ?_) | (refine wpl_load rfl 26 _ rfl gB rfl hbX28 _ hUH rfl hiXB ?_))
          refine HX1.out.mono ?_
          rintro e w29 ⟨rfl, qk⟩
          have HK29 := Lib.hid (HK28.out.trans qk)
          clear qk
          go_wp2_with fail
          refine (HI12.out _ (HK26.out.trans HK29.out)).mono ?_
          rintro e w30 ⟨rfl, qk⟩
          have HK30 := Lib.hid (HK29.out.trans qk)
          clear qk
          go_wp2_with fail
          go_meet
          exact ⟨rfl, HK30.out⟩
      case rest =>
      obtain ⟨rfl, hk31⟩ := hcut
      have HK31 := Lib.hid (HK26.out.trans hk31)
      have hbR31 := hbR26.keep0 hk31
      have hld31 := rangeAt_keep hld26 hk31 (fun h => h)
      clear hk31 HK26 hbR26 hld26 hbX26
      obtain ⟨wz, hwz⟩ : ∃ x, x = wc := ⟨_, rfl⟩
      subst hwz
      go_wp2_with fail
      refine wp_region_held_drew (S := fun w' => Keeps Nil wz.drew w') (by kernel_rfl) (Keeps.refl _ _) (fun hHeld => ?_)
      have hKB : Keeps Nil wz.drew wz.drew := Keeps.refl _ _
      have HKz := Lib.hid HK31.out.drew
      replace hbR31 := hbR31.drew
      replace hld31 := rangeAt_keep hld31 (Keeps.refl Nil wz).drew (fun h => h)
      generalize wz.drew = v0 at *
      refine takeL (i := 0) (v := _) rfl (by kernel_rfl) (by kernel_rfl) (by kernel_rfl) (fun _ _ _ h => h) (Or.inl ⟨by rfl, by intro w hSw; (try dsimp only at hSw); go_simp; try with_reducible rfl⟩) (by assumption) ?_
      try simp only [Act.put, List.setIfInBounds_toArray, List.set_cons_zero, List.set_cons_succ]
      refine takeL (i := 1) (v := _) rfl (by kernel_rfl) (by kernel_rfl) (by kernel_rfl) (fun _ _ _ h => h) (Or.inl ⟨by rfl, by intro w hSw; (try dsimp only at hSw); go_simp; try with_reducible rfl⟩) (by assumption) ?_
      try simp only [Act.put, List.setIfInBounds_toArray, List.set_cons_zero, List.set_cons_succ]
      refine takeL (i := 2) (v := _) rfl (by kernel_rfl) (by kernel_rfl) (by kernel_rfl) (fun _ _ _ h => h) (yieldsIf_load_mid (by rfl) 26 _ rfl gR 0 rfl (byteV R) _ (fun w hSw => ((hbR31.keep0 hSw).range0)) hUH rfl hiR) (by assumption) ?_
      try simp only [Act.put, List.setIfInBounds_toArray, List.set_cons_zero, List.set_cons_succ]
      refine takeL (i := 3) (v := _) rfl (by kernel_rfl) (by kernel_rfl) (by kernel_rfl) (fun _ _ _ h => h) (Or.inl ⟨by rfl, by intro w hSw; (try dsimp only at hSw); go_simp; try with_reducible rfl⟩) (by assumption) ?_
      try simp only [Act.put, List.setIfInBounds_toArray, List.set_cons_zero, List.set_cons_succ]
      refine takeL (i := 4) (v := _) rfl (by kernel_rfl) (by kernel_rfl) (by kernel_rfl) (fun _ _ _ h => h) (Or.inl ⟨by rfl, by intro w hSw; (try dsimp only at hSw); go_simp; try with_reducible rfl⟩) (by assumption) ?_
      try simp only [Act.put, List.setIfInBounds_toArray, List.set_cons_zero, List.set_cons_succ]
      refine takeL (i := 5) (v := _) rfl (by kernel_rfl) (by kernel_rfl) (by kernel_rfl) (fun _ _ _ h => h) (Or.inl ⟨by rfl, by intro w hSw; (try dsimp only at hSw); go_simp; try with_reducible rfl⟩) (by assumption) ?_
      try simp only [Act.put, List.setIfInBounds_toArray, List.set_cons_zero, List.set_cons_succ]
      refine takeL (i := 6) (v := _) rfl (by kernel_rfl) (by kernel_rfl) (by kernel_rfl) (fun _ _ _ h => h) (yieldsIf_load_mid (by rfl) 26 _ rfl b (off+i*32) rfl (byteV X) _ (fun w hSw => (rangeAt_keep hld31 hSw (fun h => h))) hUH rfl hiX) (by assumption) ?_
      try simp only [Act.put, List.setIfInBounds_toArray, List.set_cons_zero, List.set_cons_succ]
      refine takeL (i := 7) (v := _) rfl (by kernel_rfl) (by kernel_rfl) (by kernel_rfl) (fun _ _ _ h => h) (Or.inl ⟨by rfl, by intro w hSw; (try dsimp only at hSw); go_simp; try with_reducible rfl⟩) (by assumption) ?_
      try simp only [Act.put, List.setIfInBounds_toArray, List.set_cons_zero, List.set_cons_succ]
      refine takeL (i := 8) (v := _) rfl (by kernel_rfl) (by kernel_rfl) (by kernel_rfl) (fun _ _ _ h => h) (Or.inl ⟨by rfl, by intro w hSw; (try dsimp only at hSw); go_simp; try with_reducible rfl⟩) (by assumption) ?_
      try simp only [Act.put, List.setIfInBounds_toArray, List.set_cons_zero, List.set_cons_succ]
      refine takeL (i := 9) (v := _) rfl (by kernel_rfl) (by kernel_rfl) (by kernel_rfl) (fun _ _ _ h => h) (Or.inl ⟨by rfl, by intro w hSw; (try dsimp only at hSw); go_simp; try with_reducible rfl⟩) (by assumption) ?_
      try simp only [Act.put, List.setIfInBounds_toArray, List.set_cons_zero, List.set_cons_succ]
      refine takeL (i := 11) (v := _) rfl (by kernel_rfl) (by kernel_rfl) (by kernel_rfl) (fun _ _ _ h => h) (yieldsIf_load_mid (by rfl) 26 _ rfl gR 0 rfl (byteV R) _ (fun w hSw => ((hbR31.keep0 hSw).range0)) hUH rfl hiR) (by assumption) ?_
      try simp only [Act.put, List.setIfInBounds_toArray, List.set_cons_zero, List.set_cons_succ]
      refine takeL (i := 12) (v := _) rfl (by kernel_rfl) (by kernel_rfl) (by kernel_rfl) (fun _ _ _ h => h) (Or.inl ⟨by rfl, by intro w hSw; (try dsimp only at hSw); go_simp; try with_reducible rfl⟩) (by assumption) ?_
      try simp only [Act.put, List.setIfInBounds_toArray, List.set_cons_zero, List.set_cons_succ]
      refine takeL (i := 13) (v := _) rfl (by kernel_rfl) (by kernel_rfl) (by kernel_rfl) (fun _ _ _ h => h) (Or.inl ⟨by rfl, by intro w hSw; (try dsimp only at hSw); go_simp; try with_reducible rfl⟩) (by assumption) ?_
      try simp only [Act.put, List.setIfInBounds_toArray, List.set_cons_zero, List.set_cons_succ]
      refine takeL (i := 14) (v := _) rfl (by kernel_rfl) (by kernel_rfl) (by kernel_rfl) (fun _ _ _ h => h) (Or.inl ⟨by rfl, by intro w hSw; (try dsimp only at hSw); go_simp; try with_reducible rfl⟩) (by assumption) ?_
      try simp only [Act.put, List.setIfInBounds_toArray, List.set_cons_zero, List.set_cons_succ]
      refine takeL (i := 15) (v := _) rfl (by kernel_rfl) (by kernel_rfl) (by kernel_rfl) (fun _ _ _ h => h) (yieldsIf_load_mid (by rfl) 26 _ rfl b (off+i*32) rfl (byteV X) _ (fun w hSw => (rangeAt_keep hld31 hSw (fun h => h))) hUH rfl hiX) (by assumption) ?_
      try simp only [Act.put, List.setIfInBounds_toArray, List.set_cons_zero, List.set_cons_succ]
      refine takeL (i := 16) (v := _) rfl (by kernel_rfl) (by kernel_rfl) (by kernel_rfl) (fun _ _ _ h => h) (Or.inl ⟨by rfl, by intro w hSw; (try dsimp only at hSw); go_simp; try with_reducible rfl⟩) (by assumption) ?_
      try simp only [Act.put, List.setIfInBounds_toArray, List.set_cons_zero, List.set_cons_succ]
      refine takeL (i := 17) (v := _) rfl (by kernel_rfl) (by kernel_rfl) (by kernel_rfl) (fun _ _ _ h => h) (Or.inl ⟨by rfl, by intro w hSw; (try dsimp only at hSw); go_simp; try with_reducible rfl⟩) (by assumption) ?_
      try simp only [Act.put, List.setIfInBounds_toArray, List.set_cons_zero, List.set_cons_succ]
      refine takeL (i := 18) (v := _) rfl (by kernel_rfl) (by kernel_rfl) (by kernel_rfl) (fun _ _ _ h => h) (Or.inl ⟨by rfl, by intro w hSw; (try dsimp only at hSw); go_simp; try with_reducible rfl⟩) (by assumption) ?_
      try simp only [Act.put, List.setIfInBounds_toArray, List.set_cons_zero, List.set_cons_succ]
      refine onlyL (i := 10) rfl (by kernel_rfl) (fun K hK => ?_)
      go_simp
      refine (HCX.out _ (HKz.out.trans hKB) X hX2 (k : Int)).mono ?_
      rintro e w32 ⟨rfl, qk⟩
      replace hKB := hKB.trans qk
      clear qk
      refine (fun hHeld => hK _ _ hHeld ?_) (hKB)
      clear hK
      try simp only [Act.put, List.setIfInBounds_toArray, List.set_cons_zero, List.set_cons_succ]
      refine onlyL (i := 19) rfl (by kernel_rfl) (fun K hK => ?_)
      go_simp
      refine (HRC.out _ (HKz.out.trans hKB) X hX2 (k : Int)).mono ?_
      rintro e w33 ⟨rfl, qk⟩
      replace hKB := hKB.trans qk
      clear qk
      refine (fun hHeld => hK _ _ hHeld ?_) (hKB)
      clear hK
      try simp only [Act.put, List.setIfInBounds_toArray, List.set_cons_zero, List.set_cons_succ]
      refine onlyL (i := 20) rfl (by kernel_rfl) (fun K hK => ?_)
      go_simp
      refine (HIO.out _ (HKz.out.trans hKB) _ (fun k h => chkE_lt h)).mono ?_
      rintro e w34 ⟨rfl, qk⟩
      rw [isV_O]
      replace hKB := hKB.trans qk
      clear qk
      refine (fun hHeld => hK _ _ hHeld ?_) (hKB)
      clear hK
      try simp only [Act.put, List.setIfInBounds_toArray, List.set_cons_zero, List.set_cons_succ]
      refine takeL (i := 21) (v := _) rfl (by kernel_rfl) (by kernel_rfl) (by kernel_rfl) (fun _ _ _ h => h) (Or.inl ⟨by rfl, by intro w hSw; (try dsimp only at hSw); go_simp; try with_reducible rfl⟩) (by assumption) ?_
      try simp only [Act.put, List.setIfInBounds_toArray, List.set_cons_zero, List.set_cons_succ]
      refine takeL (i := 22) (v := _) rfl (by kernel_rfl) (by kernel_rfl) (by kernel_rfl) (fun _ _ _ h => h) (Or.inl ⟨by rfl, by intro w hSw; (try dsimp only at hSw); go_simp; try with_reducible rfl⟩) (by assumption) ?_
      try simp only [Act.put, List.setIfInBounds_toArray, List.set_cons_zero, List.set_cons_succ]
      refine wpAnyH_done (by kernel_rfl) ?_ _
      have HFF := Lib.hid (HK5.out.trans (HKz.out.trans hKB))
      go_wp2_with fail
      go_ret
      exact ⟨by first | rfl | simp, HFF.out⟩
end Go.Proofs.YtmbdldnldcgdjaaDoor
