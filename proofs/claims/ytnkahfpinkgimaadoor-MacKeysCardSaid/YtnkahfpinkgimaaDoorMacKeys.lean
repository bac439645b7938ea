/-
  The law MacKeys.
-/
import Derived.Test.YtnkahfpinkgimaaDoorMacPrefixes
import Derived.Test.YtnkahfpinkgimaaDoorRefSum
import Derived.Test.YtnkahfpinkgimaaDoorZeros
import Derived.Test.YtnkahfpinkgimaaDoorBin
namespace Go.Proofs.YtnkahfpinkgimaaDoor
set_option linter.unusedSimpArgs false
set_option linter.unusedVariables false
open Go.RowKit

theorem Tryd.eqgH3 : Tryd.prog.eqGuardType Tryd.prog.depth 36 = false := by kernel_rfl
theorem Tryd.guardH3 (op : BinOp) (x y : Operand) (xs ys : Array Value) (w : World) : (eqGuard op 36 x y (.agg xs) (.agg ys)).run Tryd.prog w = .ok () w := run_eqGuard_agg w op _ x y xs ys Tryd.eqgH3
theorem Tryd.eqlHsame3 {l : List Int} (hl : l.length = 32) (bl : AreB l) (w : World) : (binOp .eql 36 (.agg (byteV l).toArray) (.agg (byteV l).toArray)).run Tryd.prog w = .ok (.bool true) w := by
  have := Tryd.eqlDig hl hl bl bl w
  simpa using this
theorem wpl_zerosW {P : Program} {ops : Array Oper} {rest : List Oper} {o : Oper} {A : Act} {w : World} {Q : Exit → Act → World → Prop} (hw : Region.wanted o (yielded ops A.tmps) = true) (s x : Operand) (t tn e : TypeId) (kn kq : IntKind)
    (ho : o.op = .call { callee := .builtin .append, args := #[s, x], argTypes := #[t, tn] }) (ht : P.underlying t = some (.slice e)) (htn : P.underlying tn = some (.int kn)) (hi : (P.info? e).map (fun i => (i.zero, i.size, i.bytes)) = some (some (.int .u8 0), 1, 1))
    {a : Option Addr} {cap n : Nat} {l : List Int} (hs : A.eval s = .slice a n cap) (hown : Own w e 1 a cap n (byteV l)) (hb : AreB l) (k : Nat) (hx : A.eval x = .int kq k) (hn : n + k ≤ 1000000)
    (h : ∀ a' cap' w', Row .u8 w' a' (n + k) (l ++ List.replicate k 0) → Keeps (blkOf a) w w' → (a' = none → cap' = 0 ∧ n + k = 0) → wpList P ops Q rest (A.put o.dst (.slice a' (n + k) cap')) w') : wpList P ops Q (o :: rest) A w := by
  obtain ⟨a', cap', w', hrun, h1, h2, h3⟩ := run_zerosB (P := P) t tn o.type e kn kq ht htn hi hown hb k hn
  exact wpList_go hw fun _ hK => Lib.wp_append_run w s x t tn ho _ _ hs hx _ _ hrun (hK _ _ (h a' cap' w' h1 h2 h3))
set_option maxRecDepth 20000 in
set_option maxHeartbeats 6400000 in
theorem macKeys_walk (a0 : Option Addr) (len0 cap0 : Nat) (z0 : List Int) (a1 : Option Addr) (len1 cap1 : Nat) (z1 : List Int) (a2 : Int) (w : World) (w0 : IsRow .u8 w a0 len0 cap0 z0) (w1 : IsRow .u8 w a1 len1 cap1 z1) (w2 : (Lit.int .i64 a2).wf = true) :
    Calls Tryd.prog 7 #[.slice a0 len0 cap0, .slice a1 len1 cap1, .int .i64 a2] w (TrueS w) := by
  have hn := i64_wf w2
  have p0 := PieceOk.of_isRow w0
  have p1 := PieceOk.of_isRow w1
  clear w0 w1 w2
  have m0 : len0 ≤ 9223372036854775807 := p0.1.most
  have m1 : len1 ≤ 9223372036854775807 := p1.1.most
  by_cases b0 : 200 < len0
  · clear p0 p1
    go_enter Tryd.func7, Tryd.ntmps7
    go_wp2_with fail
    refine (macfirst_walk w).mono ?_
    rintro e w1 ⟨rfl, hk1⟩
    go_wp2_with fail
    go_ret
    exact ⟨by first | rfl | simp, hk1⟩
  by_cases b1 : 100 < len1
  · clear p0 p1
    go_enter Tryd.func7, Tryd.ntmps7
    go_wp2_with fail
    refine (macfirst_walk w).mono ?_
    rintro e w1 ⟨rfl, hk1⟩
    go_wp2_with fail
    go_ret
    exact ⟨by first | rfl | simp, hk1⟩
  generalize z0.take len0 = Z0 at *
  generalize z1.take len1 = Z1 at *
  have hZ0 : Z0.length = len0 := p0.1.llen
  have hZ1 : Z1.length = len1 := p1.1.llen
  have hbZ0 : AreB Z0 := p0.1.bytes
  have hzv := Tryd.zeroH32
  have HZ32 := Lib.hid (show (byteV z32).length = 32 by rw [byteV_len, z32_len])
  generalize byteV z32 = Z at *
  have HP := Lib.hid (And.intro p0 p1)
  clear p0 p1
  go_enter Tryd.func7, Tryd.ntmps7
  go_wp2_with fail
  refine (macfirst_walk w).mono ?_
  rintro e w1 ⟨rfl, hk1⟩
  have HB := Lib.hid (refBytes_walk (len := len0) (cap := cap0) (HP.out.1.keep hk1).1 (by omega))
  go_wp2_with fail
  refine HB.out.mono ?_
  rintro e w2 ⟨ak, c2, rfl, ho2, hk2, hf2⟩
  rw [hZ0] at ho2 ⊢
  have hk12 := hk1.trans hk2
  have hrk : PieceOk w2 (ak, len0, c2, Z0) := ⟨ho2.row (areB_wf hbZ0), fun h => ho2.nilB h⟩
  clear HB hk1 hk2 ho2 hf2
  have hqE := fun w => Tryd.eqlHsame3 (macL_len Z0 Z1) (macL_bytes Z0 Z1) w
  have hg := fun (x y : Operand) (w : World) => Tryd.guardH3 .eql x y (byteV (macL Z0 Z1)).toArray (byteV (macL Z0 Z1)).toArray w
  by_cases h64 : 64 < len0
  · have HS := Lib.hid (refSum_walk (n := len0) (cap := c2) hrk.1 (by omega))
    go_wp2_with fail
    refine HS.out.mono ?_
    rintro e w3 ⟨rfl, hk3⟩
    have hb := Blk.new w3 Z 36
    have hka := (Keeps.refl Nil w3).alloc (.cells Z.toArray 36)
    have hdv : (byteV (digest Z0)).length = 32 := by rw [byteV_len, digest_len]
    go_wp2_with (refine wpl_store rfl 36 _ _ rfl w3.heap.size rfl (byteV (digest Z0)) rfl hb (by rw [hdv, HZ32.out]) (by rw [hdv]; exact Tryd.infoH) (byteV_one _) ?_)
    intro w4 hbh hk4 hs4
    clear hs4
    have hk34 : Keeps Nil w3 w4 := hka.step hk4 (fun i hi => .inr (by rw [show i = w3.heap.size from hi]; exact Nat.le_refl _))
    have hKV0 := (hk12.trans hk3).trans hk34
    have hK4 := (hrk.keep hk3).keep hk34
    have HB4 := Lib.hid (HP.out.2.keep hKV0)
    clear hb hka hk34 hk3 hk12 hrk HS hk4
    generalize w3.heap.size = gh at *
    go_wp2_with fail
    refine wp_region_held_drew (S := fun _ => True) (by kernel_rfl) trivial (fun hHeld => ?_)
    have hKV : Keeps Nil w w4.drew := hKV0.drew
    have hK0 := hK4.keep ((Keeps.refl Nil w4).drew)
    have hH0 := hbh.drew
    have HB1 := Lib.hid (HB4.out.keep ((Keeps.refl Nil w4).drew))
    clear hK4 hbh hKV0 HB4
    generalize w4.drew = v0 at *
    have hKB : Keeps Nil v0 v0 := Keeps.refl _ _
    refine takeL (i := 0) (v := _) rfl (by kernel_rfl) (by kernel_rfl) (by kernel_rfl) (fun _ _ _ h => h) (Or.inl ⟨by rfl, by intro w hSw; (try dsimp only at hSw); go_simp; try with_reducible rfl⟩) (by assumption) ?_
    try simp only [Act.put, List.setIfInBounds_toArray, List.set_cons_zero, List.set_cons_succ]
    refine takeL (i := 1) (v := _) rfl (by kernel_rfl) (by kernel_rfl) (by kernel_rfl) (fun _ _ _ h => h) (Or.inl ⟨by rfl, by intro w hSw; (try dsimp only at hSw); go_simp; try with_reducible rfl⟩) (by assumption) ?_
    try simp only [Act.put, List.setIfInBounds_toArray, List.set_cons_zero, List.set_cons_succ]
    refine takeL (i := 2) (v := _) rfl (by kernel_rfl) (by kernel_rfl) (by kernel_rfl) (fun _ _ _ h => h) (Or.inl ⟨by rfl, by intro w hSw; (try dsimp only at hSw); go_simp; try with_reducible rfl⟩) (by assumption) ?_
    try simp only [Act.put, List.setIfInBounds_toArray, List.set_cons_zero, List.set_cons_succ]
    refine takeL (i := 3) (v := _) rfl (by kernel_rfl) (by kernel_rfl) (by kernel_rfl) (fun _ _ _ h => h) (Or.inl ⟨by rfl, by intro w hSw; (try dsimp only at hSw); go_simp; try with_reducible rfl⟩) (by assumption) ?_
    try simp only [Act.put, List.setIfInBounds_toArray, List.set_cons_zero, List.set_cons_succ]
    refine takeL (i := 6) (v := _) rfl (by kernel_rfl) (by kernel_rfl) (by kernel_rfl) (fun _ _ _ h => h) (Or.inl ⟨by rfl, by intro w hSw; (try dsimp only at hSw); go_simp; try with_reducible rfl⟩) (by assumption) ?_
    try simp only [Act.put, List.setIfInBounds_toArray, List.set_cons_zero, List.set_cons_succ]
    refine takeL (i := 7) (v := _) rfl (by kernel_rfl) (by kernel_rfl) (by kernel_rfl) (fun _ _ _ h => h) (Or.inl ⟨by rfl, by intro w hSw; (try dsimp only at hSw); go_simp; try with_reducible rfl⟩) (by assumption) ?_
    try simp only [Act.put, List.setIfInBounds_toArray, List.set_cons_zero, List.set_cons_succ]
    refine bothL (i := 4) (j := 8) rfl rfl (by kernel_rfl) (fun K hK => ?_) (fun K hK => ?_)
    · skip
      refine step_bsK rfl _ 27 1 _ rfl [.slice a1 len1 cap1] Tryd.underlying55 Tryd.bsSl rfl (by decide) (by decide) (by simp [Act.eval]) (by simp [Value.cells]) ?_
      intro g4 w4 hg4 hp4 qk
      clear hg4
      have hM4 := ManyB.one' hp4 ((HB1.out.keep hKB).keep qk)
      clear hp4
      refine (fun hHeld => hK _ _ hHeld ?_) (trivial)
      clear hK
      try simp only [Act.put, List.setIfInBounds_toArray, List.set_cons_zero, List.set_cons_succ]
      replace hKB := hKB.trans qk
      refine bothL (i := 5) (j := 8) rfl rfl (by kernel_rfl) (fun K hK => ?_) (fun K hK => ?_)
      · skip
        go_simp
        refine (macSum_walk (n := len0) (cap := c2) (cl := 1) (hK0.keep hKB).1 (hK0.keep hKB).2 hM4 (by omega) (by simp; omega)).mono ?_
        rintro e w5 ⟨rfl, qk⟩
        rw [show [Z1].flatten = Z1 by simp]
        unfold keyV
        refine (fun hHeld => hK _ _ hHeld ?_) (trivial)
        clear hK
        try simp only [Act.put, List.setIfInBounds_toArray, List.set_cons_zero, List.set_cons_succ]
        replace hKB := hKB.trans qk
        refine onlyL (i := 8) rfl (by kernel_rfl) (fun K hK => ?_)
        refine step_bsK rfl _ 27 1 _ rfl [.slice a1 len1 cap1] Tryd.underlying55 Tryd.bsSl rfl (by decide) (by decide) (by simp [Act.eval]) (by simp [Value.cells]) ?_
        intro g8 w8 hg8 hp8 qk
        clear hg8
        have hM8 := ManyB.one' hp8 ((HB1.out.keep hKB).keep qk)
        clear hp8
        refine (fun hHeld => hK _ _ hHeld ?_) (trivial)
        clear hK
        try simp only [Act.put, List.setIfInBounds_toArray, List.set_cons_zero, List.set_cons_succ]
        replace hKB := hKB.trans qk
        refine onlyL (i := 9) rfl (by kernel_rfl) (fun K hK => ?_)
        go_simp
        refine (macSum_walk (n := 32) (cap := 32) (cl := 1) ((hH0.keep0 hKB).row8 (digest_bytes Z0) (digest_len Z0) (by omega)) (fun h => by cases h) hM8 (by omega) (by simp; omega)).mono ?_
        rintro e w9 ⟨rfl, qk⟩
        rw [show [Z1].flatten = Z1 by simp, macL_long (by omega)]
        unfold keyV
        replace hKB := hKB.trans qk
        refine (fun hHeld => hK _ _ hHeld ?_) (trivial)
        clear hK
        try simp only [Act.put, List.setIfInBounds_toArray, List.set_cons_zero, List.set_cons_succ]
        refine takeL (i := 10) (v := _) rfl (by kernel_rfl) (by kernel_rfl) (by kernel_rfl) (fun _ _ _ h => h) (yieldsIf_bin (by rfl) _ _ _ _ _ rfl _ _ rfl rfl _ hqE (hg _ _)) (by assumption) ?_
        try simp only [Act.put, List.setIfInBounds_toArray, List.set_cons_zero, List.set_cons_succ]
        refine takeL (i := 11) (v := _) rfl (by kernel_rfl) (by kernel_rfl) (by kernel_rfl) (fun _ _ _ h => h) (Or.inl ⟨by rfl, by intro w hSw; (try dsimp only at hSw); go_simp; try with_reducible rfl⟩) (by assumption) ?_
        try simp only [Act.put, List.setIfInBounds_toArray, List.set_cons_zero, List.set_cons_succ]
        refine takeL (i := 12) (v := _) rfl (by kernel_rfl) (by kernel_rfl) (by kernel_rfl) (fun _ _ _ h => h) (Or.inl ⟨by rfl, by intro w hSw; (try dsimp only at hSw); go_simp; try with_reducible rfl⟩) (by assumption) ?_
        try simp only [Act.put, List.setIfInBounds_toArray, List.set_cons_zero, List.set_cons_succ]
        refine wpAnyH_done (by kernel_rfl) ?_ _
        go_wp2_with fail
        go_ret
        exact ⟨by first | rfl | simp, hKV.trans hKB⟩
      · skip
        refine step_bsK rfl _ 27 1 _ rfl [.slice a1 len1 cap1] Tryd.underlying55 Tryd.bsSl rfl (by decide) (by decide) (by simp [Act.eval]) (by simp [Value.cells]) ?_
        intro g8 w8 hg8 hp8 qk
        clear hg8
        have hM8 := ManyB.one' hp8 ((HB1.out.keep hKB).keep qk)
        clear hp8
        refine (fun hHeld => hK _ _ hHeld ?_) (trivial)
        clear hK
        try simp only [Act.put, List.setIfInBounds_toArray, List.set_cons_zero, List.set_cons_succ]
        replace hKB := hKB.trans qk
        replace hM4 := hM4.keep qk
        refine onlyL (i := 5) rfl (by kernel_rfl) (fun K hK => ?_)
        go_simp
        refine (macSum_walk (n := len0) (cap := c2) (cl := 1) (hK0.keep hKB).1 (hK0.keep hKB).2 hM4 (by omega) (by simp; omega)).mono ?_
        rintro e w5 ⟨rfl, qk⟩
        rw [show [Z1].flatten = Z1 by simp]
        unfold keyV
        refine (fun hHeld => hK _ _ hHeld ?_) (trivial)
        clear hK
        try simp only [Act.put, List.setIfInBounds_toArray, List.set_cons_zero, List.set_cons_succ]
        replace hKB := hKB.trans qk
        replace hM8 := hM8.keep qk
        refine onlyL (i := 9) rfl (by kernel_rfl) (fun K hK => ?_)
        go_simp
        refine (macSum_walk (n := 32) (cap := 32) (cl := 1) ((hH0.keep0 hKB).row8 (digest_bytes Z0) (digest_len Z0) (by omega)) (fun h => by cases h) hM8 (by omega) (by simp; omega)).mono ?_
        rintro e w9 ⟨rfl, qk⟩
        rw [show [Z1].flatten = Z1 by simp, macL_long (by omega)]
        unfold keyV
        replace hKB := hKB.trans qk
        refine (fun hHeld => hK _ _ hHeld ?_) (trivial)
        clear hK
        try simp only [Act.put, List.setIfInBounds_toArray, List.set_cons_zero, List.set_cons_succ]
        refine takeL (i := 10) (v := _) rfl (by kernel_rfl) (by kernel_rfl) (by kernel_rfl) (fun _ _ _ h => h) (yieldsIf_bin (by rfl) _ _ _ _ _ rfl _ _ rfl rfl _ hqE (hg _ _)) (by assumption) ?_
        try simp only [Act.put, List.setIfInBounds_toArray, List.set_cons_zero, List.set_cons_succ]
        refine takeL (i := 11) (v := _) rfl (by kernel_rfl) (by kernel_rfl) (by kernel_rfl) (fun _ _ _ h => h) (Or.inl ⟨by rfl, by intro w hSw; (try dsimp only at hSw); go_simp; try with_reducible rfl⟩) (by assumption) ?_
        try simp only [Act.put, List.setIfInBounds_toArray, List.set_cons_zero, List.set_cons_succ]
        refine takeL (i := 12) (v := _) rfl (by kernel_rfl) (by kernel_rfl) (by kernel_rfl) (fun _ _ _ h => h) (Or.inl ⟨by rfl, by intro w hSw; (try dsimp only at hSw); go_simp; try with_reducible rfl⟩) (by assumption) ?_
        try simp only [Act.put, List.setIfInBounds_toArray, List.set_cons_zero, List.set_cons_succ]
        refine wpAnyH_done (by kernel_rfl) ?_ _
        go_wp2_with fail
        go_ret
        exact ⟨by first | rfl | simp, hKV.trans hKB⟩
    · skip
      refine step_bsK rfl _ 27 1 _ rfl [.slice a1 len1 cap1] Tryd.underlying55 Tryd.bsSl rfl (by decide) (by decide) (by simp [Act.eval]) (by simp [Value.cells]) ?_
      intro g8 w8 hg8 hp8 qk
      clear hg8
      have hM8 := ManyB.one' hp8 ((HB1.out.keep hKB).keep qk)
      clear hp8
      refine (fun hHeld => hK _ _ hHeld ?_) (trivial)
      clear hK
      try simp only [Act.put, List.setIfInBounds_toArray, List.set_cons_zero, List.set_cons_succ]
      replace hKB := hKB.trans qk
      refine onlyL (i := 4) rfl (by kernel_rfl) (fun K hK => ?_)
      refine step_bsK rfl _ 27 1 _ rfl [.slice a1 len1 cap1] Tryd.underlying55 Tryd.bsSl rfl (by decide) (by decide) (by simp [Act.eval]) (by simp [Value.cells]) ?_
      intro g4 w4 hg4 hp4 qk
      clear hg4
      have hM4 := ManyB.one' hp4 ((HB1.out.keep hKB).keep qk)
      clear hp4
      refine (fun hHeld => hK _ _ hHeld ?_) (trivial)
      clear hK
      try simp only [Act.put, List.setIfInBounds_toArray, List.set_cons_zero, List.set_cons_succ]
      replace hKB := hKB.trans qk
      replace hM8 := hM8.keep qk
      refine onlyL (i := 5) rfl (by kernel_rfl) (fun K hK => ?_)
      go_simp
      refine (macSum_walk (n := len0) (cap := c2) (cl := 1) (hK0.keep hKB).1 (hK0.keep hKB).2 hM4 (by omega) (by simp; omega)).mono ?_
      rintro e w5 ⟨rfl, qk⟩
      rw [show [Z1].flatten = Z1 by simp]
      unfold keyV
      refine (fun hHeld => hK _ _ hHeld ?_) (trivial)
      clear hK
      try simp only [Act.put, List.setIfInBounds_toArray, List.set_cons_zero, List.set_cons_succ]
      replace hKB := hKB.trans qk
      replace hM8 := hM8.keep qk
      refine onlyL (i := 9) rfl (by kernel_rfl) (fun K hK => ?_)
      go_simp
      refine (macSum_walk (n := 32) (cap := 32) (cl := 1) ((hH0.keep0 hKB).row8 (digest_bytes Z0) (digest_len Z0) (by omega)) (fun h => by cases h) hM8 (by omega) (by simp; omega)).mono ?_
      rintro e w9 ⟨rfl, qk⟩
      rw [show [Z1].flatten = Z1 by simp, macL_long (by omega)]
      unfold keyV
      replace hKB := hKB.trans qk
      refine (fun hHeld => hK _ _ hHeld ?_) (trivial)
      clear hK
      try simp only [Act.put, List.setIfInBounds_toArray, List.set_cons_zero, List.set_cons_succ]
      refine takeL (i := 10) (v := _) rfl (by kernel_rfl) (by kernel_rfl) (by kernel_rfl) (fun _ _ _ h => h) (yieldsIf_bin (by rfl) _ _ _ _ _ rfl _ _ rfl rfl _ hqE (hg _ _)) (by assumption) ?_
      try simp only [Act.put, List.setIfInBounds_toArray, List.set_cons_zero, List.set_cons_succ]
      refine takeL (i := 11) (v := _) rfl (by kernel_rfl) (by kernel_rfl) (by kernel_rfl) (fun _ _ _ h => h) (Or.inl ⟨by rfl, by intro w hSw; (try dsimp only at hSw); go_simp; try with_reducible rfl⟩) (by assumption) ?_
      try simp only [Act.put, List.setIfInBounds_toArray, List.set_cons_zero, List.set_cons_succ]
      refine takeL (i := 12) (v := _) rfl (by kernel_rfl) (by kernel_rfl) (by kernel_rfl) (fun _ _ _ h => h) (Or.inl ⟨by rfl, by intro w hSw; (try dsimp only at hSw); go_simp; try with_reducible rfl⟩) (by assumption) ?_
      try simp only [Act.put, List.setIfInBounds_toArray, List.set_cons_zero, List.set_cons_succ]
      refine wpAnyH_done (by kernel_rfl) ?_ _
      go_wp2_with fail
      go_ret
      exact ⟨by first | rfl | simp, hKV.trans hKB⟩
  · have hq1 : IntKind.i64.wrap (65 - (len0 : Int)) = 65 - (len0 : Int) := by rw [IntKind.wrap_i64]; omega
    go_wp2_with fail
    refine (number_walk a2 (65 - (len0 : Int)) _ hn.1 hn.2 (by omega) (by omega)).mono ?_
    rintro e w3 ⟨rfl, rfl⟩
    obtain ⟨m, hmm, hm2⟩ := modNat a2 (65 - (len0 : Int)) (by omega)
    rw [hmm]
    clear hmm hn hq1
    have hq := (Keeps.refl Nil w2).alloc (.cells [Value.slice a1 len1 cap1].toArray 27)
    have hM := ManyB.one' (Blk.new w2 [Value.slice a1 len1 cap1] 27) ((HP.out.2.keep hk12).keep hq)
    have HM := Lib.hid (macSum_walk (n := len0) (cap := c2) (cl := 1) (hrk.keep hq).1 hrk.2 hM (by omega) (by simp; omega))
    rw [show [Z1].flatten = Z1 by simp] at HM
    clear hM
    go_wp2_with fail
    refine HM.out.mono ?_
    rintro e w3 ⟨rfl, hk3⟩
    unfold keyV
    have hk23 := hq.trans hk3
    have HB := Lib.hid (refBytes_walk (len := len0) (cap := c2) (hrk.keep hk23).1 (by omega))
    clear HM hq hk3
    go_wp2_with fail
    refine HB.out.mono ?_
    rintro e w4 ⟨a7, c7, rfl, ho7, hk4, hf7⟩
    rw [hZ0] at ho7 ⊢
    have hK4 := (hk12.trans hk23).trans hk4
    have hsz4 := (hk12.trans hk23).size
    clear HB
    go_wp2_with (at_builtin; refine wpl_zerosW rfl _ _ 27 3 5 .i64 .i64 rfl Tryd.underlying27 Tryd.underlying3 Tryd.info8 rfl ho7 hbZ0 m rfl (by omega) ?_)
    intro a9 c9 w9 hr9 hk9 hn9
    have hK9 : Keeps Nil w w9 := hK4.step hk9 (fun i hi => .inr (Nat.le_trans hsz4 (hf7 i hi)))
    have hq := (Keeps.refl Nil w9).alloc (.cells [Value.slice a1 len1 cap1].toArray 27)
    have hM := ManyB.one' (Blk.new w9 [Value.slice a1 len1 cap1] 27) ((HP.out.2.keep hK9).keep hq)
    have HM := Lib.hid (macSum_walk (n := len0 + m) (cap := c9) (cl := 1) (hr9.keep hq) (fun h => by have := hn9 h; omega) hM (by omega) (by simp; omega))
    rw [show [Z1].flatten = Z1 by simp, macL_fill (by omega)] at HM
    clear hM ho7 hk4 hf7 hr9 hk9 hn9 hK4
    go_wp2_with fail
    refine HM.out.mono ?_
    rintro e w10 ⟨rfl, hk10⟩
    unfold keyV
    have hK10 := (hK9.trans hq).trans hk10
    clear HM hq hk10 hK9
    go_wp2_with (refine wpl_bin rfl _ _ _ _ _ rfl _ _ rfl rfl _ hqE (hg _ _) ?_)
    go_ret
    exact ⟨by first | rfl | simp, hK10⟩
end Go.Proofs.YtnkahfpinkgimaaDoor
