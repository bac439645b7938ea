/-
  chain.Step, chain.Draw, chain.Root.
-/
import Derived.Test.YtnkahfpinkgimaaDoorMacEq
namespace Go.Proofs.YtnkahfpinkgimaaDoor
set_option linter.unusedSimpArgs false
set_option linter.unusedVariables false
open Go.RowKit

theorem Tryd.undK : Tryd.prog.underlying 23 = some (.array 32 5) := by kernel_rfl
theorem Tryd.infoK : (Tryd.prog.info? 23).map (·.size) = some 32 := by kernel_rfl
theorem Tryd.zeroK32 (w : World) : (zeroValue 23).run Tryd.prog w = .ok (.agg (byteV z32).toArray) w := by kernel_rfl
/-- A struct or an array out of each of two blocks. -/
theorem ret_blk2 {P : Program} {fn : Func} {R : Ending → World → Prop} {a : Act} {w : World} {p q : Tmp} {ty : TypeId} (h : fn.results = #[.cell p ty, .cell q ty]) (g g' : Nat) (hp : a.tmps.getD p undef = .pointer (some ⟨g, 0, none⟩)) (hq : a.tmps.getD q undef = .pointer (some ⟨g', 0, none⟩))
    {cs cs' : List Value} {T T' : TypeId} (hb : Blk w g cs T) (hb' : Blk w g' cs' T') (d : TypeDesc) (hu : P.underlying ty = some d) (hd : d.isRow = true) (hi : (P.info? ty).map (·.size) = some cs.length) (hi' : (P.info? ty).map (·.size) = some cs'.length) (hdf : a.defers = [])
    (hR : R (.returned (.tuple #[.agg cs.toArray, .agg cs'.toArray])) w) : bodyPost P fn R .ret a w := by
  have hp' : a.tmps[p]?.getD undef = .pointer (some ⟨g, 0, none⟩) := by simpa using hp
  have hq' : a.tmps[q]?.getD undef = .pointer (some ⟨g', 0, none⟩) := by simpa using hq
  refine bodyPost_ret (v := .tuple #[.agg cs.toArray, .agg cs'.toArray]) ?_ hdf hR
  simp [results, h, hp', hq', asAddr, run_loadVar_row w g T ty cs.toArray (0, 0) d hb hu (by cases d <;> first | rfl | cases hd) (by simpa using hi), run_loadVar_row w g' T' ty cs'.toArray (0, 0) d hb' hu (by cases d <;> first | rfl | cases hd) (by simpa using hi')]

/-- The next chain; a message's key. -/
def stepChain (c : List Int) : List Int := macL c [2]
def stepKey (c : List Int) : List Int := macL c [1]
def Key32 (l : List Int) : Prop := l.length = 32 ∧ AreB l
theorem macL_key (k m : List Int) : Key32 (macL k m) := ⟨macL_len _ _, macL_bytes _ _⟩
def TwoPost (w : World) (x y : List Int) (e : Ending) (w' : World) : Prop := e = .returned (.tuple #[keyV x, keyV y]) ∧ Keeps Nil w w'

set_option maxRecDepth 20000 in
set_option maxHeartbeats 3200000 in
theorem step_walk {w : World} {z : List Int} (hz : Key32 z) : Calls Tryd.prog 27 #[keyV z] w (TwoPost w (stepChain z) (stepKey z)) := by
  have hzv := Tryd.zeroK32
  have HZ := Lib.hid (show (byteV z32).length = 32 by rw [byteV_len, z32_len])
  generalize byteV z32 = Z at *
  have hcl : (byteV (stepChain z)).length = 32 ∧ (byteV (stepKey z)).length = 32 := ⟨by rw [byteV_len]; exact macL_len _ _, by rw [byteV_len]; exact macL_len _ _⟩
  obtain ⟨wA, hwA, hbx, hb2, hb3, hkA, hsA⟩ := alloc3 w (byteV z) 23 Z 23 Z 23
  have HWA := Lib.hid hwA
  clear hwA
  go_enter Tryd.func27, Tryd.ntmps27
  go_wp2_with fail
  rw [← HWA.out]
  clear HWA
  have hr2 : w.heap.size ≤ w.heap.size + 1 := by omega
  refine wp_region_held_drew (S := fun _ => True) (by kernel_rfl) trivial (fun hHeld => ?_)
  have hKB : Keeps Nil w wA.drew := hkA.drew
  replace hbx := hbx.drew
  replace hb2 := hb2.drew
  replace hb3 := hb3.drew
  generalize wA.drew = v0 at *
  clear hkA hsA
  generalize hr2' : w.heap.size + 1 = r2 at *
  generalize hr3' : r2 + 1 = r3 at *
  refine takeL (i := 0) (v := _) rfl (by kernel_rfl) (by kernel_rfl) (by kernel_rfl) (fun _ _ _ h => h) (Or.inl ⟨by rfl, by intro w hSw; (try dsimp only at hSw); go_simp; try with_reducible rfl⟩) (by assumption) ?_
  try simp only [Act.put, List.setIfInBounds_toArray, List.set_cons_zero, List.set_cons_succ]
  refine takeL (i := 4) (v := _) rfl (by kernel_rfl) (by kernel_rfl) (by kernel_rfl) (fun _ _ _ h => h) (Or.inl ⟨by rfl, by intro w hSw; (try dsimp only at hSw); go_simp; try with_reducible rfl⟩) (by assumption) ?_
  try simp only [Act.put, List.setIfInBounds_toArray, List.set_cons_zero, List.set_cons_succ]
  refine bothL (i := 1) (j := 5) rfl rfl (by kernel_rfl) (fun K hK => ?_) (fun K hK => ?_)
  · skip
    refine step_bsK rfl _ 5 1 _ rfl [.int .u8 2] Tryd.underlying27 Tryd.bs8 rfl (by decide) (by decide) (by simp [Act.eval]) (by simp [Value.cells]) ?_
    intro g1 w1 hg1 hp1 qk
    clear hg1
    refine (fun hHeld => hK _ _ hHeld ?_) (trivial)
    clear hK
    try simp only [Act.put, List.setIfInBounds_toArray, List.set_cons_zero, List.set_cons_succ]
    replace hKB := hKB.trans qk
    replace hbx := hbx.keep0 qk
    replace hb2 := hb2.keep0 qk
    replace hb3 := hb3.keep0 qk
    refine bothL (i := 2) (j := 5) rfl rfl (by kernel_rfl) (fun K hK => ?_) (fun K hK => ?_)
    · skip
      refine step_bsK rfl _ 27 1 _ rfl [.slice (some ⟨g1, 0, none⟩) 1 1] Tryd.underlying55 Tryd.bsSl rfl (by decide) (by decide) (by simp [Act.eval]) (by simp [Value.cells]) ?_
      intro g2 w2 hg2 hp2 qk
      clear hg2
      have hM2 := ManyB.one' hp2 (PieceOk.some (c := 1) (Blk.row8 (T := 5) (l := [2]) (n := 1) (hp1.keep0 qk) (fun x hx => by rw [List.mem_singleton.1 hx]; decide) rfl (by omega)))
      clear hp2
      refine (fun hHeld => hK _ _ hHeld ?_) (trivial)
      clear hK
      try simp only [Act.put, List.setIfInBounds_toArray, List.set_cons_zero, List.set_cons_succ]
      replace hKB := hKB.trans qk
      replace hbx := hbx.keep0 qk
      replace hb2 := hb2.keep0 qk
      replace hb3 := hb3.keep0 qk
      refine bothL (i := 3) (j := 5) rfl rfl (by kernel_rfl) (fun K hK => ?_) (fun K hK => ?_)
      · skip
        go_simp
        refine (macSum_walk (cap := 32) (cl := 1) (hbx.row8 hz.2 hz.1 (by omega)) (fun h => by cases h) hM2 (by omega) (by simp)).mono ?_
        rintro e w3 ⟨rfl, qk⟩
        rw [show [[(2 : Int)]].flatten = [2] from rfl, show macL z [2] = stepChain z from rfl]
        refine (fun hHeld => hK _ _ hHeld ?_) (trivial)
        clear hK
        try simp only [Act.put, List.setIfInBounds_toArray, List.set_cons_zero, List.set_cons_succ]
        replace hKB := hKB.trans qk
        replace hbx := hbx.keep0 qk
        replace hb2 := hb2.keep0 qk
        replace hb3 := hb3.keep0 qk
        refine onlyL (i := 5) rfl (by kernel_rfl) (fun K hK => ?_)
        refine step_bsK rfl _ 5 1 _ rfl [.int .u8 1] Tryd.underlying27 Tryd.bs8 rfl (by decide) (by decide) (by simp [Act.eval]) (by simp [Value.cells]) ?_
        intro g5 w5 hg5 hp5 qk
        clear hg5
        refine (fun hHeld => hK _ _ hHeld ?_) (trivial)
        clear hK
        try simp only [Act.put, List.setIfInBounds_toArray, List.set_cons_zero, List.set_cons_succ]
        replace hKB := hKB.trans qk
        replace hbx := hbx.keep0 qk
        replace hb2 := hb2.keep0 qk
        replace hb3 := hb3.keep0 qk
        refine onlyL (i := 6) rfl (by kernel_rfl) (fun K hK => ?_)
        refine step_bsK rfl _ 27 1 _ rfl [.slice (some ⟨g5, 0, none⟩) 1 1] Tryd.underlying55 Tryd.bsSl rfl (by decide) (by decide) (by simp [Act.eval]) (by simp [Value.cells]) ?_
        intro g6 w6 hg6 hp6 qk
        clear hg6
        have hM6 := ManyB.one' hp6 (PieceOk.some (c := 1) (Blk.row8 (T := 5) (l := [1]) (n := 1) (hp5.keep0 qk) (fun x hx => by rw [List.mem_singleton.1 hx]; decide) rfl (by omega)))
        clear hp6
        refine (fun hHeld => hK _ _ hHeld ?_) (trivial)
        clear hK
        try simp only [Act.put, List.setIfInBounds_toArray, List.set_cons_zero, List.set_cons_succ]
        replace hKB := hKB.trans qk
        replace hbx := hbx.keep0 qk
        replace hb2 := hb2.keep0 qk
        replace hb3 := hb3.keep0 qk
        refine onlyL (i := 7) rfl (by kernel_rfl) (fun K hK => ?_)
        go_simp
        refine (macSum_walk (cap := 32) (cl := 1) (hbx.row8 hz.2 hz.1 (by omega)) (fun h => by cases h) hM6 (by omega) (by simp)).mono ?_
        rintro e w7 ⟨rfl, qk⟩
        rw [show [[(1 : Int)]].flatten = [1] from rfl, show macL z [1] = stepKey z from rfl]
        refine (fun hHeld => hK _ _ hHeld ?_) (trivial)
        clear hK
        try simp only [Act.put, List.setIfInBounds_toArray, List.set_cons_zero, List.set_cons_succ]
        replace hb2 := hb2.keep0 qk
        replace hb3 := hb3.keep0 qk
        replace hKB := hKB.trans qk
        replace hbx := hbx.keep0 qk
        refine onlyL (i := 8) rfl (by kernel_rfl) (fun K hK => ?_)
        refine step_store rfl 23 _ _ rfl r2 rfl (byteV (stepChain z)) rfl hb2 (by rw [hcl.1, HZ.out]) (by rw [hcl.1]; exact Tryd.infoK) (byteV_one _) ?_
        intro w8 hb8 hk8 hs8
        have hb38 := hb3.keep hk8 (fun e => by have e' : r3 = r2 := e; omega)
        have hKB8 := hKB.step hk8 (fun i hi => .inr (by rw [show i = r2 from hi]; exact hr2))
        refine (fun hHeld => hK _ _ hHeld ?_) (trivial)
        clear hK
        try simp only [Act.put, List.setIfInBounds_toArray, List.set_cons_zero, List.set_cons_succ]
        refine onlyL (i := 9) rfl (by kernel_rfl) (fun K hK => ?_)
        refine step_store rfl 23 _ _ rfl r3 rfl (byteV (stepKey z)) rfl hb38 (by rw [hcl.2, HZ.out]) (by rw [hcl.2]; exact Tryd.infoK) (byteV_one _) ?_
        intro w9 hb9 hk9 hs9
        have hb29 := hb8.keep hk9 (fun e => by have e' : r2 = r3 := e; omega)
        have hKB9 := hKB8.step hk9 (fun i hi => .inr (by rw [show i = r3 from hi]; omega))
        refine (fun hHeld => hK _ _ hHeld ?_) (trivial)
        clear hK
        try simp only [Act.put, List.setIfInBounds_toArray, List.set_cons_zero, List.set_cons_succ]
        refine wpAnyH_done (by kernel_rfl) ?_ _
        go_wp2_with fail
        exact ret_blk2 Tryd.results27 r2 r3 rfl rfl hb29 hb9 _ Tryd.undK rfl (by rw [hcl.1]; exact Tryd.infoK) (by rw [hcl.2]; exact Tryd.infoK) rfl ⟨rfl, hKB9⟩
      · skip
        refine step_bsK rfl _ 5 1 _ rfl [.int .u8 1] Tryd.underlying27 Tryd.bs8 rfl (by decide) (by decide) (by simp [Act.eval]) (by simp [Value.cells]) ?_
        intro g5 w5 hg5 hp5 qk
        clear hg5
        refine (fun hHeld => hK _ _ hHeld ?_) (trivial)
        clear hK
        try simp only [Act.put, List.setIfInBounds_toArray, List.set_cons_zero, List.set_cons_succ]
        replace hKB := hKB.trans qk
        replace hbx := hbx.keep0 qk
        replace hb2 := hb2.keep0 qk
        replace hb3 := hb3.keep0 qk
        replace hM2 := hM2.keep qk
        refine bothL (i := 3) (j := 6) rfl rfl (by kernel_rfl) (fun K hK => ?_) (fun K hK => ?_)
        · skip
          go_simp
          refine (macSum_walk (cap := 32) (cl := 1) (hbx.row8 hz.2 hz.1 (by omega)) (fun h => by cases h) hM2 (by omega) (by simp)).mono ?_
          rintro e w3 ⟨rfl, qk⟩
          rw [show [[(2 : Int)]].flatten = [2] from rfl, show macL z [2] = stepChain z from rfl]
          refine (fun hHeld => hK _ _ hHeld ?_) (trivial)
          clear hK
          try simp only [Act.put, List.setIfInBounds_toArray, List.set_cons_zero, List.set_cons_succ]
          replace hKB := hKB.trans qk
          replace hbx := hbx.keep0 qk
          replace hb2 := hb2.keep0 qk
          replace hb3 := hb3.keep0 qk
          replace hp5 := hp5.keep0 qk
          refine onlyL (i := 6) rfl (by kernel_rfl) (fun K hK => ?_)
          refine step_bsK rfl _ 27 1 _ rfl [.slice (some ⟨g5, 0, none⟩) 1 1] Tryd.underlying55 Tryd.bsSl rfl (by decide) (by decide) (by simp [Act.eval]) (by simp [Value.cells]) ?_
          intro g6 w6 hg6 hp6 qk
          clear hg6
          have hM6 := ManyB.one' hp6 (PieceOk.some (c := 1) (Blk.row8 (T := 5) (l := [1]) (n := 1) (hp5.keep0 qk) (fun x hx => by rw [List.mem_singleton.1 hx]; decide) rfl (by omega)))
          clear hp6
          refine (fun hHeld => hK _ _ hHeld ?_) (trivial)
          clear hK
          try simp only [Act.put, List.setIfInBounds_toArray, List.set_cons_zero, List.set_cons_succ]
          replace hKB := hKB.trans qk
          replace hbx := hbx.keep0 qk
          replace hb2 := hb2.keep0 qk
          replace hb3 := hb3.keep0 qk
          refine onlyL (i := 7) rfl (by kernel_rfl) (fun K hK => ?_)
          go_simp
          refine (macSum_walk (cap := 32) (cl := 1) (hbx.row8 hz.2 hz.1 (by omega)) (fun h => by cases h) hM6 (by omega) (by simp)).mono ?_
          rintro e w7 ⟨rfl, qk⟩
          rw [show [[(1 : Int)]].flatten = [1] from rfl, show macL z [1] = stepKey z from rfl]
          refine (fun hHeld => hK _ _ hHeld ?_) (trivial)
          clear hK
          try simp only [Act.put, List.setIfInBounds_toArray, List.set_cons_zero, List.set_cons_succ]
          replace hb2 := hb2.keep0 qk
          replace hb3 := hb3.keep0 qk
          replace hKB := hKB.trans qk
          replace hbx := hbx.keep0 qk
          refine onlyL (i := 8) rfl (by kernel_rfl) (fun K hK => ?_)
          refine step_store rfl 23 _ _ rfl r2 rfl (byteV (stepChain z)) rfl hb2 (by rw [hcl.1, HZ.out]) (by rw [hcl.1]; exact Tryd.infoK) (byteV_one _) ?_
          intro w8 hb8 hk8 hs8
          have hb38 := hb3.keep hk8 (fun e => by have e' : r3 = r2 := e; omega)
          have hKB8 := hKB.step hk8 (fun i hi => .inr (by rw [show i = r2 from hi]; exact hr2))
          refine (fun hHeld => hK _ _ hHeld ?_) (trivial)
          clear hK
          try simp only [Act.put, List.setIfInBounds_toArray, List.set_cons_zero, List.set_cons_succ]
          refine onlyL (i := 9) rfl (by kernel_rfl) (fun K hK => ?_)
          refine step_store rfl 23 _ _ rfl r3 rfl (byteV (stepKey z)) rfl hb38 (by rw [hcl.2, HZ.out]) (by rw [hcl.2]; exact Tryd.infoK) (byteV_one _) ?_
          intro w9 hb9 hk9 hs9
          have hb29 := hb8.keep hk9 (fun e => by have e' : r2 = r3 := e; omega)
          have hKB9 := hKB8.step hk9 (fun i hi => .inr (by rw [show i = r3 from hi]; omega))
          refine (fun hHeld => hK _ _ hHeld ?_) (trivial)
          clear hK
          try simp only [Act.put, List.setIfInBounds_toArray, List.set_cons_zero, List.set_cons_succ]
          refine wpAnyH_done (by kernel_rfl) ?_ _
          go_wp2_with fail
          exact ret_blk2 Tryd.results27 r2 r3 rfl rfl hb29 hb9 _ Tryd.undK rfl (by rw [hcl.1]; exact Tryd.infoK) (by rw [hcl.2]; exact Tryd.infoK) rfl ⟨rfl, hKB9⟩
        · skip
          refine step_bsK rfl _ 27 1 _ rfl [.slice (some ⟨g5, 0, none⟩) 1 1] Tryd.underlying55 Tryd.bsSl rfl (by decide) (by decide) (by simp [Act.eval]) (by simp [Value.cells]) ?_
          intro g6 w6 hg6 hp6 qk
          clear hg6
          have hM6 := ManyB.one' hp6 (PieceOk.some (c := 1) (Blk.row8 (T := 5) (l := [1]) (n := 1) (hp5.keep0 qk) (fun x hx => by rw [List.mem_singleton.1 hx]; decide) rfl (by omega)))
          clear hp6
          refine (fun hHeld => hK _ _ hHeld ?_) (trivial)
          clear hK
          try simp only [Act.put, List.setIfInBounds_toArray, List.set_cons_zero, List.set_cons_succ]
          replace hKB := hKB.trans qk
          replace hbx := hbx.keep0 qk
          replace hb2 := hb2.keep0 qk
          replace hb3 := hb3.keep0 qk
          replace hM2 := hM2.keep qk
          refine onlyL (i := 3) rfl (by kernel_rfl) (fun K hK => ?_)
          go_simp
          refine (macSum_walk (cap := 32) (cl := 1) (hbx.row8 hz.2 hz.1 (by omega)) (fun h => by cases h) hM2 (by omega) (by simp)).mono ?_
          rintro e w3 ⟨rfl, qk⟩
          rw [show [[(2 : Int)]].flatten = [2] from rfl, show macL z [2] = stepChain z from rfl]
          refine (fun hHeld => hK _ _ hHeld ?_) (trivial)
          clear hK
          try simp only [Act.put, List.setIfInBounds_toArray, List.set_cons_zero, List.set_cons_succ]
          replace hKB := hKB.trans qk
          replace hbx := hbx.keep0 qk
          replace hb2 := hb2.keep0 qk
          replace hb3 := hb3.keep0 qk
          replace hM6 := hM6.keep qk
          refine onlyL (i := 7) rfl (by kernel_rfl) (fun K hK => ?_)
          go_simp
          refine (macSum_walk (cap := 32) (cl := 1) (hbx.row8 hz.2 hz.1 (by omega)) (fun h => by cases h) hM6 (by omega) (by simp)).mono ?_
          rintro e w7 ⟨rfl, qk⟩
          rw [show [[(1 : Int)]].flatten = [1] from rfl, show macL z [1] = stepKey z from rfl]
          refine (fun hHeld => hK _ _ hHeld ?_) (trivial)
          clear hK
          try simp only [Act.put, List.setIfInBounds_toArray, List.set_cons_zero, List.set_cons_succ]
          replace hb2 := hb2.keep0 qk
          replace hb3 := hb3.keep0 qk
          replace hKB := hKB.trans qk
          replace hbx := hbx.keep0 qk
          refine onlyL (i := 8) rfl (by kernel_rfl) (fun K hK => ?_)
          refine step_store rfl 23 _ _ rfl r2 rfl (byteV (stepChain z)) rfl hb2 (by rw [hcl.1, HZ.out]) (by rw [hcl.1]; exact Tryd.infoK) (byteV_one _) ?_
          intro w8 hb8 hk8 hs8
          have hb38 := hb3.keep hk8 (fun e => by have e' : r3 = r2 := e; omega)
          have hKB8 := hKB.step hk8 (fun i hi => .inr (by rw [show i = r2 from hi]; exact hr2))
          refine (fun hHeld => hK _ _ hHeld ?_) (trivial)
          clear hK
          try simp only [Act.put, List.setIfInBounds_toArray, List.set_cons_zero, List.set_cons_succ]
          refine onlyL (i := 9) rfl (by kernel_rfl) (fun K hK => ?_)
          refine step_store rfl 23 _ _ rfl r3 rfl (byteV (stepKey z)) rfl hb38 (by rw [hcl.2, HZ.out]) (by rw [hcl.2]; exact Tryd.infoK) (byteV_one _) ?_
          intro w9 hb9 hk9 hs9
          have hb29 := hb8.keep hk9 (fun e => by have e' : r2 = r3 := e; omega)
          have hKB9 := hKB8.step hk9 (fun i hi => .inr (by rw [show i = r3 from hi]; omega))
          refine (fun hHeld => hK _ _ hHeld ?_) (trivial)
          clear hK
          try simp only [Act.put, List.setIfInBounds_toArray, List.set_cons_zero, List.set_cons_succ]
          refine wpAnyH_done (by kernel_rfl) ?_ _
          go_wp2_with fail
          exact ret_blk2 Tryd.results27 r2 r3 rfl rfl hb29 hb9 _ Tryd.undK rfl (by rw [hcl.1]; exact Tryd.infoK) (by rw [hcl.2]; exact Tryd.infoK) rfl ⟨rfl, hKB9⟩
    · skip
      refine step_bsK rfl _ 5 1 _ rfl [.int .u8 1] Tryd.underlying27 Tryd.bs8 rfl (by decide) (by decide) (by simp [Act.eval]) (by simp [Value.cells]) ?_
      intro g5 w5 hg5 hp5 qk
      clear hg5
      refine (fun hHeld => hK _ _ hHeld ?_) (trivial)
      clear hK
      try simp only [Act.put, List.setIfInBounds_toArray, List.set_cons_zero, List.set_cons_succ]
      replace hKB := hKB.trans qk
      replace hbx := hbx.keep0 qk
      replace hb2 := hb2.keep0 qk
      replace hb3 := hb3.keep0 qk
      replace hp1 := hp1.keep0 qk
      refine bothL (i := 2) (j := 6) rfl rfl (by kernel_rfl) (fun K hK => ?_) (fun K hK => ?_)
      · skip
        refine step_bsK rfl _ 27 1 _ rfl [.slice (some ⟨g1, 0, none⟩) 1 1] Tryd.underlying55 Tryd.bsSl rfl (by decide) (by decide) (by simp [Act.eval]) (by simp [Value.cells]) ?_
        intro g2 w2 hg2 hp2 qk
        clear hg2
        have hM2 := ManyB.one' hp2 (PieceOk.some (c := 1) (Blk.row8 (T := 5) (l := [2]) (n := 1) (hp1.keep0 qk) (fun x hx => by rw [List.mem_singleton.1 hx]; decide) rfl (by omega)))
        clear hp2
        refine (fun hHeld => hK _ _ hHeld ?_) (trivial)
        clear hK
        try simp only [Act.put, List.setIfInBounds_toArray, List.set_cons_zero, List.set_cons_succ]
        replace hKB := hKB.trans qk
        replace hbx := hbx.keep0 qk
        replace hb2 := hb2.keep0 qk
        replace hb3 := hb3.keep0 qk
        replace hp5 := hp5.keep0 qk
        refine bothL (i := 3) (j := 6) rfl rfl (by kernel_rfl) (fun K hK => ?_) (fun K hK => ?_)
        · skip
          go_simp
          refine (macSum_walk (cap := 32) (cl := 1) (hbx.row8 hz.2 hz.1 (by omega)) (fun h => by cases h) hM2 (by omega) (by simp)).mono ?_
          rintro e w3 ⟨rfl, qk⟩
          rw [show [[(2 : Int)]].flatten = [2] from rfl, show macL z [2] = stepChain z from rfl]
          refine (fun hHeld => hK _ _ hHeld ?_) (trivial)
          clear hK
          try simp only [Act.put, List.setIfInBounds_toArray, List.set_cons_zero, List.set_cons_succ]
          replace hKB := hKB.trans qk
          replace hbx := hbx.keep0 qk
          replace hb2 := hb2.keep0 qk
          replace hb3 := hb3.keep0 qk
          replace hp5 := hp5.keep0 qk
          refine onlyL (i := 6) rfl (by kernel_rfl) (fun K hK => ?_)
          refine step_bsK rfl _ 27 1 _ rfl [.slice (some ⟨g5, 0, none⟩) 1 1] Tryd.underlying55 Tryd.bsSl rfl (by decide) (by decide) (by simp [Act.eval]) (by simp [Value.cells]) ?_
          intro g6 w6 hg6 hp6 qk
          clear hg6
          have hM6 := ManyB.one' hp6 (PieceOk.some (c := 1) (Blk.row8 (T := 5) (l := [1]) (n := 1) (hp5.keep0 qk) (fun x hx => by rw [List.mem_singleton.1 hx]; decide) rfl (by omega)))
          clear hp6
          refine (fun hHeld => hK _ _ hHeld ?_) (trivial)
          clear hK
          try simp only [Act.put, List.setIfInBounds_toArray, List.set_cons_zero, List.set_cons_succ]
          replace hKB := hKB.trans qk
          replace hbx := hbx.keep0 qk
          replace hb2 := hb2.keep0 qk
          replace hb3 := hb3.keep0 qk
          refine onlyL (i := 7) rfl (by kernel_rfl) (fun K hK => ?_)
          go_simp
          refine (macSum_walk (cap := 32) (cl := 1) (hbx.row8 hz.2 hz.1 (by omega)) (fun h => by cases h) hM6 (by omega) (by simp)).mono ?_
          rintro e w7 ⟨rfl, qk⟩
          rw [show [[(1 : Int)]].flatten = [1] from rfl, show macL z [1] = stepKey z from rfl]
          refine (fun hHeld => hK _ _ hHeld ?_) (trivial)
          clear hK
          try simp only [Act.put, List.setIfInBounds_toArray, List.set_cons_zero, List.set_cons_succ]
          replace hb2 := hb2.keep0 qk
          replace hb3 := hb3.keep0 qk
          replace hKB := hKB.trans qk
          replace hbx := hbx.keep0 qk
          refine onlyL (i := 8) rfl (by kernel_rfl) (fun K hK => ?_)
          refine step_store rfl 23 _ _ rfl r2 rfl (byteV (stepChain z)) rfl hb2 (by rw [hcl.1, HZ.out]) (by rw [hcl.1]; exact Tryd.infoK) (byteV_one _) ?_
          intro w8 hb8 hk8 hs8
          have hb38 := hb3.keep hk8 (fun e => by have e' : r3 = r2 := e; omega)
          have hKB8 := hKB.step hk8 (fun i hi => .inr (by rw [show i = r2 from hi]; exact hr2))
          refine (fun hHeld => hK _ _ hHeld ?_) (trivial)
          clear hK
          try simp only [Act.put, List.setIfInBounds_toArray, List.set_cons_zero, List.set_cons_succ]
          refine onlyL (i := 9) rfl (by kernel_rfl) (fun K hK => ?_)
          refine step_store rfl 23 _ _ rfl r3 rfl (byteV (stepKey z)) rfl hb38 (by rw [hcl.2, HZ.out]) (by rw [hcl.2]; exact Tryd.infoK) (byteV_one _) ?_
          intro w9 hb9 hk9 hs9
          have hb29 := hb8.keep hk9 (fun e => by have e' : r2 = r3 := e; omega)
          have hKB9 := hKB8.step hk9 (fun i hi => .inr (by rw [show i = r3 from hi]; omega))
          refine (fun hHeld => hK _ _ hHeld ?_) (trivial)
          clear hK
          try simp only [Act.put, List.setIfInBounds_toArray, List.set_cons_zero, List.set_cons_succ]
          refine wpAnyH_done (by kernel_rfl) ?_ _
          go_wp2_with fail
          exact ret_blk2 Tryd.results27 r2 r3 rfl rfl hb29 hb9 _ Tryd.undK rfl (by rw [hcl.1]; exact Tryd.infoK) (by rw [hcl.2]; exact Tryd.infoK) rfl ⟨rfl, hKB9⟩
        · skip
          refine step_bsK rfl _ 27 1 _ rfl [.slice (some ⟨g5, 0, none⟩) 1 1] Tryd.underlying55 Tryd.bsSl rfl (by decide) (by decide) (by simp [Act.eval]) (by simp [Value.cells]) ?_
          intro g6 w6 hg6 hp6 qk
          clear hg6
          have hM6 := ManyB.one' hp6 (PieceOk.some (c := 1) (Blk.row8 (T := 5) (l := [1]) (n := 1) (hp5.keep0 qk) (fun x hx => by rw [List.mem_singleton.1 hx]; decide) rfl (by omega)))
          clear hp6
          refine (fun hHeld => hK _ _ hHeld ?_) (trivial)
          clear hK
          try simp only [Act.put, List.setIfInBounds_toArray, List.set_cons_zero, List.set_cons_succ]
          replace hKB := hKB.trans qk
          replace hbx := hbx.keep0 qk
          replace hb2 := hb2.keep0 qk
          replace hb3 := hb3.keep0 qk
          replace hM2 := hM2.keep qk
          refine onlyL (i := 3) rfl (by kernel_rfl) (fun K hK => ?_)
          go_simp
          refine (macSum_walk (cap := 32) (cl := 1) (hbx.row8 hz.2 hz.1 (by omega)) (fun h => by cases h) hM2 (by omega) (by simp)).mono ?_
          rintro e w3 ⟨rfl, qk⟩
          rw [show [[(2 : Int)]].flatten = [2] from rfl, show macL z [2] = stepChain z from rfl]
          refine (fun hHeld => hK _ _ hHeld ?_) (trivial)
          clear hK
          try simp only [Act.put, List.setIfInBounds_toArray, List.set_cons_zero, List.set_cons_succ]
          replace hKB := hKB.trans qk
          replace hbx := hbx.keep0 qk
          replace hb2 := hb2.keep0 qk
          replace hb3 := hb3.keep0 qk
          replace hM6 := hM6.keep qk
          refine onlyL (i := 7) rfl (by kernel_rfl) (fun K hK => ?_)
          go_simp
          refine (macSum_walk (cap := 32) (cl := 1) (hbx.row8 hz.2 hz.1 (by omega)) (fun h => by cases h) hM6 (by omega) (by simp)).mono ?_
          rintro e w7 ⟨rfl, qk⟩
          rw [show [[(1 : Int)]].flatten = [1] from rfl, show macL z [1] = stepKey z from rfl]
          refine (fun hHeld => hK _ _ hHeld ?_) (trivial)
          clear hK
          try simp only [Act.put, List.setIfInBounds_toArray, List.set_cons_zero, List.set_cons_succ]
          replace hb2 := hb2.keep0 qk
          replace hb3 := hb3.keep0 qk
          replace hKB := hKB.trans qk
          replace hbx := hbx.keep0 qk
          refine onlyL (i := 8) rfl (by kernel_rfl) (fun K hK => ?_)
          refine step_store rfl 23 _ _ rfl r2 rfl (byteV (stepChain z)) rfl hb2 (by rw [hcl.1, HZ.out]) (by rw [hcl.1]; exact Tryd.infoK) (byteV_one _) ?_
          intro w8 hb8 hk8 hs8
          have hb38 := hb3.keep hk8 (fun e => by have e' : r3 = r2 := e; omega)
          have hKB8 := hKB.step hk8 (fun i hi => .inr (by rw [show i = r2 from hi]; exact hr2))
          refine (fun hHeld => hK _ _ hHeld ?_) (trivial)
          clear hK
          try simp only [Act.put, List.setIfInBounds_toArray, List.set_cons_zero, List.set_cons_succ]
          refine onlyL (i := 9) rfl (by kernel_rfl) (fun K hK => ?_)
          refine step_store rfl 23 _ _ rfl r3 rfl (byteV (stepKey z)) rfl hb38 (by rw [hcl.2, HZ.out]) (by rw [hcl.2]; exact Tryd.infoK) (byteV_one _) ?_
          intro w9 hb9 hk9 hs9
          have hb29 := hb8.keep hk9 (fun e => by have e' : r2 = r3 := e; omega)
          have hKB9 := hKB8.step hk9 (fun i hi => .inr (by rw [show i = r3 from hi]; omega))
          refine (fun hHeld => hK _ _ hHeld ?_) (trivial)
          clear hK
          try simp only [Act.put, List.setIfInBounds_toArray, List.set_cons_zero, List.set_cons_succ]
          refine wpAnyH_done (by kernel_rfl) ?_ _
          go_wp2_with fail
          exact ret_blk2 Tryd.results27 r2 r3 rfl rfl hb29 hb9 _ Tryd.undK rfl (by rw [hcl.1]; exact Tryd.infoK) (by rw [hcl.2]; exact Tryd.infoK) rfl ⟨rfl, hKB9⟩
      · skip
        refine step_bsK rfl _ 27 1 _ rfl [.slice (some ⟨g5, 0, none⟩) 1 1] Tryd.underlying55 Tryd.bsSl rfl (by decide) (by decide) (by simp [Act.eval]) (by simp [Value.cells]) ?_
        intro g6 w6 hg6 hp6 qk
        clear hg6
        have hM6 := ManyB.one' hp6 (PieceOk.some (c := 1) (Blk.row8 (T := 5) (l := [1]) (n := 1) (hp5.keep0 qk) (fun x hx => by rw [List.mem_singleton.1 hx]; decide) rfl (by omega)))
        clear hp6
        refine (fun hHeld => hK _ _ hHeld ?_) (trivial)
        clear hK
        try simp only [Act.put, List.setIfInBounds_toArray, List.set_cons_zero, List.set_cons_succ]
        replace hKB := hKB.trans qk
        replace hbx := hbx.keep0 qk
        replace hb2 := hb2.keep0 qk
        replace hb3 := hb3.keep0 qk
        replace hp1 := hp1.keep0 qk
        refine onlyL (i := 2) rfl (by kernel_rfl) (fun K hK => ?_)
        refine step_bsK rfl _ 27 1 _ rfl [.slice (some ⟨g1, 0, none⟩) 1 1] Tryd.underlying55 Tryd.bsSl rfl (by decide) (by decide) (by simp [Act.eval]) (by simp [Value.cells]) ?_
        intro g2 w2 hg2 hp2 qk
        clear hg2
        have hM2 := ManyB.one' hp2 (PieceOk.some (c := 1) (Blk.row8 (T := 5) (l := [2]) (n := 1) (hp1.keep0 qk) (fun x hx => by rw [List.mem_singleton.1 hx]; decide) rfl (by omega)))
        clear hp2
        refine (fun hHeld => hK _ _ hHeld ?_) (trivial)
        clear hK
        try simp only [Act.put, List.setIfInBounds_toArray, List.set_cons_zero, List.set_cons_succ]
        replace hKB := hKB.trans qk
        replace hbx := hbx.keep0 qk
        replace hb2 := hb2.keep0 qk
        replace hb3 := hb3.keep0 qk
        replace hM6 := hM6.keep qk
        refine onlyL (i := 3) rfl (by kernel_rfl) (fun K hK => ?_)
        go_simp
        refine (macSum_walk (cap := 32) (cl := 1) (hbx.row8 hz.2 hz.1 (by omega)) (fun h => by cases h) hM2 (by omega) (by simp)).mono ?_
        rintro e w3 ⟨rfl, qk⟩
        rw [show [[(2 : Int)]].flatten = [2] from rfl, show macL z [2] = stepChain z from rfl]
        refine (fun hHeld => hK _ _ hHeld ?_) (trivial)
        clear hK
        try simp only [Act.put, List.setIfInBounds_toArray, List.set_cons_zero, List.set_cons_succ]
        replace hKB := hKB.trans qk
        replace hbx := hbx.keep0 qk
        replace hb2 := hb2.keep0 qk
        replace hb3 := hb3.keep0 qk
        replace hM6 := hM6.keep qk
        refine onlyL (i := 7) rfl (by kernel_rfl) (fun K hK => ?_)
        go_simp
        refine (macSum_walk (cap := 32) (cl := 1) (hbx.row8 hz.2 hz.1 (by omega)) (fun h => by cases h) hM6 (by omega) (by simp)).mono ?_
        rintro e w7 ⟨rfl, qk⟩
        rw [show [[(1 : Int)]].flatten = [1] from rfl, show macL z [1] = stepKey z from rfl]
        refine (fun hHeld => hK _ _ hHeld ?_) (trivial)
        clear hK
        try simp only [Act.put, List.setIfInBounds_toArray, List.set_cons_zero, List.set_cons_succ]
        replace hb2 := hb2.keep0 qk
        replace hb3 := hb3.keep0 qk
        replace hKB := hKB.trans qk
        replace hbx := hbx.keep0 qk
        refine onlyL (i := 8) rfl (by kernel_rfl) (fun K hK => ?_)
        refine step_store rfl 23 _ _ rfl r2 rfl (byteV (stepChain z)) rfl hb2 (by rw [hcl.1, HZ.out]) (by rw [hcl.1]; exact Tryd.infoK) (byteV_one _) ?_
        intro w8 hb8 hk8 hs8
        have hb38 := hb3.keep hk8 (fun e => by have e' : r3 = r2 := e; omega)
        have hKB8 := hKB.step hk8 (fun i hi => .inr (by rw [show i = r2 from hi]; exact hr2))
        refine (fun hHeld => hK _ _ hHeld ?_) (trivial)
        clear hK
        try simp only [Act.put, List.setIfInBounds_toArray, List.set_cons_zero, List.set_cons_succ]
        refine onlyL (i := 9) rfl (by kernel_rfl) (fun K hK => ?_)
        refine step_store rfl 23 _ _ rfl r3 rfl (byteV (stepKey z)) rfl hb38 (by rw [hcl.2, HZ.out]) (by rw [hcl.2]; exact Tryd.infoK) (byteV_one _) ?_
        intro w9 hb9 hk9 hs9
        have hb29 := hb8.keep hk9 (fun e => by have e' : r2 = r3 := e; omega)
        have hKB9 := hKB8.step hk9 (fun i hi => .inr (by rw [show i = r3 from hi]; omega))
        refine (fun hHeld => hK _ _ hHeld ?_) (trivial)
        clear hK
        try simp only [Act.put, List.setIfInBounds_toArray, List.set_cons_zero, List.set_cons_succ]
        refine wpAnyH_done (by kernel_rfl) ?_ _
        go_wp2_with fail
        exact ret_blk2 Tryd.results27 r2 r3 rfl rfl hb29 hb9 _ Tryd.undK rfl (by rw [hcl.1]; exact Tryd.infoK) (by rw [hcl.2]; exact Tryd.infoK) rfl ⟨rfl, hKB9⟩
  · skip
    refine step_bsK rfl _ 5 1 _ rfl [.int .u8 1] Tryd.underlying27 Tryd.bs8 rfl (by decide) (by decide) (by simp [Act.eval]) (by simp [Value.cells]) ?_
    intro g5 w5 hg5 hp5 qk
    clear hg5
    refine (fun hHeld => hK _ _ hHeld ?_) (trivial)
    clear hK
    try simp only [Act.put, List.setIfInBounds_toArray, List.set_cons_zero, List.set_cons_succ]
    replace hKB := hKB.trans qk
    replace hbx := hbx.keep0 qk
    replace hb2 := hb2.keep0 qk
    replace hb3 := hb3.keep0 qk
    refine bothL (i := 1) (j := 6) rfl rfl (by kernel_rfl) (fun K hK => ?_) (fun K hK => ?_)
    · skip
      refine step_bsK rfl _ 5 1 _ rfl [.int .u8 2] Tryd.underlying27 Tryd.bs8 rfl (by decide) (by decide) (by simp [Act.eval]) (by simp [Value.cells]) ?_
      intro g1 w1 hg1 hp1 qk
      clear hg1
      refine (fun hHeld => hK _ _ hHeld ?_) (trivial)
      clear hK
      try simp only [Act.put, List.setIfInBounds_toArray, List.set_cons_zero, List.set_cons_succ]
      replace hKB := hKB.trans qk
      replace hbx := hbx.keep0 qk
      replace hb2 := hb2.keep0 qk
      replace hb3 := hb3.keep0 qk
      replace hp5 := hp5.keep0 qk
      refine bothL (i := 2) (j := 6) rfl rfl (by kernel_rfl) (fun K hK => ?_) (fun K hK => ?_)
      · skip
        refine step_bsK rfl _ 27 1 _ rfl [.slice (some ⟨g1, 0, none⟩) 1 1] Tryd.underlying55 Tryd.bsSl rfl (by decide) (by decide) (by simp [Act.eval]) (by simp [Value.cells]) ?_
        intro g2 w2 hg2 hp2 qk
        clear hg2
        have hM2 := ManyB.one' hp2 (PieceOk.some (c := 1) (Blk.row8 (T := 5) (l := [2]) (n := 1) (hp1.keep0 qk) (fun x hx => by rw [List.mem_singleton.1 hx]; decide) rfl (by omega)))
        clear hp2
        refine (fun hHeld => hK _ _ hHeld ?_) (trivial)
        clear hK
        try simp only [Act.put, List.setIfInBounds_toArray, List.set_cons_zero, List.set_cons_succ]
        replace hKB := hKB.trans qk
        replace hbx := hbx.keep0 qk
        replace hb2 := hb2.keep0 qk
        replace hb3 := hb3.keep0 qk
        replace hp5 := hp5.keep0 qk
        refine bothL (i := 3) (j := 6) rfl rfl (by kernel_rfl) (fun K hK => ?_) (fun K hK => ?_)
        · skip
          go_simp
          refine (macSum_walk (cap := 32) (cl := 1) (hbx.row8 hz.2 hz.1 (by omega)) (fun h => by cases h) hM2 (by omega) (by simp)).mono ?_
          rintro e w3 ⟨rfl, qk⟩
          rw [show [[(2 : Int)]].flatten = [2] from rfl, show macL z [2] = stepChain z from rfl]
          refine (fun hHeld => hK _ _ hHeld ?_) (trivial)
          clear hK
          try simp only [Act.put, List.setIfInBounds_toArray, List.set_cons_zero, List.set_cons_succ]
          replace hKB := hKB.trans qk
          replace hbx := hbx.keep0 qk
          replace hb2 := hb2.keep0 qk
          replace hb3 := hb3.keep0 qk
          replace hp5 := hp5.keep0 qk
          refine onlyL (i := 6) rfl (by kernel_rfl) (fun K hK => ?_)
          refine step_bsK rfl _ 27 1 _ rfl [.slice (some ⟨g5, 0, none⟩) 1 1] Tryd.underlying55 Tryd.bsSl rfl (by decide) (by decide) (by simp [Act.eval]) (by simp [Value.cells]) ?_
          intro g6 w6 hg6 hp6 qk
          clear hg6
          have hM6 := ManyB.one' hp6 (PieceOk.some (c := 1) (Blk.row8 (T := 5) (l := [1]) (n := 1) (hp5.keep0 qk) (fun x hx => by rw [List.mem_singleton.1 hx]; decide) rfl (by omega)))
          clear hp6
          refine (fun hHeld => hK _ _ hHeld ?_) (trivial)
          clear hK
          try simp only [Act.put, List.setIfInBounds_toArray, List.set_cons_zero, List.set_cons_succ]
          replace hKB := hKB.trans qk
          replace hbx := hbx.keep0 qk
          replace hb2 := hb2.keep0 qk
          replace hb3 := hb3.keep0 qk
          refine onlyL (i := 7) rfl (by kernel_rfl) (fun K hK => ?_)
          go_simp
          refine (macSum_walk (cap := 32) (cl := 1) (hbx.row8 hz.2 hz.1 (by omega)) (fun h => by cases h) hM6 (by omega) (by simp)).mono ?_
          rintro e w7 ⟨rfl, qk⟩
          rw [show [[(1 : Int)]].flatten = [1] from rfl, show macL z [1] = stepKey z from rfl]
          refine (fun hHeld => hK _ _ hHeld ?_) (trivial)
          clear hK
          try simp only [Act.put, List.setIfInBounds_toArray, List.set_cons_zero, List.set_cons_succ]
          replace hb2 := hb2.keep0 qk
          replace hb3 := hb3.keep0 qk
          replace hKB := hKB.trans qk
          replace hbx := hbx.keep0 qk
          refine onlyL (i := 8) rfl (by kernel_rfl) (fun K hK => ?_)
          refine step_store rfl 23 _ _ rfl r2 rfl (byteV (stepChain z)) rfl hb2 (by rw [hcl.1, HZ.out]) (by rw [hcl.1]; exact Tryd.infoK) (byteV_one _) ?_
          intro w8 hb8 hk8 hs8
          have hb38 := hb3.keep hk8 (fun e => by have e' : r3 = r2 := e; omega)
          have hKB8 := hKB.step hk8 (fun i hi => .inr (by rw [show i = r2 from hi]; exact hr2))
          refine (fun hHeld => hK _ _ hHeld ?_) (trivial)
          clear hK
          try simp only [Act.put, List.setIfInBounds_toArray, List.set_cons_zero, List.set_cons_succ]
          refine onlyL (i := 9) rfl (by kernel_rfl) (fun K hK => ?_)
          refine step_store rfl 23 _ _ rfl r3 rfl (byteV (stepKey z)) rfl hb38 (by rw [hcl.2, HZ.out]) (by rw [hcl.2]; exact Tryd.infoK) (byteV_one _) ?_
          intro w9 hb9 hk9 hs9
          have hb29 := hb8.keep hk9 (fun e => by have e' : r2 = r3 := e; omega)
          have hKB9 := hKB8.step hk9 (fun i hi => .inr (by rw [show i = r3 from hi]; omega))
          refine (fun hHeld => hK _ _ hHeld ?_) (trivial)
          clear hK
          try simp only [Act.put, List.setIfInBounds_toArray, List.set_cons_zero, List.set_cons_succ]
          refine wpAnyH_done (by kernel_rfl) ?_ _
          go_wp2_with fail
          exact ret_blk2 Tryd.results27 r2 r3 rfl rfl hb29 hb9 _ Tryd.undK rfl (by rw [hcl.1]; exact Tryd.infoK) (by rw [hcl.2]; exact Tryd.infoK) rfl ⟨rfl, hKB9⟩
        · skip
          refine step_bsK rfl _ 27 1 _ rfl [.slice (some ⟨g5, 0, none⟩) 1 1] Tryd.underlying55 Tryd.bsSl rfl (by decide) (by decide) (by simp [Act.eval]) (by simp [Value.cells]) ?_
          intro g6 w6 hg6 hp6 qk
          clear hg6
          have hM6 := ManyB.one' hp6 (PieceOk.some (c := 1) (Blk.row8 (T := 5) (l := [1]) (n := 1) (hp5.keep0 qk) (fun x hx => by rw [List.mem_singleton.1 hx]; decide) rfl (by omega)))
          clear hp6
          refine (fun hHeld => hK _ _ hHeld ?_) (trivial)
          clear hK
          try simp only [Act.put, List.setIfInBounds_toArray, List.set_cons_zero, List.set_cons_succ]
          replace hKB := hKB.trans qk
          replace hbx := hbx.keep0 qk
          replace hb2 := hb2.keep0 qk
          replace hb3 := hb3.keep0 qk
          replace hM2 := hM2.keep qk
          refine onlyL (i := 3) rfl (by kernel_rfl) (fun K hK => ?_)
          go_simp
          refine (macSum_walk (cap := 32) (cl := 1) (hbx.row8 hz.2 hz.1 (by omega)) (fun h => by cases h) hM2 (by omega) (by simp)).mono ?_
          rintro e w3 ⟨rfl, qk⟩
          rw [show [[(2 : Int)]].flatten = [2] from rfl, show macL z [2] = stepChain z from rfl]
          refine (fun hHeld => hK _ _ hHeld ?_) (trivial)
          clear hK
          try simp only [Act.put, List.setIfInBounds_toArray, List.set_cons_zero, List.set_cons_succ]
          replace hKB := hKB.trans qk
          replace hbx := hbx.keep0 qk
          replace hb2 := hb2.keep0 qk
          replace hb3 := hb3.keep0 qk
          replace hM6 := hM6.keep qk
          refine onlyL (i := 7) rfl (by kernel_rfl) (fun K hK => ?_)
          go_simp
          refine (macSum_walk (cap := 32) (cl := 1) (hbx.row8 hz.2 hz.1 (by omega)) (fun h => by cases h) hM6 (by omega) (by simp)).mono ?_
          rintro e w7 ⟨rfl, qk⟩
          rw [show [[(1 : Int)]].flatten = [1] from rfl, show macL z [1] = stepKey z from rfl]
          refine (fun hHeld => hK _ _ hHeld ?_) (trivial)
          clear hK
          try simp only [Act.put, List.setIfInBounds_toArray, List.set_cons_zero, List.set_cons_succ]
          replace hb2 := hb2.keep0 qk
          replace hb3 := hb3.keep0 qk
          replace hKB := hKB.trans qk
          replace hbx := hbx.keep0 qk
          refine onlyL (i := 8) rfl (by kernel_rfl) (fun K hK => ?_)
          refine step_store rfl 23 _ _ rfl r2 rfl (byteV (stepChain z)) rfl hb2 (by rw [hcl.1, HZ.out]) (by rw [hcl.1]; exact Tryd.infoK) (byteV_one _) ?_
          intro w8 hb8 hk8 hs8
          have hb38 := hb3.keep hk8 (fun e => by have e' : r3 = r2 := e; omega)
          have hKB8 := hKB.step hk8 (fun i hi => .inr (by rw [show i = r2 from hi]; exact hr2))
          refine (fun hHeld => hK _ _ hHeld ?_) (trivial)
          clear hK
          try simp only [Act.put, List.setIfInBounds_toArray, List.set_cons_zero, List.set_cons_succ]
          refine onlyL (i := 9) rfl (by kernel_rfl) (fun K hK => ?_)
          refine step_store rfl 23 _ _ rfl r3 rfl (byteV (stepKey z)) rfl hb38 (by rw [hcl.2, HZ.out]) (by rw [hcl.2]; exact Tryd.infoK) (byteV_one _) ?_
          intro w9 hb9 hk9 hs9
          have hb29 := hb8.keep hk9 (fun e => by have e' : r2 = r3 := e; omega)
          have hKB9 := hKB8.step hk9 (fun i hi => .inr (by rw [show i = r3 from hi]; omega))
          refine (fun hHeld => hK _ _ hHeld ?_) (trivial)
          clear hK
          try simp only [Act.put, List.setIfInBounds_toArray, List.set_cons_zero, List.set_cons_succ]
          refine wpAnyH_done (by kernel_rfl) ?_ _
          go_wp2_with fail
          exact ret_blk2 Tryd.results27 r2 r3 rfl rfl hb29 hb9 _ Tryd.undK rfl (by rw [hcl.1]; exact Tryd.infoK) (by rw [hcl.2]; exact Tryd.infoK) rfl ⟨rfl, hKB9⟩
      · skip
        refine step_bsK rfl _ 27 1 _ rfl [.slice (some ⟨g5, 0, none⟩) 1 1] Tryd.underlying55 Tryd.bsSl rfl (by decide) (by decide) (by simp [Act.eval]) (by simp [Value.cells]) ?_
        intro g6 w6 hg6 hp6 qk
        clear hg6
        have hM6 := ManyB.one' hp6 (PieceOk.some (c := 1) (Blk.row8 (T := 5) (l := [1]) (n := 1) (hp5.keep0 qk) (fun x hx => by rw [List.mem_singleton.1 hx]; decide) rfl (by omega)))
        clear hp6
        refine (fun hHeld => hK _ _ hHeld ?_) (trivial)
        clear hK
        try simp only [Act.put, List.setIfInBounds_toArray, List.set_cons_zero, List.set_cons_succ]
        replace hKB := hKB.trans qk
        replace hbx := hbx.keep0 qk
        replace hb2 := hb2.keep0 qk
        replace hb3 := hb3.keep0 qk
        replace hp1 := hp1.keep0 qk
        refine onlyL (i := 2) rfl (by kernel_rfl) (fun K hK => ?_)
        refine step_bsK rfl _ 27 1 _ rfl [.slice (some ⟨g1, 0, none⟩) 1 1] Tryd.underlying55 Tryd.bsSl rfl (by decide) (by decide) (by simp [Act.eval]) (by simp [Value.cells]) ?_
        intro g2 w2 hg2 hp2 qk
        clear hg2
        have hM2 := ManyB.one' hp2 (PieceOk.some (c := 1) (Blk.row8 (T := 5) (l := [2]) (n := 1) (hp1.keep0 qk) (fun x hx => by rw [List.mem_singleton.1 hx]; decide) rfl (by omega)))
        clear hp2
        refine (fun hHeld => hK _ _ hHeld ?_) (trivial)
        clear hK
        try simp only [Act.put, List.setIfInBounds_toArray, List.set_cons_zero, List.set_cons_succ]
        replace hKB := hKB.trans qk
        replace hbx := hbx.keep0 qk
        replace hb2 := hb2.keep0 qk
        replace hb3 := hb3.keep0 qk
        replace hM6 := hM6.keep qk
        refine onlyL (i := 3) rfl (by kernel_rfl) (fun K hK => ?_)
        go_simp
        refine (macSum_walk (cap := 32) (cl := 1) (hbx.row8 hz.2 hz.1 (by omega)) (fun h => by cases h) hM2 (by omega) (by simp)).mono ?_
        rintro e w3 ⟨rfl, qk⟩
        rw [show [[(2 : Int)]].flatten = [2] from rfl, show macL z [2] = stepChain z from rfl]
        refine (fun hHeld => hK _ _ hHeld ?_) (trivial)
        clear hK
        try simp only [Act.put, List.setIfInBounds_toArray, List.set_cons_zero, List.set_cons_succ]
        replace hKB := hKB.trans qk
        replace hbx := hbx.keep0 qk
        replace hb2 := hb2.keep0 qk
        replace hb3 := hb3.keep0 qk
        replace hM6 := hM6.keep qk
        refine onlyL (i := 7) rfl (by kernel_rfl) (fun K hK => ?_)
        go_simp
        refine (macSum_walk (cap := 32) (cl := 1) (hbx.row8 hz.2 hz.1 (by omega)) (fun h => by cases h) hM6 (by omega) (by simp)).mono ?_
        rintro e w7 ⟨rfl, qk⟩
        rw [show [[(1 : Int)]].flatten = [1] from rfl, show macL z [1] = stepKey z from rfl]
        refine (fun hHeld => hK _ _ hHeld ?_) (trivial)
        clear hK
        try simp only [Act.put, List.setIfInBounds_toArray, List.set_cons_zero, List.set_cons_succ]
        replace hb2 := hb2.keep0 qk
        replace hb3 := hb3.keep0 qk
        replace hKB := hKB.trans qk
        replace hbx := hbx.keep0 qk
        refine onlyL (i := 8) rfl (by kernel_rfl) (fun K hK => ?_)
        refine step_store rfl 23 _ _ rfl r2 rfl (byteV (stepChain z)) rfl hb2 (by rw [hcl.1, HZ.out]) (by rw [hcl.1]; exact Tryd.infoK) (byteV_one _) ?_
        intro w8 hb8 hk8 hs8
        have hb38 := hb3.keep hk8 (fun e => by have e' : r3 = r2 := e; omega)
        have hKB8 := hKB.step hk8 (fun i hi => .inr (by rw [show i = r2 from hi]; exact hr2))
        refine (fun hHeld => hK _ _ hHeld ?_) (trivial)
        clear hK
        try simp only [Act.put, List.setIfInBounds_toArray, List.set_cons_zero, List.set_cons_succ]
        refine onlyL (i := 9) rfl (by kernel_rfl) (fun K hK => ?_)
        refine step_store rfl 23 _ _ rfl r3 rfl (byteV (stepKey z)) rfl hb38 (by rw [hcl.2, HZ.out]) (by rw [hcl.2]; exact Tryd.infoK) (byteV_one _) ?_
        intro w9 hb9 hk9 hs9
        have hb29 := hb8.keep hk9 (fun e => by have e' : r2 = r3 := e; omega)
        have hKB9 := hKB8.step hk9 (fun i hi => .inr (by rw [show i = r3 from hi]; omega))
        refine (fun hHeld => hK _ _ hHeld ?_) (trivial)
        clear hK
        try simp only [Act.put, List.setIfInBounds_toArray, List.set_cons_zero, List.set_cons_succ]
        refine wpAnyH_done (by kernel_rfl) ?_ _
        go_wp2_with fail
        exact ret_blk2 Tryd.results27 r2 r3 rfl rfl hb29 hb9 _ Tryd.undK rfl (by rw [hcl.1]; exact Tryd.infoK) (by rw [hcl.2]; exact Tryd.infoK) rfl ⟨rfl, hKB9⟩
    · skip
      refine step_bsK rfl _ 27 1 _ rfl [.slice (some ⟨g5, 0, none⟩) 1 1] Tryd.underlying55 Tryd.bsSl rfl (by decide) (by decide) (by simp [Act.eval]) (by simp [Value.cells]) ?_
      intro g6 w6 hg6 hp6 qk
      clear hg6
      have hM6 := ManyB.one' hp6 (PieceOk.some (c := 1) (Blk.row8 (T := 5) (l := [1]) (n := 1) (hp5.keep0 qk) (fun x hx => by rw [List.mem_singleton.1 hx]; decide) rfl (by omega)))
      clear hp6
      refine (fun hHeld => hK _ _ hHeld ?_) (trivial)
      clear hK
      try simp only [Act.put, List.setIfInBounds_toArray, List.set_cons_zero, List.set_cons_succ]
      replace hKB := hKB.trans qk
      replace hbx := hbx.keep0 qk
      replace hb2 := hb2.keep0 qk
      replace hb3 := hb3.keep0 qk
      refine onlyL (i := 1) rfl (by kernel_rfl) (fun K hK => ?_)
      refine step_bsK rfl _ 5 1 _ rfl [.int .u8 2] Tryd.underlying27 Tryd.bs8 rfl (by decide) (by decide) (by simp [Act.eval]) (by simp [Value.cells]) ?_
      intro g1 w1 hg1 hp1 qk
      clear hg1
      refine (fun hHeld => hK _ _ hHeld ?_) (trivial)
      clear hK
      try simp only [Act.put, List.setIfInBounds_toArray, List.set_cons_zero, List.set_cons_succ]
      replace hKB := hKB.trans qk
      replace hbx := hbx.keep0 qk
      replace hb2 := hb2.keep0 qk
      replace hb3 := hb3.keep0 qk
      replace hM6 := hM6.keep qk
      refine onlyL (i := 2) rfl (by kernel_rfl) (fun K hK => ?_)
      refine step_bsK rfl _ 27 1 _ rfl [.slice (some ⟨g1, 0, none⟩) 1 1] Tryd.underlying55 Tryd.bsSl rfl (by decide) (by decide) (by simp [Act.eval]) (by simp [Value.cells]) ?_
      intro g2 w2 hg2 hp2 qk
      clear hg2
      have hM2 := ManyB.one' hp2 (PieceOk.some (c := 1) (Blk.row8 (T := 5) (l := [2]) (n := 1) (hp1.keep0 qk) (fun x hx => by rw [List.mem_singleton.1 hx]; decide) rfl (by omega)))
      clear hp2
      refine (fun hHeld => hK _ _ hHeld ?_) (trivial)
      clear hK
      try simp only [Act.put, List.setIfInBounds_toArray, List.set_cons_zero, List.set_cons_succ]
      replace hKB := hKB.trans qk
      replace hbx := hbx.keep0 qk
      replace hb2 := hb2.keep0 qk
      replace hb3 := hb3.keep0 qk
      replace hM6 := hM6.keep qk
      refine onlyL (i := 3) rfl (by kernel_rfl) (fun K hK => ?_)
      go_simp
      refine (macSum_walk (cap := 32) (cl := 1) (hbx.row8 hz.2 hz.1 (by omega)) (fun h => by cases h) hM2 (by omega) (by simp)).mono ?_
      rintro e w3 ⟨rfl, qk⟩
      rw [show [[(2 : Int)]].flatten = [2] from rfl, show macL z [2] = stepChain z from rfl]
      refine (fun hHeld => hK _ _ hHeld ?_) (trivial)
      clear hK
      try simp only [Act.put, List.setIfInBounds_toArray, List.set_cons_zero, List.set_cons_succ]
      replace hKB := hKB.trans qk
      replace hbx := hbx.keep0 qk
      replace hb2 := hb2.keep0 qk
      replace hb3 := hb3.keep0 qk
      replace hM6 := hM6.keep qk
      refine onlyL (i := 7) rfl (by kernel_rfl) (fun K hK => ?_)
      go_simp
      refine (macSum_walk (cap := 32) (cl := 1) (hbx.row8 hz.2 hz.1 (by omega)) (fun h => by cases h) hM6 (by omega) (by simp)).mono ?_
      rintro e w7 ⟨rfl, qk⟩
      rw [show [[(1 : Int)]].flatten = [1] from rfl, show macL z [1] = stepKey z from rfl]
      refine (fun hHeld => hK _ _ hHeld ?_) (trivial)
      clear hK
      try simp only [Act.put, List.setIfInBounds_toArray, List.set_cons_zero, List.set_cons_succ]
      replace hb2 := hb2.keep0 qk
      replace hb3 := hb3.keep0 qk
      replace hKB := hKB.trans qk
      replace hbx := hbx.keep0 qk
      refine onlyL (i := 8) rfl (by kernel_rfl) (fun K hK => ?_)
      refine step_store rfl 23 _ _ rfl r2 rfl (byteV (stepChain z)) rfl hb2 (by rw [hcl.1, HZ.out]) (by rw [hcl.1]; exact Tryd.infoK) (byteV_one _) ?_
      intro w8 hb8 hk8 hs8
      have hb38 := hb3.keep hk8 (fun e => by have e' : r3 = r2 := e; omega)
      have hKB8 := hKB.step hk8 (fun i hi => .inr (by rw [show i = r2 from hi]; exact hr2))
      refine (fun hHeld => hK _ _ hHeld ?_) (trivial)
      clear hK
      try simp only [Act.put, List.setIfInBounds_toArray, List.set_cons_zero, List.set_cons_succ]
      refine onlyL (i := 9) rfl (by kernel_rfl) (fun K hK => ?_)
      refine step_store rfl 23 _ _ rfl r3 rfl (byteV (stepKey z)) rfl hb38 (by rw [hcl.2, HZ.out]) (by rw [hcl.2]; exact Tryd.infoK) (byteV_one _) ?_
      intro w9 hb9 hk9 hs9
      have hb29 := hb8.keep hk9 (fun e => by have e' : r2 = r3 := e; omega)
      have hKB9 := hKB8.step hk9 (fun i hi => .inr (by rw [show i = r3 from hi]; omega))
      refine (fun hHeld => hK _ _ hHeld ?_) (trivial)
      clear hK
      try simp only [Act.put, List.setIfInBounds_toArray, List.set_cons_zero, List.set_cons_succ]
      refine wpAnyH_done (by kernel_rfl) ?_ _
      go_wp2_with fail
      exact ret_blk2 Tryd.results27 r2 r3 rfl rfl hb29 hb9 _ Tryd.undK rfl (by rw [hcl.1]; exact Tryd.infoK) (by rw [hcl.2]; exact Tryd.infoK) rfl ⟨rfl, hKB9⟩

/-- A number's four bytes, the least first. -/
def le4 (n : Int) : List Int := [n % 256, n / 256 % 256, n / 65536 % 256, n / 16777216]
theorem le4_bytes {n : Int} (hn : 0 ≤ n ∧ n ≤ 4294967295) : AreB (le4 n) := fun x hx => by
  simp only [le4, List.mem_cons, List.not_mem_nil, or_false] at hx
  rcases hx with rfl | rfl | rfl | rfl <;> omega
def drawKey (seed : List Int) (n : Int) : List Int := macL seed (le4 n)
set_option maxRecDepth 20000 in
set_option maxHeartbeats 3200000 in
theorem draw_walk {w : World} {z : List Int} (hz : Key32 z) (n : Int) (hn : 0 ≤ n ∧ n ≤ 4294967295) : Calls Tryd.prog 29 #[keyV z, .int .u32 n] w fun e w' => e = .returned (keyV (drawKey z n)) ∧ Keeps Nil w w' := by
  have hzv := Tryd.zeroK32
  have HZ := Lib.hid (show (byteV z32).length = 32 by rw [byteV_len, z32_len])
  generalize byteV z32 = Z at *
  have hcl : (byteV (drawKey z n)).length = 32 := by rw [byteV_len]; exact macL_len _ _
  obtain ⟨wA, hwA, hbx, hb4, hkA, hsA⟩ := alloc2 w (byteV z) 23 Z 23
  have HWA := Lib.hid hwA
  clear hwA
  go_enter Tryd.func29, Tryd.ntmps29
  go_wp2_with fail
  rw [← HWA.out]
  obtain ⟨wB, hwB, hp1, hp2, hkB, hsB⟩ := alloc2 wA (byteV (le4 n)) 5 [.slice (some ⟨w.heap.size + 1 + 1, 0, none⟩) 4 4] 27
  rw [hsA] at hp1 hp2
  have hM := ManyB.one' hp2 (PieceOk.some (c := 4) (hp1.row8 (n := 4) (le4_bytes hn) rfl (by omega)))
  have HC := Lib.hid (macSum_walk (cap := 32) (cl := 1) ((hbx.keep0 hkB).row8 hz.2 hz.1 (by omega)) (fun h => by cases h) hM (by omega) (by simp [le4]))
  rw [show [le4 n].flatten = le4 n by simp, show macL z (le4 n) = drawKey z n from rfl] at HC
  have hbB := hb4.keep0 hkB
  subst hwB
  refine HC.out.mono ?_
  rintro e w3 ⟨rfl, hk3⟩
  have hbB := hbB.keep0 hk3
  have hK3 := (hkA.trans hkB).trans hk3
  clear HC hM hp1 hp2 hsB hkB hk3 HWA
  go_wp2_with (refine wpl_store rfl 23 _ _ rfl (w.heap.size + 1) rfl (byteV (drawKey z n)) rfl hbB (by rw [hcl, HZ.out]) (by rw [hcl]; exact Tryd.infoK) (byteV_one _) ?_)
  intro w4 hb5 hk5 _
  go_wp2_with fail
  refine ret_blk Tryd.results29 (w.heap.size + 1) rfl hb5 _ Tryd.undK rfl (by rw [hcl]; exact Tryd.infoK) rfl ⟨rfl, hK3.step hk5 (fun i hi => .inr (by rw [show i = w.heap.size + 1 from hi]; omega))⟩

def txtRoot : List Int := [99, 111, 117, 114, 105, 101, 114, 32, 114, 111, 111, 116]
/-- The next root, and a chain. -/
def rootA (r s : List Int) : List Int := (deriveL r s txtRoot 64).take 32
def rootB (r s : List Int) : List Int := (deriveL r s txtRoot 64).drop 32
set_option maxRecDepth 20000 in
set_option maxHeartbeats 3200000 in
theorem root_walk {w : World} {z y : List Int} (hz : Key32 z) (hy : Key32 y) : Calls Tryd.prog 13 #[keyV z, keyV y] w (TwoPost w (rootA z y) (rootB z y)) := by
  have hzv := Tryd.zeroK32
  have HZ := Lib.hid (show (byteV z32).length = 32 by rw [byteV_len, z32_len])
  generalize byteV z32 = Z at *
  obtain ⟨wA, hwA, hbx, hby, hb4, hb5, hkA, hsA⟩ := alloc4 w (byteV z) 23 (byteV y) 23 Z 23 Z 23
  have HWA := Lib.hid hwA
  clear hwA
  go_enter Tryd.func13, Tryd.ntmps13
  go_wp2_with fail
  rw [← HWA.out]
  clear HWA
  refine wp_region_held_drew (S := fun _ => True) (by kernel_rfl) trivial (fun hHeld => ?_)
  have hKB : Keeps Nil w wA.drew := hkA.drew
  replace hbx := hbx.drew
  replace hby := hby.drew
  replace hb4 := hb4.drew
  replace hb5 := hb5.drew
  generalize wA.drew = v0 at *
  refine takeL (i := 0) (v := _) rfl (by kernel_rfl) (by kernel_rfl) (by kernel_rfl) (fun _ _ _ h => h) (Or.inl ⟨by rfl, by intro w hSw; (try dsimp only at hSw); go_simp; try with_reducible rfl⟩) (by assumption) ?_
  try simp only [Act.put, List.setIfInBounds_toArray, List.set_cons_zero, List.set_cons_succ]
  refine takeL (i := 1) (v := _) rfl (by kernel_rfl) (by kernel_rfl) (by kernel_rfl) (fun _ _ _ h => h) (Or.inl ⟨by rfl, by intro w hSw; (try dsimp only at hSw); go_simp; try with_reducible rfl⟩) (by assumption) ?_
  try simp only [Act.put, List.setIfInBounds_toArray, List.set_cons_zero, List.set_cons_succ]
  refine onlyL (i := 2) rfl (by kernel_rfl) (fun K hK => ?_)
  refine step_bsK rfl _ 5 12 _ rfl (byteV txtRoot) Tryd.underlying27 Tryd.bs8 rfl (by decide) (by decide) (by simp [Act.eval, byteV, txtRoot]) (by simp [Value.cells, byteV, txtRoot]) ?_
  intro g2 w2 hg2 hb2 qk
  refine (fun hHeld => hK _ _ hHeld ?_) (trivial)
  clear hK
  try simp only [Act.put, List.setIfInBounds_toArray, List.set_cons_zero, List.set_cons_succ]
  refine onlyL (i := 3) rfl (by kernel_rfl) (fun K hK => ?_)
  refine step_convBB rfl 27 5 _ rfl Tryd.underlying27 Tryd.underlying5 rfl hb2 ?_
  intro w3 hc3 hk3 hg3
  have qk3 : Keeps Nil v0 w3 := qk.step hk3 (fun i hi => .inr (by rw [show i = g2 from hi, hg2]; exact Nat.le_refl _))
  have ht3 : Row .u8 w3 (some ⟨g2, 0, none⟩) 12 txtRoot := ⟨rfl, by omega, fun _ => ⟨g2, 0, rfl, hg3, fun i hi => by rw [Nat.zero_add]; exact hc3 i _ (byteV_at _ _ hi rfl)⟩, by decide⟩
  refine (fun hHeld => hK _ _ hHeld ?_) (trivial)
  clear hK
  try simp only [Act.put, List.setIfInBounds_toArray, List.set_cons_zero, List.set_cons_succ]
  replace hKB := hKB.trans qk3
  replace hbx := hbx.keep0 qk3
  replace hby := hby.keep0 qk3
  replace hb4 := hb4.keep0 qk3
  replace hb5 := hb5.keep0 qk3
  clear hb2 qk qk3 hk3 hc3 hg3 hg2
  have hlt3 := hb5.lt
  refine onlyL (i := 4) rfl (by kernel_rfl) (fun K hK => ?_)
  go_simp
  refine (derive_walk (n := 64) (PieceOk.some (c := 32) (hbx.row8 hz.2 hz.1 (by omega))) (PieceOk.some (c := 32) (hby.row8 hy.2 hy.1 (by omega))) (PieceOk.some (c := 12) ht3) (by omega) (by omega) (by omega) (by omega)).mono ?_
  rintro e w4 ⟨ad, cd, rfl, hod, qk, hfd⟩
  rw [deriveL_len] at hod ⊢
  refine (fun hHeld => hK _ _ hHeld ?_) (trivial)
  clear hK
  try simp only [Act.put, List.setIfInBounds_toArray, List.set_cons_zero, List.set_cons_succ]
  replace hKB := hKB.trans qk
  replace hb4 := hb4.keep0 qk
  replace hb5 := hb5.keep0 qk
  clear qk hbx hby ht3
  refine takeL (i := 5) (v := _) rfl (by kernel_rfl) (by kernel_rfl) (by kernel_rfl) (fun _ _ _ h => h) (Or.inl ⟨by rfl, by intro w hSw; (try dsimp only at hSw); go_simp; try with_reducible rfl⟩) (by assumption) ?_
  try simp only [Act.put, List.setIfInBounds_toArray, List.set_cons_zero, List.set_cons_succ]
  refine takeL (i := 6) (v := _) rfl (by kernel_rfl) (by kernel_rfl) (by kernel_rfl) (fun _ _ _ h => h) (Or.inl ⟨by rfl, by intro w hSw; (try dsimp only at hSw); go_simp; try with_reducible rfl⟩) (by assumption) ?_
  try simp only [Act.put, List.setIfInBounds_toArray, List.set_cons_zero, List.set_cons_succ]
  refine takeL (i := 7) (v := _) rfl (by kernel_rfl) (by kernel_rfl) (by kernel_rfl) (fun _ _ _ h => h) (Or.inl ⟨by rfl, by intro w hSw; (try dsimp only at hSw); go_simp; try with_reducible rfl⟩) (by assumption) ?_
  try simp only [Act.put, List.setIfInBounds_toArray, List.set_cons_zero, List.set_cons_succ]
  refine takeL (i := 8) (v := _) rfl (by kernel_rfl) (by kernel_rfl) (by kernel_rfl) (fun _ _ _ h => h) (Or.inl ⟨by rfl, by intro w hSw; (try dsimp only at hSw); go_simp; try with_reducible rfl⟩) (by assumption) ?_
  try simp only [Act.put, List.setIfInBounds_toArray, List.set_cons_zero, List.set_cons_succ]
  refine takeL (i := 9) (v := _) rfl (by kernel_rfl) (by kernel_rfl) (by kernel_rfl) (fun _ _ _ h => h) (Or.inl ⟨by rfl, by intro w hSw; (try dsimp only at hSw); go_simp; try with_reducible rfl⟩) (by assumption) ?_
  try simp only [Act.put, List.setIfInBounds_toArray, List.set_cons_zero, List.set_cons_succ]
  refine wpAnyH_done (by kernel_rfl) ?_ _
  obtain ⟨gd, sp, rfl, hbd, hcl⟩ := hod.openB (by omega)
  have hgd := hfd gd ((blkOf_some _ _ _ _).2 rfl)
  have hcd : 64 ≤ cd := hod.2.1
  have hdl := deriveL_len z y txtRoot 64
  have hRB := Lib.hid (show rootA z y = (deriveL z y txtRoot 64).take 32 ∧ rootB z y = (deriveL z y txtRoot 64).drop 32 from ⟨rfl, rfl⟩)
  have hr1 : w4.rangeAt gd 0 (byteV (rootA z y)) := hbd.rangeAt 0 (fun j v hv => by
    have hj : j < 32 := by have := (List.getElem?_eq_some_iff.1 hv).1; rw [byteV_len, hRB.out.1, List.length_take, hdl] at this; omega
    rw [Nat.zero_add, List.getElem?_append_left (by rw [byteV_len, hdl]; omega), ← hv, hRB.out.1]
    simp [byteV, List.getElem?_map, List.getElem?_take, hj])
  have hr2 : w4.rangeAt gd 32 (byteV (rootB z y)) := hbd.rangeAt 32 (fun j v hv => by
    have hj : j < 32 := by have := (List.getElem?_eq_some_iff.1 hv).1; rw [byteV_len, hRB.out.2, List.length_drop, hdl] at this; omega
    rw [List.getElem?_append_left (by rw [byteV_len, hdl]; omega), ← hv, hRB.out.2]
    simp [byteV, List.getElem?_map, List.getElem?_drop])
  have hA : (byteV (rootA z y)).length = 32 := by rw [byteV_len, hRB.out.1, List.length_take, hdl]; rfl
  have hB : (byteV (rootB z y)).length = 32 := by rw [byteV_len, hRB.out.2, List.length_drop, hdl]
  have hoA := byteV_one (rootA z y)
  have hoB := byteV_one (rootB z y)
  clear hod hfd hbd hcl hdl hRB
  generalize hAA : byteV (rootA z y) = A at *
  generalize hBB : byteV (rootB z y) = B at *
  have HAB := Lib.hid (And.intro hAA hBB)
  clear hAA hBB
  have hUK := Tryd.undK
  have hIA : (Tryd.prog.info? 23).map (·.size) = some A.length := by rw [hA]; exact Tryd.infoK
  have hIB : (Tryd.prog.info? 23).map (·.size) = some B.length := by rw [hB]; exact Tryd.infoK
  have hat0 : ∀ w, (Instr.arrayAt 23 (.slice (some ⟨gd, 0, none⟩) 32 cd)).run Tryd.prog w = .ok (.pointer (some ⟨gd, 0, none⟩)) w := fun w => by simp [Instr.arrayAt, run_underlying Tryd.undK]
  have hat1 : ∀ w, (Instr.arrayAt 23 (.slice (some ⟨gd, 32, none⟩) 32 (cd - 32))).run Tryd.prog w = .ok (.pointer (some ⟨gd, 32, none⟩)) w := fun w => by simp [Instr.arrayAt, run_underlying Tryd.undK]
  have hi1 : (32 : Int) ≤ cd := by omega
  have hi2 : (64 : Int) ≤ cd := by omega
  have hi3 : ¬ cd = 32 := by omega
  have hi4 : ¬ 32 = cd := by omega
  have hi5 : ¬ cd - 32 = 0 := by omega
  have hi6 : 32 ≤ cd := by omega
  have hsz0 := hKB.size
  have hgw : w.heap.size + 1 + 1 + 1 < gd := by omega
  clear hcd hUK
  have hUK := Tryd.undK
  go_wp2_with fail
  refine wp_region_held_drew (S := fun w' => w'.rangeAt gd 0 A ∧ w'.rangeAt gd 32 B) (by kernel_rfl) ⟨hr1, hr2⟩ (fun hHeld => ?_)
  replace hKB := hKB.drew
  replace hb4 := hb4.drew
  replace hb5 := hb5.drew
  have hr1 : w4.drew.rangeAt gd 0 A := hr1
  have hr2 : w4.drew.rangeAt gd 32 B := hr2
  generalize w4.drew = v4 at *
  refine takeL (i := 0) (v := _) rfl (by kernel_rfl) (by kernel_rfl) (by kernel_rfl) (fun _ _ _ h => h) (Or.inl ⟨by rfl, by intro w hSw; (try dsimp only at hSw); go_simp; try with_reducible rfl⟩) (by assumption) ?_
  try simp only [Act.put, List.setIfInBounds_toArray, List.set_cons_zero, List.set_cons_succ]
  refine takeL (i := 1) (v := _) rfl (by kernel_rfl) (by kernel_rfl) (by kernel_rfl) (fun _ _ _ h => h) (Or.inl ⟨by rfl, by intro w hSw; (try dsimp only at hSw); go_simp; try with_reducible rfl⟩) (by assumption) ?_
  try simp only [Act.put, List.setIfInBounds_toArray, List.set_cons_zero, List.set_cons_succ]
  refine takeL (i := 2) (v := _) rfl (by kernel_rfl) (by kernel_rfl) (by kernel_rfl) (fun _ _ _ h => h) (Or.inl ⟨by rfl, by intro w hSw; (try dsimp only at hSw); go_simp; try with_reducible rfl⟩) (by assumption) ?_
  try simp only [Act.put, List.setIfInBounds_toArray, List.set_cons_zero, List.set_cons_succ]
  refine takeL (i := 3) (v := _) rfl (by kernel_rfl) (by kernel_rfl) (by kernel_rfl) (fun _ _ _ h => h) (yieldsIf_load_mid (by rfl) 23 _ rfl gd 0 rfl (A) _ (fun w hSw => hSw.1) hUK rfl hIA) (by assumption) ?_
  try simp only [Act.put, List.setIfInBounds_toArray, List.set_cons_zero, List.set_cons_succ]
  refine takeL (i := 4) (v := _) rfl (by kernel_rfl) (by kernel_rfl) (by kernel_rfl) (fun _ _ _ h => h) (Or.inl ⟨by rfl, by intro w hSw; (try dsimp only at hSw); go_simp; try with_reducible rfl⟩) (by assumption) ?_
  try simp only [Act.put, List.setIfInBounds_toArray, List.set_cons_zero, List.set_cons_succ]
  refine takeL (i := 5) (v := _) rfl (by kernel_rfl) (by kernel_rfl) (by kernel_rfl) (fun _ _ _ h => h) (Or.inl ⟨by rfl, by intro w hSw; (try dsimp only at hSw); go_simp; try with_reducible rfl⟩) (by assumption) ?_
  try simp only [Act.put, List.setIfInBounds_toArray, List.set_cons_zero, List.set_cons_succ]
  refine takeL (i := 6) (v := _) rfl (by kernel_rfl) (by kernel_rfl) (by kernel_rfl) (fun _ _ _ h => h) (Or.inl ⟨by rfl, by intro w hSw; (try dsimp only at hSw); go_simp; try with_reducible rfl⟩) (by assumption) ?_
  try simp only [Act.put, List.setIfInBounds_toArray, List.set_cons_zero, List.set_cons_succ]
  refine takeL (i := 7) (v := _) rfl (by kernel_rfl) (by kernel_rfl) (by kernel_rfl) (fun _ _ _ h => h) (yieldsIf_load_mid (by rfl) 23 _ rfl gd 32 rfl (B) _ (fun w hSw => hSw.2) hUK rfl hIB) (by assumption) ?_
  try simp only [Act.put, List.setIfInBounds_toArray, List.set_cons_zero, List.set_cons_succ]
  refine onlyL (i := 8) rfl (by kernel_rfl) (fun K hK => ?_)
  refine step_store rfl 23 _ _ rfl (w.heap.size + 1 + 1) rfl A rfl hb4 (by rw [hA, HZ.out]) hIA hoA ?_
  intro w8 hb8 hk8 hs8
  have hb58 := hb5.keep hk8 (fun e => by have e' : w.heap.size + 1 + 1 + 1 = w.heap.size + 1 + 1 := e; omega)
  have hKB8 := hKB.step hk8 (fun i hi => .inr (by rw [show i = w.heap.size + 1 + 1 from hi]; omega))
  have hkr : ∀ o (L : List Value), v4.rangeAt gd o L → w8.rangeAt gd o L := fun o L h j v hv => hk8.cell (h j v hv) (fun e => by have e' : gd = w.heap.size + 1 + 1 := e; omega)
  refine (fun hHeld => hK _ _ hHeld ?_) (⟨hkr _ _ hr1, hkr _ _ hr2⟩)
  clear hK
  try simp only [Act.put, List.setIfInBounds_toArray, List.set_cons_zero, List.set_cons_succ]
  refine onlyL (i := 9) rfl (by kernel_rfl) (fun K hK => ?_)
  refine step_store rfl 23 _ _ rfl (w.heap.size + 1 + 1 + 1) rfl B rfl hb58 (by rw [hB, HZ.out]) hIB hoB ?_
  intro w9 hb9 hk9 hs9
  have hb49 := hb8.keep hk9 (fun e => by have e' : w.heap.size + 1 + 1 = w.heap.size + 1 + 1 + 1 := e; omega)
  have hKB9 := hKB8.step hk9 (fun i hi => .inr (by rw [show i = w.heap.size + 1 + 1 + 1 from hi]; omega))
  have hkr9 : ∀ o (L : List Value), w8.rangeAt gd o L → w9.rangeAt gd o L := fun o L h j v hv => hk9.cell (h j v hv) (fun e => by have e' : gd = w.heap.size + 1 + 1 + 1 := e; omega)
  refine (fun hHeld => hK _ _ hHeld ?_) (⟨hkr9 _ _ (hkr _ _ hr1), hkr9 _ _ (hkr _ _ hr2)⟩)
  clear hK
  try simp only [Act.put, List.setIfInBounds_toArray, List.set_cons_zero, List.set_cons_succ]
  refine wpAnyH_done (by kernel_rfl) ?_ _
  go_wp2_with fail
  exact ret_blk2 Tryd.results13 (w.heap.size + 1 + 1) (w.heap.size + 1 + 1 + 1) rfl rfl hb49 hb9 _ Tryd.undK rfl hIA hIB rfl ⟨by unfold keyV; rw [HAB.out.1, HAB.out.2], hKB9⟩
end Go.Proofs.YtnkahfpinkgimaaDoor
