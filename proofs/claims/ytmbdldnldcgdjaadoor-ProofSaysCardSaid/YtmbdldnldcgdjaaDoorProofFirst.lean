/-
  Chapter 18's first examples.
-/
import Derived.Test.YtmbdldnldcgdjaaDoorProofEnd
namespace Go.Proofs.YtmbdldnldcgdjaaDoor
set_option linter.unusedSimpArgs false
set_option linter.unusedVariables false
open Go.RowKit

/-- A slice literal of two elements of many cells. -/
theorem wpl_bsTwo {P : Program} {ops : Array Oper} {rest : List Oper} {o : Oper} {a : Act} {w : World} {Q : Exit → Act → World → Prop} (hg : o.guard = none) (t e : TypeId) (parts : Array (Nat × Operand)) (ho : o.op = .buildSlice t 2 parts)
    (c1 c2 : List Value) (v1 v2 : Value) (hv1 : v1.cells = c1.toArray) (hv2 : v2.cells = c2.toArray) (size : Nat) (hu : P.underlying t = some (.slice e)) (hi : (P.info? e).map (fun i => (i.zero.map (·.cells.size), i.size)) = some (some size, size)) (hpos : 0 < size) (hsm : 2 * size ≤ 2 ^ 24) (hl1 : c1.length = size) (hl2 : c2.length = size)
    (hparts : (parts.map fun (i, x) => (i, a.eval x)).toList = [(0, v1), (1, v2)])
    (h : wpList P ops Q rest (a.put o.dst (.slice (some ⟨w.heap.size, 0, none⟩) 2 2)) (w.alloc (.cells (c1 ++ c2).toArray e))) : wpList P ops Q (o :: rest) a w := by
  obtain ⟨ie, hie, hs⟩ := Option.map_eq_some_iff.1 hi
  simp only [Prod.mk.injEq] at hs
  obtain ⟨hz, hs1⟩ := hs
  obtain ⟨z, hz1, hz2⟩ := Option.map_eq_some_iff.1 hz
  refine wpList_buildSlice hg t e 2 parts ho (c1 ++ c2).toArray ie z hu hie hz1 (by rw [hs1]; omega) (by rw [hs1]; omega) ?_ h
  rw [hparts, hs1]
  have := Great.fill_whole (s := size) hpos [v1, v2] ((Array.range (2 * size)).map (z.cells[· % z.cells.size]!)) (by
    intro x hx
    rcases List.mem_cons.1 hx with rfl | hx
    · rw [hv1]; simpa using hl1
    · rw [List.mem_singleton.1 hx, hv2]; simpa using hl2) (by simp)
  simp only [List.zipIdx_cons, List.zipIdx_nil, List.map_cons, List.map_nil, List.flatMap_cons, List.flatMap_nil, List.append_nil, hv1, hv2] at this
  simpa using this
def hlit (k : Int) : List Int := k :: List.replicate 31 0
theorem hash32_lit {k : Int} (h : 0 ≤ k ∧ k < 256) : Hash32 (hlit k) := ⟨by simp [hlit], fun x hx => by
  rcases List.mem_cons.1 hx with rfl | hx
  · exact h
  · rw [(List.mem_replicate.1 hx).2]; omega⟩
theorem Tryd.builtH1 : Tryd.prog.built 26 [(0, .int .u8 1)] = some (byteV (hlit 1)).toArray := by kernel_rfl
theorem Tryd.builtH2 : Tryd.prog.built 26 [(0, .int .u8 2)] = some (byteV (hlit 2)).toArray := by kernel_rfl
theorem path_two (x y : List Int) : pathL 0 [x, y] = [y] := by
  have hs : splitN 2 = 1 := by decide +kernel
  rw [pathL_left (l := [x, y]) (by simp) (by simp [hs])]
  simp only [List.length_cons, List.length_nil, hs]
  rw [pathL_none (by simp)]
  simp [rootL_one]
set_option maxRecDepth 20000 in
set_option maxHeartbeats 1600000 in
theorem prooffirst_walk {w : World} {p : Nat → Addr} (hE : Errs w p) : Calls Tryd.prog 7 #[] w fun e w' => e = .returned (.bool true) ∧ Keeps Nil w w' := by
  have hb1 := Tryd.builtH1
  have hb2 := Tryd.builtH2
  have h1 := hash32_lit (k := 1) (by omega)
  have h2 := hash32_lit (k := 2) (by omega)
  have hl1 : (byteV (hlit 1)).length = 32 := by rw [byteV_len]; exact h1.1
  have hl2 : (byteV (hlit 2)).length = 32 := by rw [byteV_len]; exact h2.1
  have hi2 : (Tryd.prog.info? 26).map (·.size) = some (byteV (hlit 2)).length := by rw [hl2]; exact Tryd.infoH
  have hqE := fun w => Tryd.eqlDig h2.1 h2.1 h2.2 h2.2 w
  rw [beq_self_eq_true] at hqE
  have hgE := Tryd.guardH2 .eql
  have hUH := Tryd.undH
  have hA1 : AreH [hlit 1, hlit 2] := fun x hx => by
    rcases List.mem_cons.1 hx with rfl | hx
    · exact h1
    · rw [List.mem_singleton.1 hx]; exact h2
  have hBk := (Blk.new w (byteV (hlit 1) ++ byteV (hlit 2)) 26)
  have hHs : Hs (w.alloc (.cells (byteV (hlit 1) ++ byteV (hlit 2)).toArray 26)) (some ⟨w.heap.size, 0, none⟩) [hlit 1, hlit 2] := Hs.blk (sp := []) (T := 26) (by
    rw [List.append_nil]
    simp only [List.flatten_cons, List.flatten_nil, List.append_nil]
    rw [show byteV (hlit 1 ++ hlit 2) = byteV (hlit 1) ++ byteV (hlit 2) from List.map_append]
    exact hBk) hA1 (by simp)
  have HP := Lib.hid (pathOk_walk (n := 2) (i := 0) (cap := 2) rfl hHs (by omega) (by omega) (by omega) (by omega))
  rw [path_two] at HP
  have hka := (Keeps.refl Nil w).alloc (.cells (byteV (hlit 1) ++ byteV (hlit 2)).toArray 26)
  have HKA := Lib.hid hka
  have HAR := Lib.hid (show AreH [hlit 2] from fun x hx => by rw [List.mem_singleton.1 hx]; exact h2)
  have HE := Lib.hid hE
  clear hBk hHs hka hA1 h1 h2 hE
  generalize hlit 2 = H2 at *
  generalize byteV (hlit 1) = B1 at *
  go_enter Tryd.func7, Tryd.ntmps7
  go_wp2_with (first | (refine wpl_buildC rfl 26 0 (.int .u8 1) rfl B1 hb1 ?_) | (refine wpl_buildC rfl 26 0 (.int .u8 2) rfl (byteV H2) hb2 ?_) | (refine wpl_bsTwo rfl 24 26 _ rfl B1 (byteV H2) (.agg B1.toArray) (.agg (byteV H2).toArray) rfl rfl 32 Tryd.underlying24 Tryd.infoHhP2 (by omega) (by omega) hl1 hl2 (by simp [Act.eval, Act.put]) ?_))
  refine HP.out.mono ?_
  rintro e w1 ⟨a1, c1, rfl, ho, hk, hf⟩
  have hHs1 := ho.hs HAR.out (by simp)
  obtain ⟨b, off, ha, hb, hr⟩ := hHs1.rng (by simp)
  subst ha
  have hr0 := hr 0 (by simp)
  simp only [List.getD_cons_zero] at hr0
  have hc1 := ho.2.1
  have hK1 := HKA.out.trans hk
  simp only [List.length_cons, List.length_nil, Nat.zero_add] at hc1 ⊢
  have hka := (Keeps.refl Nil w1).alloc (.cells B1.toArray 26)
  have HQ := Lib.hid (pathBad_walk (n := 1) (i := 1) (cap := 1) (a := some ⟨w1.heap.size, 0, none⟩) (HE.out.keep (hK1.trans hka)) (by omega))
  have HR := Lib.hid (rangeAt_keep hr0 hka (fun h => h))
  have HK := Lib.hid (hK1.trans hka)
  clear hHs1 hr hr0 hk hf ho HP hka hK1 HKA HAR
  go_wp2_with (first | (refine wpl_buildC rfl 26 0 (.int .u8 1) rfl B1 hb1 ?_) | (refine wpl_bsOne rfl 24 26 _ rfl B1 (.agg B1.toArray) rfl 32 Tryd.underlying24 Tryd.infoHhP2 (by omega) (by omega) hl1 (by simp [Act.eval, Act.put]) ?_))
  refine HQ.out.mono ?_
  rintro e w2 ⟨rfl, hk2⟩
  have hr2 := rangeAt_keep HR.out hk2 (fun h => h)
  have HK2 := Lib.hid (HK.out.trans hk2)
  have HI := Lib.hid (fun w' (hk : Keeps Nil w w') => is_walk (HE.out.keep hk) (v := errV p 1) (c := 102) (pl := false) (q := 0) (.inr (.inl ⟨1, by omega, rfl, by omega, rfl, rfl⟩)) 102)
  clear hk2 HR HK HQ
  generalize errV p 1 = V at *
  have hc0 : 0 < c1 := by omega
  go_wp2_with (first | (refine wpl_load_at rfl 26 _ rfl b (off + 0 * 32) rfl (byteV H2) hr2 _ hUH rfl hi2 ?_) | (refine wpl_buildC rfl 26 0 (.int .u8 2) rfl (byteV H2) hb2 ?_) | (refine wpl_bin rfl _ _ _ _ _ rfl _ _ rfl rfl _ hqE (hgE _ _ _ _) ?_))
  refine (HI.out w2 HK2.out).mono ?_
  rintro e w3 ⟨rfl, hk3⟩
  go_wp2_with fail
  go_ret
  exact ⟨by first | rfl | simp [isV, sameF], HK2.out.trans hk3⟩
end Go.Proofs.YtmbdldnldcgdjaaDoor
