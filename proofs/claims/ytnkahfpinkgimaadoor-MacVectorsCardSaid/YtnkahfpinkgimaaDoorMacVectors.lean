/-
  The law MacVectors.
-/
import Derived.Test.YtnkahfpinkgimaaDoorMacPrefixes
import Derived.Test.YtnkahfpinkgimaaDoorMacNums
import Derived.Test.YtnkahfpinkgimaaDoorRefMac
namespace Go.Proofs.YtnkahfpinkgimaaDoor
set_option linter.unusedSimpArgs false
set_option linter.unusedVariables false
open Go.RowKit

/-- A slice literal, the world behind it a letter. -/
theorem wpl_bsK {P : Program} {ops : Array Oper} {rest : List Oper} {o : Oper} {a : Act} {w : World} {Q : Exit → Act → World → Prop} (hg : o.guard = none) (t e : TypeId) (len : Nat) (parts : Array (Nat × Operand)) (ho : o.op = .buildSlice t len parts)
    (vs : List Value) (hu : P.underlying t = some (.slice e)) (hsz : (P.info? e).map (fun i => (i.size, i.zero.isSome)) = some (1, true)) (hlen : len = vs.length) (hpos : 0 < len) (hsmall : len ≤ 2 ^ 24)
    (hparts : (parts.map fun (i, x) => (i, a.eval x)).toList = (vs.zipIdx 0).map fun x => (x.2, x.1)) (hv : ∀ v ∈ vs, v.cells = #[v])
    (h : ∀ g w', g = w.heap.size → Blk w' g vs e → Keeps Nil w w' → wpList P ops Q rest (a.put o.dst (.slice (some ⟨g, 0, none⟩) len len)) w') : wpList P ops Q (o :: rest) a w :=
  wpList_bs hg t e len parts ho vs hu hsz hlen hpos hsmall hparts hv (h _ _ rfl (Blk.new _ _ _) ((Keeps.refl _ _).alloc _))
theorem wpl_convBB {P : Program} {ops : Array Oper} {rest : List Oper} {o : Oper} {a : Act} {w : World} {Q : Exit → Act → World → Prop} (hw : Region.wanted o (yielded ops a.tmps) = true) (t e : TypeId) (x : Operand) (ho : o.op = .convert t t x)
    (ht : P.underlying t = some (.slice e)) (he : P.underlying e = some (.int .u8)) {g n c : Nat} (hx : a.eval x = .slice (some ⟨g, 0, none⟩) n c) {cs : List Value} {T : TypeId} (hb : Blk w g cs T)
    (h : ∀ w', (∀ i v, cs[i]? = some v → w'.cell? ⟨g, i, none⟩ = some v) → Keeps (One g) w w' → g < w'.heap.size → wpList P ops Q rest (a.put o.dst (.slice (some ⟨g, 0, none⟩) n c)) w') : wpList P ops Q (o :: rest) a w := by
  obtain ⟨w', hr, h1, h2, h3⟩ := run_convBB t e ht he n c hb
  exact wpList_go hw fun _ hK => by
    unfold Oper.wp execOp
    simp only [ho, hx, Sem.run_bind, hr, Result.andThen_ok]
    exact hK _ _ (h w' h1 h2 h3)

set_option maxRecDepth 20000 in
set_option maxHeartbeats 3200000 in
theorem macVectors_walk (a0 : Int) (w : World) (w0 : (Lit.int .i64 a0).wf = true) :
    Calls Tryd.prog 5 #[.int .i64 a0] w (TrueS w) := by
  have hn := i64_wf w0
  have hzv := Tryd.zeroH32
  have HZ := Lib.hid (show (byteV z32).length = 32 by rw [byteV_len, z32_len])
  generalize byteV z32 = Z at *
  go_enter Tryd.func5, Tryd.ntmps5
  go_wp2_with fail
  refine (macfirst_walk w).mono ?_
  rintro e w1 ⟨rfl, hk1⟩
  go_wp2_with fail
  refine (number_walk a0 2 _ hn.1 hn.2 (by omega) (by omega)).mono ?_
  rintro e w2 ⟨rfl, rfl⟩
  have h2 : a0 % 2 = 0 ∨ a0 % 2 = 1 := by omega
  rcases h2 with h2 | h2
  · rw [h2]
    clear h2 hn w0
    -- a literal vecK of 4 bytes: its slice leads to g3 in the world w3
    go_wp2_with (refine wpl_bsK rfl 27 5 4 _ rfl (byteV vecK) Tryd.underlying27 Tryd.bs8 rfl (by decide) (by decide) (by simp [Act.eval, byteV, vecK]) (by simp [Value.cells, byteV, vecK]) ?_)
    intro g3 wl hgl hbl qk
    have hge := Nat.le_of_eq hgl.symm
    clear hgl
    go_wp2_with (refine wpl_convBB rfl 27 5 _ rfl Tryd.underlying27 Tryd.underlying5 rfl hbl ?_)
    intro w3 hcl hkl hgl2
    have q3 : Keeps Nil w1 w3 := qk.step hkl (fun i hi => .inr (by rw [show i = g3 from hi]; exact hge))
    have r3 : Row .u8 w3 (some ⟨g3, 0, none⟩) 4 vecK := ⟨rfl, by omega, fun _ => ⟨g3, 0, rfl, hgl2, fun i hi => by rw [Nat.zero_add]; exact hcl i _ (byteV_at _ _ hi rfl)⟩, by unfold vecK; decide⟩
    clear hge hbl qk hcl hkl hgl2
    -- a literal vecA of 16 bytes: its slice leads to g4 in the world w4
    go_wp2_with (refine wpl_bsK rfl 27 5 16 _ rfl (byteV vecA) Tryd.underlying27 Tryd.bs8 rfl (by decide) (by decide) (by simp [Act.eval, byteV, vecA]) (by simp [Value.cells, byteV, vecA]) ?_)
    intro g4 wl hgl hbl qk
    have hge := Nat.le_of_eq hgl.symm
    clear hgl
    go_wp2_with (refine wpl_convBB rfl 27 5 _ rfl Tryd.underlying27 Tryd.underlying5 rfl hbl ?_)
    intro w4 hcl hkl hgl2
    have q4 : Keeps Nil w3 w4 := qk.step hkl (fun i hi => .inr (by rw [show i = g4 from hi]; exact hge))
    have r4 : Row .u8 w4 (some ⟨g4, 0, none⟩) 16 vecA := ⟨rfl, by omega, fun _ => ⟨g4, 0, rfl, hgl2, fun i hi => by rw [Nat.zero_add]; exact hcl i _ (byteV_at _ _ hi rfl)⟩, by unfold vecA; decide⟩
    clear hge hbl qk hcl hkl hgl2
    -- a literal vecB of 12 bytes: its slice leads to g5 in the world w5
    go_wp2_with (refine wpl_bsK rfl 27 5 12 _ rfl (byteV vecB) Tryd.underlying27 Tryd.bs8 rfl (by decide) (by decide) (by simp [Act.eval, byteV, vecB]) (by simp [Value.cells, byteV, vecB]) ?_)
    intro g5 wl hgl hbl qk
    have hge := Nat.le_of_eq hgl.symm
    clear hgl
    go_wp2_with (refine wpl_convBB rfl 27 5 _ rfl Tryd.underlying27 Tryd.underlying5 rfl hbl ?_)
    intro w5 hcl hkl hgl2
    have q5 : Keeps Nil w4 w5 := qk.step hkl (fun i hi => .inr (by rw [show i = g5 from hi]; exact hge))
    have r5 : Row .u8 w5 (some ⟨g5, 0, none⟩) 12 vecB := ⟨rfl, by omega, fun _ => ⟨g5, 0, rfl, hgl2, fun i hi => by rw [Nat.zero_add]; exact hcl i _ (byteV_at _ _ hi rfl)⟩, by unfold vecB; decide⟩
    clear hge hbl qk hcl hkl hgl2
    have hq := (Keeps.refl Nil w5).alloc (.cells [Value.slice (some ⟨g4, 0, none⟩) 16 16, Value.slice (some ⟨g5, 0, none⟩) 12 12].toArray 27)
    have hM := ManyB.two (c1 := 16) (c2 := 12) (Blk.new w5 [Value.slice (some ⟨g4, 0, none⟩) 16 16, Value.slice (some ⟨g5, 0, none⟩) 12 12] 27) (PieceOk.some ((r4.keep q5).keep hq)) (PieceOk.some (r5.keep hq))
    have HM := Lib.hid (macSum_walk (n := 4) (cap := 4) (cl := 2) (((r3.keep q4).keep q5).keep hq) (fun h => by cases h) hM (by omega) (by decide))
    rw [show [vecA, vecB].flatten = vecA ++ vecB from by simp] at HM
    have hK5 := (((hk1.trans q3).trans q4).trans q5).trans hq
    have hv := vec_mac
    have hl := macL_len vecK (vecA ++ vecB)
    clear hM q3 q4 q5 r3 r4 r5 hq hk1
    unfold keyV at HM
    generalize macL vecK (vecA ++ vecB) = D at *
    go_wp2_with fail
    refine HM.out.mono ?_
    rintro e w6 ⟨rfl, hk6⟩
    have hK6 := hK5.trans hk6
    have hb := Blk.new w6 Z 36
    have hka := (Keeps.refl Nil w6).alloc (.cells Z.toArray 36)
    have hdv : (byteV D).length = 32 := by rw [byteV_len, hl]
    clear HM hK5 hk6
    go_wp2_with (refine wpl_store rfl 36 _ _ rfl w6.heap.size rfl (byteV D) rfl hb (by rw [hdv, HZ.out]) (by rw [hdv]; exact Tryd.infoH) (byteV_one _) ?_)
    intro w7 hb7 hk7 hs7
    clear hs7
    have hK7 := (hK6.trans hka).step hk7 (fun i hi => .inr (by rw [show i = w6.heap.size from hi]; exact hK6.size))
    have d0 := hb7.cell 0 (byteV_at D 0 (by omega) hv.1)
    have d1 := hb7.cell 1 (byteV_at D 1 (by omega) hv.2.1)
    have d2 := hb7.cell 2 (byteV_at D 2 (by omega) hv.2.2.1)
    have d3 := hb7.cell 3 (byteV_at D 3 (by omega) hv.2.2.2.1)
    have d30 := hb7.cell 30 (byteV_at D 30 (by omega) hv.2.2.2.2.1)
    have d31 := hb7.cell 31 (byteV_at D 31 (by omega) hv.2.2.2.2.2)
    clear hv hb hka hk7 hK6
    go_wp2_with fail
    go_ret
    exact ⟨by first | rfl | simp, hK7⟩
  · rw [h2]
    clear h2 hn w0
    -- a slice is filled with upK 22; from the world w1
    have HG0 := Lib.hid (show OwnB w1 none 0 0 (upK 0) w1 from ⟨by simpa [upK, byteV] using Own.nil _ _ _, Keeps.refl _ _, fun k hk => (blkOf_none k hk).elim⟩)
    go_wp2_with fail
    go_loopw [5, 8] (fun x v wr => ∃ (i : Nat) (a : Option Addr) (c : Nat), i ≤ 22 ∧ x = .slice a i c ∧ v = .int .i64 i ∧ Hid (OwnB w1 a c i (upK i) wr)) (fun _ v _ => 22 - (intOf v).toNat)
    case atStart => exact ⟨0, none, 0, by omega, rfl, rfl, HG0.out⟩
    case round =>
      obtain ⟨i, a, c, hi, rfl, rfl, hO⟩ := hrel
      clear HG0
      have hO2 := hO.out
      by_cases hin : i < 22
      · have hup := upK_succ i
        have HUP := Lib.hid hup
        clear hup
        skip
        have hiI : (i : Int) < 22 := by omega
        generalize upK i = L at *
        go_wp2_with (first | (refine wpList_bs rfl 27 5 1 _ rfl [.int .u8 (11)] Tryd.underlying27 Tryd.bs8 rfl (by decide) (by decide) (by simp [Act.eval]) (by simp [Value.cells]) ?_) | (at_builtin; go_must (refine wpl_append rfl _ _ 27 rfl 5 1 1 Tryd.underlying27 Tryd.info8s (by omega) _ _ (i) _ rfl (hO2.own.keep0 ((Keeps.refl _ _).alloc _)) _ 1 1 [.int .u8 (11)] rfl (Src.one (Blk.new _ _ _) rfl) (by unfold maxLen; omega) (by omega) ?_)))
        intro a3 c3 w3 o3 k3 f3 _
        have hn := hO2.push ((Keeps.refl _ _).alloc _) o3 k3 (fun k hk => (f3 k hk).imp id (fun h => by omega))
        rw [HUP.out] at hn
        have HN := Lib.hid hn
        clear hn o3 k3 f3 hO2
        go_wp2_with fail
        first
          | exact ⟨⟨i + 1, a3, c3, by omega, rfl, by go_num, HN.out⟩, by simp [intOf]; omega⟩
          | (go_roundw; (case rel => first | exact ⟨i + 1, a3, c3, by omega, rfl, by go_num, HN.out⟩ | ((repeat apply Exists.intro); exact ⟨⟨i + 1, a3, c3, by omega, rfl, by go_num, HN.out⟩, rfl⟩)); (case measure => simp [intOf]; omega))
      · obtain rfl : i = 22 := by omega
        clear hO
        have pk : PieceOk wr (a, 22, c, upK 22) := ⟨hO2.own.row (by decide), fun h => hO2.own.nilB h⟩
        have hKk : Keeps Nil w wr := hk1.trans hO2.keep
        generalize wr = wk at *
        generalize a = ak at *
        generalize c = ck at *
        clear hO2 hin hi
        -- a slice is filled with upS 13; from the world wk
        have HG0 := Lib.hid (show OwnB wk none 0 0 (upS 0) wk from ⟨by simpa [upS, byteV] using Own.nil _ _ _, Keeps.refl _ _, fun k hk => (blkOf_none k hk).elim⟩)
        go_wp2_with fail
        go_loopw [6, 9] (fun x v wr => ∃ (i : Nat) (a : Option Addr) (c : Nat), i ≤ 13 ∧ x = .slice a i c ∧ v = .int .i64 i ∧ Hid (OwnB wk a c i (upS i) wr)) (fun _ v _ => 13 - (intOf v).toNat)
        case atStart => exact ⟨0, none, 0, by omega, rfl, rfl, HG0.out⟩
        case round =>
          obtain ⟨i, a, c, hi, rfl, rfl, hO⟩ := hrel
          clear HG0
          have hO2 := hO.out
          by_cases hin : i < 13
          · have hup := upS_succ i
            have HUP := Lib.hid hup
            clear hup
            have hw8 : IntKind.u8.wrap (i : Int) = i := by rw [IntKind.wrap_u8]; omega
            have hiI : (i : Int) < 13 := by omega
            generalize upS i = L at *
            go_wp2_with (first | (refine wpList_bs rfl 27 5 1 _ rfl [.int .u8 ((i : Int))] Tryd.underlying27 Tryd.bs8 rfl (by decide) (by decide) (by simp [Act.eval]) (by simp [Value.cells]) ?_) | (at_builtin; go_must (refine wpl_append rfl _ _ 27 rfl 5 1 1 Tryd.underlying27 Tryd.info8s (by omega) _ _ (i) _ rfl (hO2.own.keep0 ((Keeps.refl _ _).alloc _)) _ 1 1 [.int .u8 ((i : Int))] rfl (Src.one (Blk.new _ _ _) rfl) (by unfold maxLen; omega) (by omega) ?_)))
            intro a3 c3 w3 o3 k3 f3 _
            have hn := hO2.push ((Keeps.refl _ _).alloc _) o3 k3 (fun k hk => (f3 k hk).imp id (fun h => by omega))
            rw [HUP.out] at hn
            have HN := Lib.hid hn
            clear hn o3 k3 f3 hO2
            go_wp2_with fail
            first
              | exact ⟨⟨i + 1, a3, c3, by omega, rfl, by go_num, HN.out⟩, by simp [intOf]; omega⟩
              | (go_roundw; (case rel => first | exact ⟨i + 1, a3, c3, by omega, rfl, by go_num, HN.out⟩ | ((repeat apply Exists.intro); exact ⟨⟨i + 1, a3, c3, by omega, rfl, by go_num, HN.out⟩, rfl⟩)); (case measure => simp [intOf]; omega))
          · obtain rfl : i = 13 := by omega
            clear hO
            have ps : PieceOk wr (a, 13, c, upS 13) := ⟨hO2.own.row (by decide), fun h => hO2.own.nilB h⟩
            have pk2 := pk.keep hO2.keep
            have hKs : Keeps Nil w wr := hKk.trans hO2.keep
            generalize wr = wz at *
            generalize a = az at *
            generalize c = cz at *
            clear hO2 hin hi pk hKk
            -- a slice is filled with upI 10; from the world wz
            have HG0 := Lib.hid (show OwnB wz none 0 0 (upI 0) wz from ⟨by simpa [upI, byteV] using Own.nil _ _ _, Keeps.refl _ _, fun k hk => (blkOf_none k hk).elim⟩)
            go_wp2_with fail
            go_loopw [7, 10] (fun x v wr => ∃ (i : Nat) (a : Option Addr) (c : Nat), i ≤ 10 ∧ x = .slice a i c ∧ v = .int .i64 i ∧ Hid (OwnB wz a c i (upI i) wr)) (fun _ v _ => 10 - (intOf v).toNat)
            case atStart => exact ⟨0, none, 0, by omega, rfl, rfl, HG0.out⟩
            case round =>
              obtain ⟨i, a, c, hi, rfl, rfl, hO⟩ := hrel
              clear HG0
              have hO2 := hO.out
              by_cases hin : i < 10
              · have hup := upI_succ i
                have HUP := Lib.hid hup
                clear hup
                have hw9 : IntKind.u8.wrap (240 + (i : Int)) = 240 + i := by rw [IntKind.wrap_u8]; omega
                have hiI : (i : Int) < 10 := by omega
                generalize upI i = L at *
                go_wp2_with (first | (refine wpList_bs rfl 27 5 1 _ rfl [.int .u8 (240 + (i : Int))] Tryd.underlying27 Tryd.bs8 rfl (by decide) (by decide) (by simp [Act.eval]) (by simp [Value.cells]) ?_) | (at_builtin; go_must (refine wpl_append rfl _ _ 27 rfl 5 1 1 Tryd.underlying27 Tryd.info8s (by omega) _ _ (i) _ rfl (hO2.own.keep0 ((Keeps.refl _ _).alloc _)) _ 1 1 [.int .u8 (240 + (i : Int))] rfl (Src.one (Blk.new _ _ _) rfl) (by unfold maxLen; omega) (by omega) ?_)))
                intro a3 c3 w3 o3 k3 f3 _
                have hn := hO2.push ((Keeps.refl _ _).alloc _) o3 k3 (fun k hk => (f3 k hk).imp id (fun h => by omega))
                rw [HUP.out] at hn
                have HN := Lib.hid hn
                clear hn o3 k3 f3 hO2
                go_wp2_with fail
                first
                  | exact ⟨⟨i + 1, a3, c3, by omega, rfl, by go_num, HN.out⟩, by simp [intOf]; omega⟩
                  | (go_roundw; (case rel => first | exact ⟨i + 1, a3, c3, by omega, rfl, by go_num, HN.out⟩ | ((repeat apply Exists.intro); exact ⟨⟨i + 1, a3, c3, by omega, rfl, by go_num, HN.out⟩, rfl⟩)); (case measure => simp [intOf]; omega))
              · obtain rfl : i = 10 := by omega
                clear hO
                have pi' : PieceOk wr (a, 10, c, upI 10) := ⟨hO2.own.row (by decide), fun h => hO2.own.nilB h⟩
                have HD := Lib.hid (derive_walk (ps.keep hO2.keep) (pk2.keep hO2.keep) pi' (by omega) (by omega) (by omega) (n := 42) (by omega))
                have hKi : Keeps Nil w wr := hKs.trans hO2.keep
                have hv := vec_der
                have hl := deriveL_len (upS 13) (upK 22) (upI 10) 42
                have hbd := deriveL_bytes (upS 13) (upK 22) (upI 10) 42
                clear hO2 hin hi ps pk2 pi' hKs
                generalize deriveL (upS 13) (upK 22) (upI 10) 42 = D at *
                go_wp2_with fail
                refine HD.out.mono ?_
                rintro e w40 ⟨a40, c40, rfl, ho40, hk40, hf40⟩
                rw [hl] at ho40 ⊢
                have hK40 := hKi.trans hk40
                obtain ⟨g40, sp, rfl, hb40, hc40⟩ := ho40.openB (by omega)
                have dd : ∀ i (x : Int), i < 42 → D.getD i 0 = x → w40.cell? ⟨g40, i, none⟩ = some (.int .u8 x) := fun i x hi hx => hb40.cell i (by rw [List.getElem?_append_left (by rw [byteV_len]; omega)]; exact byteV_at D i (by omega) hx)
                have d0 := dd 0 _ (by omega) hv.1
                have d1 := dd 1 _ (by omega) hv.2.1
                have d2 := dd 2 _ (by omega) hv.2.2.1
                have d3 := dd 3 _ (by omega) hv.2.2.2.1
                have d40 := dd 40 _ (by omega) hv.2.2.2.2.1
                have d41 := dd 41 _ (by omega) hv.2.2.2.2.2
                clear hv hl hbd ho40 hb40 hc40 dd hf40 HD
                go_wp2_with fail
                go_ret
                exact ⟨by first | rfl | simp, hK40⟩
end Go.Proofs.YtnkahfpinkgimaaDoor
