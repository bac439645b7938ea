/-
  mac.Sum: the digest by a key.
-/
import Derived.Test.YtnkahfpinkgimaaDoorMacPlain
import Derived.Test.YtnkahfpinkgimaaDoorCopy
namespace Go.Proofs.YtnkahfpinkgimaaDoor
set_option linter.unusedSimpArgs false
set_option linter.unusedVariables false
open Go.RowKit

def z64 : List Int := List.replicate 64 0
theorem z64_len : z64.length = 64 := by simp [z64]
theorem Tryd.zeroB64 (w : World) : (zeroValue 56).run Tryd.prog w = .ok (.agg (byteV z64).toArray) w := by kernel_rfl
theorem Tryd.undB64 : Tryd.prog.underlying 56 = some (.array 64 5) := by kernel_rfl
theorem Tryd.info8z : (Tryd.prog.info? 5).map (·.size) = some 1 := by kernel_rfl
/-- A key laid over a block of zeros. -/
theorem splice_fill {l : List Int} (h : l.length ≤ 64) : splice (byteV z64) 0 ((byteV l).take 64) = byteV (fillK l) := by
  rw [List.take_of_length_le (by rw [byteV_len]; exact h)]
  unfold splice fillK z64
  rw [List.take_zero, List.nil_append, byteV_len, Nat.zero_add]
  unfold byteV
  rw [← List.map_drop, List.drop_replicate, List.map_append]


/-- The world behind the first three blocks. -/
def MacW (w wA : World) (Z B : List Value) : Prop := wA = ((w.alloc (.cells Z.toArray 36)).alloc (.cells B.toArray 56)).alloc (.cells B.toArray 56) ∧ Blk wA w.heap.size Z 36 ∧ Blk wA (w.heap.size + 1) B 56 ∧ Blk wA (w.heap.size + 1 + 1) B 56 ∧ Keeps Nil w wA ∧ wA.heap.size = w.heap.size + 1 + 1 + 1
theorem macW (w : World) (Z B : List Value) : ∃ wA, MacW w wA Z B := by
  refine ⟨_, rfl, ?_, ?_, ?_, ?_, ?_⟩
  · exact ((Blk.new w Z _).alloc _).alloc _
  · exact (Blk.new' (w.alloc _) B _ (size_alloc' _ _).symm).alloc _
  · exact Blk.new' _ B _ (by rw [size_alloc', size_alloc'])
  · exact (((Keeps.refl Nil w).alloc _).alloc _).alloc _
  · rw [size_alloc', size_alloc', size_alloc']
theorem xorUp_bytes {l : List Int} (h : AreB l) (c : Int) (i : Nat) : AreB (xorUp l c i) := areB_append (xorK_bytes _ _) (fun x hx => h x (List.mem_of_mem_drop hx))
/-- What the two blocks hold when the key has been laid in. -/
def MacGo (r : Nat) (F : List Int) (w : World) (i : Nat) (wr : World) : Prop := Blk wr (r + 1) (byteV (xorUp F 54 i)) 56 ∧ Blk wr (r + 1 + 1) (byteV (xorUp F 92 i)) 56 ∧ Keeps (Two (r + 1) (r + 1 + 1)) w wr
theorem MacGo.next {r : Nat} {F : List Int} {w wr : World} {i : Nat} (h : MacGo r F w i wr) (hF : F.length = 64) (hi : i < 64) :
    MacGo r F w (i + 1) ((wr.setCell ⟨r + 1, i, none⟩ (.int .u8 (bits .xor .u8 (F.getD i 0) 54))).setCell ⟨r + 1 + 1, i, none⟩ (.int .u8 (bits .xor .u8 (F.getD i 0) 92))) := by
  obtain ⟨h1, h2, hk⟩ := h
  have e1 := h1.set i (.int .u8 (bits .xor .u8 (F.getD i 0) 54))
  rw [← byteV_setS, xorUp_succ _ _ _ (by omega)] at e1
  have e2 := (h2.far (p := ⟨r + 1, i, none⟩) (by simp) (.int .u8 (bits .xor .u8 (F.getD i 0) 54))).set i (.int .u8 (bits .xor .u8 (F.getD i 0) 92))
  rw [← byteV_setS, xorUp_succ _ _ _ (by omega)] at e2
  exact ⟨e1.far (by simp) _, e2, (hk.setCell (p := ⟨r + 1, i, none⟩) (.inl (.inl rfl)) _).setCell (p := ⟨r + 1 + 1, i, none⟩) (.inl (.inr rfl)) _⟩

set_option maxRecDepth 20000 in
set_option maxHeartbeats 3200000 in
theorem macSum_walk {w : World} {a : Option Addr} {n cap : Nat} {key : List Int} (hr : Row .u8 w a n key) (hnil : a = none → cap = 0 ∧ n = 0) {al : Option Addr} {nl cl : Nat} {L : List (List Int)} (hL : ManyB w al nl L) (hn : n ≤ 800000) (hl : L.flatten.length ≤ 800000) :
    Calls Tryd.prog 18 #[.slice a n cap, .slice al nl cl] w fun e w' => e = .returned (keyV (macL key L.flatten)) ∧ Keeps Nil w w' := by
  have hzv := Tryd.zeroH32
  have hzv64 := Tryd.zeroB64
  have HZ32 := Lib.hid (show (byteV z32).length = 32 by rw [byteV_len, z32_len])
  have HZ64 := Lib.hid (show (byteV z64).length = 64 by rw [byteV_len, z64_len])
  have HSP := Lib.hid (fun (l : List Int) => @splice_fill l)
  generalize byteV z32 = Z at *
  generalize byteV z64 = B at *
  obtain ⟨wA, hwA, hbR, hbI, hbO, hkA, hsA⟩ := macW w Z B
  have HWA := Lib.hid hwA
  clear hwA
  have hrA := hr.keep hkA
  have hkl := hr.llen
  by_cases h64 : 64 < n
  · have hpad : padK key = fillK (digest key) := by unfold padK fitK; rw [if_pos (by omega)]
    have HM := Lib.hid (fun h => shaSum_walk (cap := 1) (ManyB.one' (g := w.heap.size + 1 + 1 + 1) (c := cap) (Blk.new' wA [.slice a n cap] 27 hsA.symm) ⟨hrA.keep ((Keeps.refl _ _).alloc _), hnil⟩) h)
    have hk1 := (Keeps.refl Nil wA).alloc (.cells [Value.slice a n cap].toArray 27)
    go_enter Tryd.func18, Tryd.ntmps18
    go_wp2_with fail
    rw [← HWA.out]
    refine (HM.out (by simp; omega)).mono ?_
    rintro e w1 ⟨rfl, hk1'⟩
    rw [show [key].flatten = key by simp]
    have hkB := hk1.trans hk1'
    have hbR := hbR.keep0 hkB
    have hbI := hbI.keep0 hkB
    have hbO := hbO.keep0 hkB
    have hK1 := hkA.trans hkB
    have hs1 := hkB.size
    have hb := Blk.new w1 Z 36
    have hka := (Keeps.refl Nil w1).alloc (.cells Z.toArray 36)
    have hdl : (byteV (digest key)).length = 32 := by rw [byteV_len, digest_len]
    have hdo := byteV_one (digest key)
    clear HM hk1 hk1' hkB hrA hr
    go_wp2_with (refine wpl_store rfl 36 _ _ rfl w1.heap.size rfl (byteV (digest key)) rfl hb (by rw [hdl, HZ32.out]) (by rw [hdl]; exact Tryd.infoH) hdo ?_)
    intro wB hbS hkS _
    have hk1B : Keeps Nil w1 wB := hka.step hkS (fun i hi => .inr (by rw [show i = w1.heap.size from hi]; exact Nat.le_refl _))
    have hbR := hbR.keep0 hk1B
    have hbI := hbI.keep0 hk1B
    have hbO := hbO.keep0 hk1B
    have hKB := hK1.trans hk1B
    have hrK := hbS.row8 (digest_bytes key) (digest_len key) (by omega)
    have hsB := hk1B.size
    obtain ⟨gs, hgs⟩ : ∃ gs, gs = w1.heap.size := ⟨_, rfl⟩
    rw [← hgs] at hrK hsB hs1 ⊢
    have hnK : (some (⟨gs, 0, none⟩ : Addr)) = none → 32 = 0 ∧ 32 = 0 := fun h => by cases h
    have hfK : 0 < 32 → ∀ k, blkOf (some ⟨gs, 0, none⟩) k → k ≠ w.heap.size + 1 ∧ k ≠ w.heap.size + 1 + 1 := fun _ k hk => by rw [(blkOf_some _ _ _ _).1 hk]; omega
    clear hb hka hdl hdo hbS hkS hk1B hK1 hgs
    generalize digest key = K at *
    -- a', n', c', K: the key as it goes in (n' <= 64); at wB: hrK hnK hfK hbI hbO hbR hKB (from w) hsB
    have hlK := hrK.llen
    have hSP := HSP.out K (by omega)
    have hFl : (fillK K).length = 64 := fillK_len _ (by omega)
    have hFb : AreB (fillK K) := areB_append hrK.bytes (areB_zeros _)
    go_wp2_with (refine wpl_copy rfl _ _ 27 27 rfl 5 Tryd.underlying27 Tryd.info8z (w.heap.size + 1) 0 64 64 rfl hbI (by rw [HZ64.out]; exact Nat.le_refl _) _ _ _ (byteV K) rfl (hrK.src hnK) ?_)
    intro w2 hbI2 hk2
    try rw [hSP] at hbI2
    have hbO2 := hbO.keep hk2 (fun e => by have e' : w.heap.size + 1 + 1 = w.heap.size + 1 := e; omega)
    have hbR2 := hbR.keep hk2 (fun e => by have e' : w.heap.size = w.heap.size + 1 := e; omega)
    have hr2 := hrK.keepF hk2 (fun h0 b hb e => (hfK h0 b hb).1 e)
    have hK2 : Keeps Nil w w2 := hKB.step hk2 (fun i hi => .inr (by rw [show i = w.heap.size + 1 from hi]; omega))
    have hsz2 := hk2.size
    clear hbI hbO hbR hk2 hKB hrK
    go_wp2_with (refine wpl_copy rfl _ _ 27 27 rfl 5 Tryd.underlying27 Tryd.info8z (w.heap.size + 1 + 1) 0 64 64 rfl hbO2 (by rw [HZ64.out]; exact Nat.le_refl _) _ _ _ (byteV K) rfl (hr2.src hnK) ?_)
    intro w3 hbO3 hk3
    try rw [hSP] at hbO3
    have hbI3 := hbI2.keep hk3 (fun e => by have e' : w.heap.size + 1 = w.heap.size + 1 + 1 := e; omega)
    have hbR3 := hbR2.keep hk3 (fun e => by have e' : w.heap.size = w.heap.size + 1 + 1 := e; omega)
    have hK3 : Keeps Nil w w3 := hK2.step hk3 (fun i hi => .inr (by rw [show i = w.heap.size + 1 + 1 from hi]; omega))
    have hsz3 := hk3.size
    clear hbI2 hbO2 hbR2 hk3 hK2 hr2 hfK hnK hSP
    have HGO := Lib.hid (show MacGo w.heap.size (fillK K) w3 0 w3 from ⟨by rw [xorUp_zero]; exact hbI3, by rw [xorUp_zero]; exact hbO3, Keeps.refl _ _⟩)
    clear hbI3 hbO3
    have HFK := Lib.hid (show padK key = fillK K from hpad)
    generalize fillK K = F at *
    go_wp2_with fail
    go_loopw [26] (fun v wr => ∃ i : Nat, i ≤ 64 ∧ v = .int .i64 i ∧ Hid (MacGo w.heap.size F w3 i wr)) (fun v _ => 64 - (intOf v).toNat)
    case atStart => exact ⟨0, by omega, rfl, HGO.out⟩
    case round =>
      obtain ⟨i, hi, rfl, hGo⟩ := hrel
      clear HGO
      by_cases hi64 : i < 64
      · have hN := hGo.out.next hFl hi64
        have HN := Lib.hid hN
        have x1 := hGo.out.1.cell i (byteV_at _ i (by rw [xorUp_len]; omega) (xorUp_at F 54 i (by omega)))
        have x2 := hGo.out.2.1.cell i (byteV_at _ i (by rw [xorUp_len]; omega) (xorUp_at F 92 i (by omega)))
        have z1 := hGo.out.1.frozen i
        have z2 := hGo.out.2.1.frozen i
        clear hN
        generalize F.getD i 0 = y at *
        go_wp2_with fail
        exact ⟨⟨i + 1, by omega, by go_num, HN.out⟩, by simp [intOf]; omega⟩
      · obtain rfl : i = 64 := by omega
        obtain ⟨hbI4, hbO4, hk4⟩ := hGo.out
        rw [xorUp_full _ _ hFl] at hbI4 hbO4
        have hbR4 := hbR3.keep hk4 (fun e => by rcases e with e | e <;> omega)
        have hK4 : Keeps Nil w wr := hK3.step hk4 (fun i hi => .inr (by rcases hi with e | e <;> omega))
        have hs4 := hk4.size
        clear hGo hk4 hbR3 hK3 hi64 hi
        generalize wr = wq at *
        have hxI := xorK_bytes F 54
        have hxO := xorK_bytes F 92
        have hlI : (xorK F 54).length = 64 := by rw [xorK_len, hFl]
        have hlO : (xorK F 92).length = 64 := by rw [xorK_len, hFl]
        have HMM := Lib.hid (show macL key L.flatten = digest (xorK F 92 ++ digest (xorK F 54 ++ L.flatten)) by rw [macL_eq, HFK.out])
        clear hFl hFb HFK hpad
        generalize xorK F 54 = IN at *
        generalize xorK F 92 = OU at *
        go_wp2_with fail
        refine (new_walk wq).mono ?_
        rintro e w5 ⟨g, rfl, hI5, hk5, hg5⟩
        have hw5 := write_walk hI5 ((hbI4.keep0 hk5).row8 hxI hlI (by omega)) (capb := 64) (fun h => by cases h) (fun k hk h0 e => by have h1 := (blkOf_some _ _ _ _).1 hk; have h2 := hbI4.lt; omega) (by simp)
        rw [List.nil_append] at hw5
        have HW5 := Lib.hid hw5
        clear hw5 hI5
        go_wp2_with fail
        refine HW5.out.mono ?_
        rintro e w6 ⟨rfl, a6, c6, hI6, hk6, hf6⟩
        have hkq6 : Keeps Nil wq w6 := hk5.step hk6 (fun i hi => .inr (by rcases hi with rfl | hi; exact hg5; have := hi.1; omega))
        have hN6 : NewHash wq g (IN ++ (L.take 0).flatten) w6 := ⟨a6, c6, by simpa using hI6, hkq6, fun k hk => by
          rcases hf6 k hk with h | h
          · have := h.1; omega
          · have := hk5.size; omega⟩
        have HN6 := Lib.hid hN6
        have hLq := hL.keep hK4
        have hLl := hL.len
        have hLm := hL.most
        have HLL := Lib.hid hLl
        clear HW5 hI6 hk6 hf6 hN6 hk5 hLl
        go_wp2_with fail
        go_loopw [46] (fun v wr => ∃ i : Nat, i ≤ nl ∧ v = .int .i64 i ∧ Hid (NewHash wq g (IN ++ (L.take i).flatten) wr)) (fun v _ => nl - (intOf v).toNat)
        case atStart => exact ⟨0, by omega, rfl, HN6.out⟩
        case round =>
          obtain ⟨i, hi, rfl, hNi⟩ := hrel
          clear HN6 hkq6
          obtain ⟨a7, c7, hI7, hk7, hf7⟩ := hNi.out
          by_cases hin : i < nl
          · obtain ⟨b, off, rfl, hc⟩ := (hLq.keep hk7).lies (by omega)
            obtain ⟨ai, ni, ci, hcell, hrow, hni⟩ := hc i hin
            have hfs := flat_take_succ L i (by have := HLL.out; omega)
            have hfl := flat_take_le L (i + 1)
            have hrl := hrow.llen
            have hbb : ∀ k, blkOf ai k → 0 < ni → k ≠ g := fun k hk h0 e => by
              obtain ⟨b0, off0, ha0, hc0⟩ := hLq.lies (by omega)
              cases ha0
              obtain ⟨ai0, ni0, ci0, hcell0, hrow0, _⟩ := hc0 i hin
              have hcell1 := hk7.cell hcell0 (fun h => h)
              rw [hcell] at hcell1
              cases hcell1
              obtain ⟨b3, o3, hb3, hl3, _⟩ := hrow0.cell h0
              rw [hb3] at hk
              have := (blkOf_some _ _ _ _).1 hk
              omega
            have hw := write_walk hI7 hrow (capb := ci) hni hbb (by rw [List.length_append, hlI, Nat.add_assoc, ← hrl, ← List.length_append, hfs]; omega)
            rw [List.append_assoc, hfs] at hw
            have HW := Lib.hid hw
            clear hw hfs hfl hrl hrow hni hI7 hNi hc hbb
            have hi0 : (0 : Int) ≤ i := by omega
            have hi1 : (i : Int) < nl := by omega
            go_wp2_with fail
            refine HW.out.mono ?_
            rintro e w8 ⟨rfl, a8, c8, h8, hk8, hf8⟩
            have hN8 : NewHash wq g (IN ++ (L.take (i + 1)).flatten) w8 := ⟨a8, c8, h8, hk7.step hk8 (fun k hk => by
              rcases hk with rfl | hk
              · exact .inr hg5
              · exact .inr (hf7 k hk)), fun k hk => by
                rcases hf8 k hk with h' | h'
                · exact hf7 k h'
                · have := hk7.size; omega⟩
            clear hcell HW h8 hk8 hf8
            go_wp2_with fail
            go_roundw
            case rel => first | exact ⟨i + 1, by omega, by go_num, hN8⟩ | ((repeat apply Exists.intro); exact ⟨⟨i + 1, by omega, by go_num, hN8⟩, rfl⟩)
            case measure => simp [intOf]; omega
          · obtain rfl : i = nl := by omega
            have hfull : L.take i = L := List.take_of_length_le (by have := HLL.out; omega)
            rw [hfull] at hI7
            have hlT : (IN ++ L.flatten).length ≤ 900000 := by rw [List.length_append]; omega
            have HS := Lib.hid (sum_walk hI7 hlT)
            have hbR7 := hbR4.keep0 hk7
            have hbO7 := hbO4.keep0 hk7
            have hK7 := hK4.trans hk7
            have hDl := digest_len (IN ++ L.flatten)
            have hDb := digest_bytes (IN ++ L.flatten)
            clear hfull hI7 hNi hf7 hlT hbI4 hLq hL hbR4 hbO4 hk7 hK4
            generalize wr = wz at *
            generalize digest (IN ++ L.flatten) = D at *
            have hDv : (byteV D).length = 32 := by rw [byteV_len, hDl]
            go_wp2_with fail
            refine HS.out.mono ?_
            rintro e w9 ⟨rfl, hk9⟩
            have hbR9 := hbR7.keep0 hk9
            have hbO9 := hbO7.keep0 hk9
            have hK9 := hK7.trans hk9
            have hb := Blk.new w9 Z 36
            have hka := (Keeps.refl Nil w9).alloc (.cells Z.toArray 36)
            clear HS hbR7 hbO7 hK7 hk9
            go_wp2_with (refine wpl_store rfl 36 _ _ rfl w9.heap.size rfl (byteV D) rfl hb (by rw [hDv, HZ32.out]) (by rw [hDv]; exact Tryd.infoH) (byteV_one D) ?_)
            intro wS hbS hkS hsS
            clear hsS
            have hk9S : Keeps Nil w9 wS := hka.step hkS (fun i hi => .inr (by rw [show i = w9.heap.size from hi]; exact Nat.le_refl _))
            have hbRS := hbR9.keep0 hk9S
            have hbOS := hbO9.keep0 hk9S
            have hKS := hK9.trans hk9S
            clear hb hka hkS hk9S hbR9 hbO9 hK9
            generalize w9.heap.size = gs9 at *
            go_wp2_with fail
            refine wp_region_held_drew (S := fun _ => True) (by kernel_rfl) trivial (fun hHeld => ?_)
            have hkd : Keeps Nil wS wS.drew := (Keeps.refl Nil wS).drew
            generalize wS.drew = wd at *
            refine takeL (i := 0) (v := _) rfl (by kernel_rfl) (by kernel_rfl) (by kernel_rfl) (fun _ _ _ h => h) (Or.inl ⟨by rfl, by intro w hSw; (try dsimp only at hSw); go_simp; try with_reducible rfl⟩) (by assumption) ?_
            try simp only [Act.put, List.setIfInBounds_toArray, List.set_cons_zero, List.set_cons_succ]
            refine takeL (i := 1) (v := _) rfl (by kernel_rfl) (by kernel_rfl) (by kernel_rfl) (fun _ _ _ h => h) (Or.inl ⟨by rfl, by intro w hSw; (try dsimp only at hSw); go_simp; try with_reducible rfl⟩) (by assumption) ?_
            try simp only [Act.put, List.setIfInBounds_toArray, List.set_cons_zero, List.set_cons_succ]
            refine onlyL (i := 2) rfl (by kernel_rfl) (fun K hK => ?_)
            refine step_bs rfl _ 27 2 _ rfl [.slice (some ⟨w.heap.size + 1 + 1, 0, none⟩) 64 64, .slice (some ⟨gs9, 0, none⟩) 32 32] Tryd.underlying55 Tryd.bsSl rfl (by decide) (by decide) (by simp [Act.eval]) (by simp [Value.cells]) ?_
            have hkb := hkd.alloc (.cells [Value.slice (some ⟨w.heap.size + 1 + 1, 0, none⟩) 64 64, Value.slice (some ⟨gs9, 0, none⟩) 32 32].toArray 27)
            have hM := ManyB.two (c1 := 64) (c2 := 32) (Blk.new wd [Value.slice (some ⟨w.heap.size + 1 + 1, 0, none⟩) 64 64, Value.slice (some ⟨gs9, 0, none⟩) 32 32] 27) (PieceOk.some ((hbOS.keep0 hkb).row8 hxO hlO (by omega))) (PieceOk.some ((hbS.keep0 hkb).row8 hDb hDl (by omega)))
            refine (fun hHeld => hK _ _ hHeld ?_) (trivial)
            clear hK
            try simp only [Act.put, List.setIfInBounds_toArray, List.set_cons_zero, List.set_cons_succ]
            refine onlyL (i := 3) rfl (by kernel_rfl) (fun K hK => ?_)
            go_simp
            refine (shaSum_walk hM (by simp; omega)).mono ?_
            rintro e wT ⟨rfl, hkT⟩
            rw [show [OU, D].flatten = OU ++ D by simp]
            have hkST := hkb.trans hkT
            have hbRT := hbRS.keep0 hkST
            have hKT := hKS.trans hkST
            have hRl : (byteV (digest (OU ++ D))).length = 32 := by rw [byteV_len, digest_len]
            have hRo := byteV_one (digest (OU ++ D))
            clear hM hkb hkT hkST hbRS hbOS
            have hmm := HMM.out
            generalize digest (OU ++ D) = R at *
            refine (fun hHeld => hK _ _ hHeld ?_) (trivial)
            clear hK
            try simp only [Act.put, List.setIfInBounds_toArray, List.set_cons_zero, List.set_cons_succ]
            refine onlyL (i := 4) rfl (by kernel_rfl) (fun K hK => ?_)
            refine step_store rfl 36 _ _ rfl w.heap.size rfl (byteV R) rfl hbRT (by rw [hRl, HZ32.out]) (by rw [hRl]; exact Tryd.infoH) hRo ?_
            intro wU hbU hkU _
            refine (fun hHeld => hK _ _ hHeld ?_) (trivial)
            clear hK
            try simp only [Act.put, List.setIfInBounds_toArray, List.set_cons_zero, List.set_cons_succ]
            refine wpAnyH_done (by kernel_rfl) ?_ _
            go_wp2_with fail
            refine ret_blk Tryd.results18 w.heap.size rfl hbU _ Tryd.undH rfl (by rw [hRl]; exact Tryd.infoH) rfl ⟨by rw [hmm], hKT.step hkU (fun i hi => .inr (by rw [show i = w.heap.size from hi]; exact Nat.le_refl _))⟩
  · have hpad : padK key = fillK key := by unfold padK fitK; rw [if_neg (by omega)]
    have hrK := hrA
    have hnK := hnil
    have hKB := hkA
    have hsB : w.heap.size + 1 + 1 + 1 ≤ wA.heap.size := by omega
    have hfK : 0 < n → ∀ k, blkOf a k → k ≠ w.heap.size + 1 ∧ k ≠ w.heap.size + 1 + 1 := fun h0 k hk => by
      obtain ⟨b, off, ha, hb, _⟩ := hr.cell h0
      rw [ha] at hk
      rw [(blkOf_some _ _ _ _).1 hk]; omega
    clear hrA hr hnil
    have hwA := HWA.out
    clear HWA
    subst hwA
    go_enter Tryd.func18, Tryd.ntmps18
    -- a', n', c', key: the key as it goes in (n' <= 64); at wB: hrK hnK hfK hbI hbO hbR hKB (from w) hsB
    have hlK := hrK.llen
    have hSP := HSP.out key (by omega)
    have hFl : (fillK key).length = 64 := fillK_len _ (by omega)
    have hFb : AreB (fillK key) := areB_append hrK.bytes (areB_zeros _)
    go_wp2_with (refine wpl_copy rfl _ _ 27 27 rfl 5 Tryd.underlying27 Tryd.info8z (w.heap.size + 1) 0 64 64 rfl hbI (by rw [HZ64.out]; exact Nat.le_refl _) _ _ _ (byteV key) rfl (hrK.src hnK) ?_)
    intro w2 hbI2 hk2
    try rw [hSP] at hbI2
    have hbO2 := hbO.keep hk2 (fun e => by have e' : w.heap.size + 1 + 1 = w.heap.size + 1 := e; omega)
    have hbR2 := hbR.keep hk2 (fun e => by have e' : w.heap.size = w.heap.size + 1 := e; omega)
    have hr2 := hrK.keepF hk2 (fun h0 b hb e => (hfK h0 b hb).1 e)
    have hK2 : Keeps Nil w w2 := hKB.step hk2 (fun i hi => .inr (by rw [show i = w.heap.size + 1 from hi]; omega))
    have hsz2 := hk2.size
    clear hbI hbO hbR hk2 hKB hrK
    go_wp2_with (refine wpl_copy rfl _ _ 27 27 rfl 5 Tryd.underlying27 Tryd.info8z (w.heap.size + 1 + 1) 0 64 64 rfl hbO2 (by rw [HZ64.out]; exact Nat.le_refl _) _ _ _ (byteV key) rfl (hr2.src hnK) ?_)
    intro w3 hbO3 hk3
    try rw [hSP] at hbO3
    have hbI3 := hbI2.keep hk3 (fun e => by have e' : w.heap.size + 1 = w.heap.size + 1 + 1 := e; omega)
    have hbR3 := hbR2.keep hk3 (fun e => by have e' : w.heap.size = w.heap.size + 1 + 1 := e; omega)
    have hK3 : Keeps Nil w w3 := hK2.step hk3 (fun i hi => .inr (by rw [show i = w.heap.size + 1 + 1 from hi]; omega))
    have hsz3 := hk3.size
    clear hbI2 hbO2 hbR2 hk3 hK2 hr2 hfK hnK hSP
    have HGO := Lib.hid (show MacGo w.heap.size (fillK key) w3 0 w3 from ⟨by rw [xorUp_zero]; exact hbI3, by rw [xorUp_zero]; exact hbO3, Keeps.refl _ _⟩)
    clear hbI3 hbO3
    have HFK := Lib.hid (show padK key = fillK key from hpad)
    generalize fillK key = F at *
    go_wp2_with fail
    go_loopw [26] (fun v wr => ∃ i : Nat, i ≤ 64 ∧ v = .int .i64 i ∧ Hid (MacGo w.heap.size F w3 i wr)) (fun v _ => 64 - (intOf v).toNat)
    case atStart => exact ⟨0, by omega, rfl, HGO.out⟩
    case round =>
      obtain ⟨i, hi, rfl, hGo⟩ := hrel
      clear HGO
      by_cases hi64 : i < 64
      · have hN := hGo.out.next hFl hi64
        have HN := Lib.hid hN
        have x1 := hGo.out.1.cell i (byteV_at _ i (by rw [xorUp_len]; omega) (xorUp_at F 54 i (by omega)))
        have x2 := hGo.out.2.1.cell i (byteV_at _ i (by rw [xorUp_len]; omega) (xorUp_at F 92 i (by omega)))
        have z1 := hGo.out.1.frozen i
        have z2 := hGo.out.2.1.frozen i
        clear hN
        generalize F.getD i 0 = y at *
        go_wp2_with fail
        exact ⟨⟨i + 1, by omega, by go_num, HN.out⟩, by simp [intOf]; omega⟩
      · obtain rfl : i = 64 := by omega
        obtain ⟨hbI4, hbO4, hk4⟩ := hGo.out
        rw [xorUp_full _ _ hFl] at hbI4 hbO4
        have hbR4 := hbR3.keep hk4 (fun e => by rcases e with e | e <;> omega)
        have hK4 : Keeps Nil w wr := hK3.step hk4 (fun i hi => .inr (by rcases hi with e | e <;> omega))
        have hs4 := hk4.size
        clear hGo hk4 hbR3 hK3 hi64 hi
        generalize wr = wq at *
        have hxI := xorK_bytes F 54
        have hxO := xorK_bytes F 92
        have hlI : (xorK F 54).length = 64 := by rw [xorK_len, hFl]
        have hlO : (xorK F 92).length = 64 := by rw [xorK_len, hFl]
        have HMM := Lib.hid (show macL key L.flatten = digest (xorK F 92 ++ digest (xorK F 54 ++ L.flatten)) by rw [macL_eq, HFK.out])
        clear hFl hFb HFK hpad
        generalize xorK F 54 = IN at *
        generalize xorK F 92 = OU at *
        go_wp2_with fail
        refine (new_walk wq).mono ?_
        rintro e w5 ⟨g, rfl, hI5, hk5, hg5⟩
        have hw5 := write_walk hI5 ((hbI4.keep0 hk5).row8 hxI hlI (by omega)) (capb := 64) (fun h => by cases h) (fun k hk h0 e => by have h1 := (blkOf_some _ _ _ _).1 hk; have h2 := hbI4.lt; omega) (by simp)
        rw [List.nil_append] at hw5
        have HW5 := Lib.hid hw5
        clear hw5 hI5
        go_wp2_with fail
        refine HW5.out.mono ?_
        rintro e w6 ⟨rfl, a6, c6, hI6, hk6, hf6⟩
        have hkq6 : Keeps Nil wq w6 := hk5.step hk6 (fun i hi => .inr (by rcases hi with rfl | hi; exact hg5; have := hi.1; omega))
        have hN6 : NewHash wq g (IN ++ (L.take 0).flatten) w6 := ⟨a6, c6, by simpa using hI6, hkq6, fun k hk => by
          rcases hf6 k hk with h | h
          · have := h.1; omega
          · have := hk5.size; omega⟩
        have HN6 := Lib.hid hN6
        have hLq := hL.keep hK4
        have hLl := hL.len
        have hLm := hL.most
        have HLL := Lib.hid hLl
        clear HW5 hI6 hk6 hf6 hN6 hk5 hLl
        go_wp2_with fail
        go_loopw [46] (fun v wr => ∃ i : Nat, i ≤ nl ∧ v = .int .i64 i ∧ Hid (NewHash wq g (IN ++ (L.take i).flatten) wr)) (fun v _ => nl - (intOf v).toNat)
        case atStart => exact ⟨0, by omega, rfl, HN6.out⟩
        case round =>
          obtain ⟨i, hi, rfl, hNi⟩ := hrel
          clear HN6 hkq6
          obtain ⟨a7, c7, hI7, hk7, hf7⟩ := hNi.out
          by_cases hin : i < nl
          · obtain ⟨b, off, rfl, hc⟩ := (hLq.keep hk7).lies (by omega)
            obtain ⟨ai, ni, ci, hcell, hrow, hni⟩ := hc i hin
            have hfs := flat_take_succ L i (by have := HLL.out; omega)
            have hfl := flat_take_le L (i + 1)
            have hrl := hrow.llen
            have hbb : ∀ k, blkOf ai k → 0 < ni → k ≠ g := fun k hk h0 e => by
              obtain ⟨b0, off0, ha0, hc0⟩ := hLq.lies (by omega)
              cases ha0
              obtain ⟨ai0, ni0, ci0, hcell0, hrow0, _⟩ := hc0 i hin
              have hcell1 := hk7.cell hcell0 (fun h => h)
              rw [hcell] at hcell1
              cases hcell1
              obtain ⟨b3, o3, hb3, hl3, _⟩ := hrow0.cell h0
              rw [hb3] at hk
              have := (blkOf_some _ _ _ _).1 hk
              omega
            have hw := write_walk hI7 hrow (capb := ci) hni hbb (by rw [List.length_append, hlI, Nat.add_assoc, ← hrl, ← List.length_append, hfs]; omega)
            rw [List.append_assoc, hfs] at hw
            have HW := Lib.hid hw
            clear hw hfs hfl hrl hrow hni hI7 hNi hc hbb
            have hi0 : (0 : Int) ≤ i := by omega
            have hi1 : (i : Int) < nl := by omega
            go_wp2_with fail
            refine HW.out.mono ?_
            rintro e w8 ⟨rfl, a8, c8, h8, hk8, hf8⟩
            have hN8 : NewHash wq g (IN ++ (L.take (i + 1)).flatten) w8 := ⟨a8, c8, h8, hk7.step hk8 (fun k hk => by
              rcases hk with rfl | hk
              · exact .inr hg5
              · exact .inr (hf7 k hk)), fun k hk => by
                rcases hf8 k hk with h' | h'
                · exact hf7 k h'
                · have := hk7.size; omega⟩
            clear hcell HW h8 hk8 hf8
            go_wp2_with fail
            go_roundw
            case rel => first | exact ⟨i + 1, by omega, by go_num, hN8⟩ | ((repeat apply Exists.intro); exact ⟨⟨i + 1, by omega, by go_num, hN8⟩, rfl⟩)
            case measure => simp [intOf]; omega
          · obtain rfl : i = nl := by omega
            have hfull : L.take i = L := List.take_of_length_le (by have := HLL.out; omega)
            rw [hfull] at hI7
            have hlT : (IN ++ L.flatten).length ≤ 900000 := by rw [List.length_append]; omega
            have HS := Lib.hid (sum_walk hI7 hlT)
            have hbR7 := hbR4.keep0 hk7
            have hbO7 := hbO4.keep0 hk7
            have hK7 := hK4.trans hk7
            have hDl := digest_len (IN ++ L.flatten)
            have hDb := digest_bytes (IN ++ L.flatten)
            clear hfull hI7 hNi hf7 hlT hbI4 hLq hL hbR4 hbO4 hk7 hK4
            generalize wr = wz at *
            generalize digest (IN ++ L.flatten) = D at *
            have hDv : (byteV D).length = 32 := by rw [byteV_len, hDl]
            go_wp2_with fail
            refine HS.out.mono ?_
            rintro e w9 ⟨rfl, hk9⟩
            have hbR9 := hbR7.keep0 hk9
            have hbO9 := hbO7.keep0 hk9
            have hK9 := hK7.trans hk9
            have hb := Blk.new w9 Z 36
            have hka := (Keeps.refl Nil w9).alloc (.cells Z.toArray 36)
            clear HS hbR7 hbO7 hK7 hk9
            go_wp2_with (refine wpl_store rfl 36 _ _ rfl w9.heap.size rfl (byteV D) rfl hb (by rw [hDv, HZ32.out]) (by rw [hDv]; exact Tryd.infoH) (byteV_one D) ?_)
            intro wS hbS hkS hsS
            clear hsS
            have hk9S : Keeps Nil w9 wS := hka.step hkS (fun i hi => .inr (by rw [show i = w9.heap.size from hi]; exact Nat.le_refl _))
            have hbRS := hbR9.keep0 hk9S
            have hbOS := hbO9.keep0 hk9S
            have hKS := hK9.trans hk9S
            clear hb hka hkS hk9S hbR9 hbO9 hK9
            generalize w9.heap.size = gs9 at *
            go_wp2_with fail
            refine wp_region_held_drew (S := fun _ => True) (by kernel_rfl) trivial (fun hHeld => ?_)
            have hkd : Keeps Nil wS wS.drew := (Keeps.refl Nil wS).drew
            generalize wS.drew = wd at *
            refine takeL (i := 0) (v := _) rfl (by kernel_rfl) (by kernel_rfl) (by kernel_rfl) (fun _ _ _ h => h) (Or.inl ⟨by rfl, by intro w hSw; (try dsimp only at hSw); go_simp; try with_reducible rfl⟩) (by assumption) ?_
            try simp only [Act.put, List.setIfInBounds_toArray, List.set_cons_zero, List.set_cons_succ]
            refine takeL (i := 1) (v := _) rfl (by kernel_rfl) (by kernel_rfl) (by kernel_rfl) (fun _ _ _ h => h) (Or.inl ⟨by rfl, by intro w hSw; (try dsimp only at hSw); go_simp; try with_reducible rfl⟩) (by assumption) ?_
            try simp only [Act.put, List.setIfInBounds_toArray, List.set_cons_zero, List.set_cons_succ]
            refine onlyL (i := 2) rfl (by kernel_rfl) (fun K hK => ?_)
            refine step_bs rfl _ 27 2 _ rfl [.slice (some ⟨w.heap.size + 1 + 1, 0, none⟩) 64 64, .slice (some ⟨gs9, 0, none⟩) 32 32] Tryd.underlying55 Tryd.bsSl rfl (by decide) (by decide) (by simp [Act.eval]) (by simp [Value.cells]) ?_
            have hkb := hkd.alloc (.cells [Value.slice (some ⟨w.heap.size + 1 + 1, 0, none⟩) 64 64, Value.slice (some ⟨gs9, 0, none⟩) 32 32].toArray 27)
            have hM := ManyB.two (c1 := 64) (c2 := 32) (Blk.new wd [Value.slice (some ⟨w.heap.size + 1 + 1, 0, none⟩) 64 64, Value.slice (some ⟨gs9, 0, none⟩) 32 32] 27) (PieceOk.some ((hbOS.keep0 hkb).row8 hxO hlO (by omega))) (PieceOk.some ((hbS.keep0 hkb).row8 hDb hDl (by omega)))
            refine (fun hHeld => hK _ _ hHeld ?_) (trivial)
            clear hK
            try simp only [Act.put, List.setIfInBounds_toArray, List.set_cons_zero, List.set_cons_succ]
            refine onlyL (i := 3) rfl (by kernel_rfl) (fun K hK => ?_)
            go_simp
            refine (shaSum_walk hM (by simp; omega)).mono ?_
            rintro e wT ⟨rfl, hkT⟩
            rw [show [OU, D].flatten = OU ++ D by simp]
            have hkST := hkb.trans hkT
            have hbRT := hbRS.keep0 hkST
            have hKT := hKS.trans hkST
            have hRl : (byteV (digest (OU ++ D))).length = 32 := by rw [byteV_len, digest_len]
            have hRo := byteV_one (digest (OU ++ D))
            clear hM hkb hkT hkST hbRS hbOS
            have hmm := HMM.out
            generalize digest (OU ++ D) = R at *
            refine (fun hHeld => hK _ _ hHeld ?_) (trivial)
            clear hK
            try simp only [Act.put, List.setIfInBounds_toArray, List.set_cons_zero, List.set_cons_succ]
            refine onlyL (i := 4) rfl (by kernel_rfl) (fun K hK => ?_)
            refine step_store rfl 36 _ _ rfl w.heap.size rfl (byteV R) rfl hbRT (by rw [hRl, HZ32.out]) (by rw [hRl]; exact Tryd.infoH) hRo ?_
            intro wU hbU hkU _
            refine (fun hHeld => hK _ _ hHeld ?_) (trivial)
            clear hK
            try simp only [Act.put, List.setIfInBounds_toArray, List.set_cons_zero, List.set_cons_succ]
            refine wpAnyH_done (by kernel_rfl) ?_ _
            go_wp2_with fail
            refine ret_blk Tryd.results18 w.heap.size rfl hbU _ Tryd.undH rfl (by rw [hRl]; exact Tryd.infoH) rfl ⟨by rw [hmm], hKT.step hkU (fun i hi => .inr (by rw [show i = w.heap.size from hi]; exact Nat.le_refl _))⟩
end Go.Proofs.YtnkahfpinkgimaaDoor
