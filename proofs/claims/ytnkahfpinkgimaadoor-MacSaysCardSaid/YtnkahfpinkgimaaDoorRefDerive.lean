/-
  courierref1.Derive: the document's keys derived.
-/
import Derived.Test.YtnkahfpinkgimaaDoorRefMac
import Derived.Test.YtnkahfpinkgimaaDoorMacDerive
namespace Go.Proofs.YtnkahfpinkgimaaDoor
set_option linter.unusedSimpArgs false
set_option linter.unusedVariables false
open Go.RowKit

/-- n bytes that are derived. -/
def RefDerPost (w : World) (n : Nat) (l : List Int) (e : Ending) (w' : World) : Prop :=
  ∃ a cap, e = .returned (.tuple #[.slice a n cap, .bool true]) ∧ Row .u8 w' a n l ∧ Keeps Nil w w' ∧ n ≤ cap
theorem bytes_cons (l : List Int) (x : Int) : byteV l ++ [Value.int .u8 x] = byteV (l ++ [x]) := by simp [byteV]

def IsNot (a : Option Addr) (c g : Nat) : Prop := ∀ k, midOf a c k → k ≠ g
set_option maxRecDepth 20000 in
set_option maxHeartbeats 6400000 in
theorem refDerive_walk {w : World} {sa ka ia : Option Addr} {sn sc kn kc im ic : Nat} {salt key info : List Int} (hs : PieceOk w (sa, sn, sc, salt)) (hkey : PieceOk w (ka, kn, kc, key)) (hinf : PieceOk w (ia, im, ic, info)) (bs : sn ≤ 1000) (bk : kn ≤ 1000) (bi : im ≤ 1000) {n : Nat} (hn : n ≤ 8160) :
    Calls Tryd.prog 14 #[.slice sa sn sc, .slice ka kn kc, .slice ia im ic, .int .i64 n] w (RefDerPost w n (deriveL salt key info n)) := by
  have hzv := Tryd.zeroH32
  have HZ32 := Lib.hid (show (byteV z32).length = 32 by rw [byteV_len, z32_len])
  generalize byteV z32 = Z at *
  have hsl : salt.length = sn := hs.1.llen
  by_cases h0 : sn = 0
  · subst h0
    have hse : salt = [] := List.eq_nil_of_length_eq_zero hsl
    clear hs hsl
    go_enter Tryd.func14, Tryd.ntmps14
    go_wp2_with (at_make; refine wpl_make rfl _ _ 27 rfl 5 (.int .u8 0) 1 Tryd.underlying27 Tryd.info8 rfl .i64 .i64 32 32 _ _ rfl rfl rfl rfl (by omega) (by omega) (by unfold maxLen; omega) ?_)
    intro wP hownP hbP hKP
    have hsP : PieceOk wP (some ⟨w.heap.size, 0, none⟩, 32, 32, List.replicate 32 0) := PieceOk.some (Own.row (l := List.replicate 32 0) (by simpa using hownP) (areB_wf (areB_zeros 32)))
    clear hownP hbP
    -- wP : the salt row hsP : PieceOk wP (sa, 32, sc, (List.replicate 32 0)); wP from w: hKP
    have hkl : key.length = kn := hkey.1.llen
    have HM := Lib.hid (refMac_walk (n := 32) (cap := 32) (m := kn) (cm := kc) hsP.1 (hkey.keep hKP).1 (hkey.keep hKP).2 (by omega) (by omega))
    go_wp2_with fail
    refine HM.out.mono ?_
    rintro e w1 ⟨rfl, hk1⟩
    have hK1 := hKP.trans hk1
    have hb := Blk.new w1 Z 36
    have hka := (Keeps.refl Nil w1).alloc (.cells Z.toArray 36)
    have hrl := macL_len (List.replicate 32 0) key
    have hrb := macL_bytes (List.replicate 32 0) key
    have hrv : (byteV (macL (List.replicate 32 0) key)).length = 32 := by rw [byteV_len, hrl]
    have HD := Lib.hid (show deriveL salt key info n = (outL (macL (List.replicate 32 0) key) info ((n + 31) / 32)).take n from (by rw [macL_zeros, ← hse]; rfl))
    clear HM hk1 hsP
    generalize macL (List.replicate 32 0) key = root at *
    go_wp2_with (refine wpl_store rfl 36 _ _ rfl w1.heap.size rfl (byteV root) rfl hb (by rw [hrv, HZ32.out]) (by rw [hrv]; exact Tryd.infoH) (byteV_one root) ?_)
    intro wR hbR hkR hsR
    have hKR : Keeps Nil w wR := (hK1.trans hka).step hkR (fun i hi => .inr (by rw [show i = w1.heap.size from hi]; exact hK1.size))
    have hiR := hinf.keep hKR
    have hlR := hbR.lt
    clear hb hka hkR hsR hK1
    generalize w1.heap.size = gr at *
    have HG := Lib.hid (show DerGo wR gr root info 0 none 0 none 0 0 wR from ⟨Own.nil _ _ _, PieceOk.none _, Keeps.refl _ _, fun k hk => (blkOf_none k hk).elim, fun k hk => (blkOf_none k hk).elim⟩)
    go_wp2_with fail
    go_loopw [11, 12, 13] (fun o l v wr => ∃ (i : Nat) (a : Option Addr) (cap : Nat) (la : Option Addr) (ln lc : Nat), 32 * i < n + 32 ∧ o = .slice a (32 * i) cap ∧ l = .slice la ln lc ∧ v = .int .i64 ((i + 1 : Nat) : Int) ∧ Hid (DerGo wR gr root info i a cap la ln lc wr)) (fun _ _ v _ => 300 - (intOf v).toNat)
    case atStart => exact ⟨0, none, 0, none, 0, 0, by omega, rfl, rfl, rfl, HG.out⟩
    case round =>
      obtain ⟨i, a, cap, la, ln, lc, hi, rfl, rfl, rfl, hGo⟩ := hrel
      clear HG
      obtain ⟨hout, hlast, hkr, hfr, hap⟩ := hGo.out
      by_cases hin' : 32 * i < n
      · have hx : 0 ≤ ((i + 1 : Nat) : Int) ∧ ((i + 1 : Nat) : Int) < 256 := by omega
        have hon := outL_succ root info i
        have hst := stepL_len root info i
        have hsb := stepL_bytes root info (i + 1)
        have hlle : (stepL root info i).length ≤ 32 := stepL_le root info i
        have hlnl : ln ≤ 32 := by have : (stepL root info i).length = ln := hlast.1.llen; omega
        have HXE := Lib.hid (show macL root (stepL root info i ++ info ++ [(i : Int) + 1]) = stepL root info (i + 1) by rw [stepL_succ, Int.emod_eq_of_lt hx.1 hx.2]; rfl)
        have HMB := Lib.hid (show AreB (stepL root info i ++ info ++ [(i : Int) + 1]) from areB_append (areB_append (stepL_bytes root info i) hinf.1.bytes) (fun x hx' => by rw [List.mem_singleton.1 hx']; omega))
        have hDv : (byteV (stepL root info (i + 1))).length = 32 := by rw [byteV_len, hst]
        have HON := Lib.hid hon
        have HIM := Lib.hid (And.intro bi hlle)
        have hpr := hbR.keep0 hkr
        have hls := hlast
        have hin := hiR.keep hkr
        clear hon hGo
        generalize hDD : stepL root info (i + 1) = D at *
        have HDD := Lib.hid hDD
        clear hDD
        generalize hTT : stepL root info i = T at *
        have HIM : Hid (im ≤ 1000 ∧ T.length ≤ 32) := HIM
        clear hTT
        go_wp2_with fail
        refine wp_region_held_drew (S := fun _ => True) (by kernel_rfl) trivial (fun hHeld => ?_)
        have hpl := hrl
        have hpb := hrb
        have hKB : Keeps Nil wr wr.drew := (Keeps.refl Nil wr).drew
        replace hKB : Keeps Nil wr.drew wr.drew := Keeps.refl _ _
        replace hpr := hpr.drew
        replace hls := hls.keep ((Keeps.refl Nil wr).drew)
        replace hin := hin.keep ((Keeps.refl Nil wr).drew)
        have hkd : Keeps Nil wr wr.drew := (Keeps.refl Nil wr).drew
        generalize wr.drew = v0 at *
        have hw8 : IntKind.u8.wrap ((i : Int) + 1) = (i : Int) + 1 := by rw [IntKind.wrap_u8]; omega
        refine takeL (i := 0) (v := _) rfl (by kernel_rfl) (by kernel_rfl) (by kernel_rfl) (fun _ _ _ h => h) (Or.inl ⟨by rfl, by intro w hSw; (try dsimp only at hSw); go_simp; try with_reducible rfl⟩) (by assumption) ?_
        try simp only [Act.put, List.setIfInBounds_toArray, List.set_cons_zero, List.set_cons_succ]
        refine takeL (i := 1) (v := _) rfl (by kernel_rfl) (by kernel_rfl) (by kernel_rfl) (fun _ _ _ h => h) (Or.inl ⟨by rfl, by intro w hSw; (try dsimp only at hSw); go_simp; try with_reducible rfl⟩) (by assumption) ?_
        try simp only [Act.put, List.setIfInBounds_toArray, List.set_cons_zero, List.set_cons_succ]
        refine takeL (i := 3) (v := _) rfl (by kernel_rfl) (by kernel_rfl) (by kernel_rfl) (fun _ _ _ h => h) (Or.inl ⟨by rfl, by intro w hSw; (try dsimp only at hSw); go_simp; try with_reducible rfl⟩) (by assumption) ?_
        try simp only [Act.put, List.setIfInBounds_toArray, List.set_cons_zero, List.set_cons_succ]
        refine takeL (i := 5) (v := _) rfl (by kernel_rfl) (by kernel_rfl) (by kernel_rfl) (fun _ _ _ h => h) (Or.inl ⟨by rfl, by intro w hSw; (try dsimp only at hSw); go_simp; try with_reducible rfl⟩) (by assumption) ?_
        try simp only [Act.put, List.setIfInBounds_toArray, List.set_cons_zero, List.set_cons_succ]
        refine takeL (i := 6) (v := _) rfl (by kernel_rfl) (by kernel_rfl) (by kernel_rfl) (fun _ _ _ h => h) (Or.inl ⟨by rfl, by intro w hSw; (try dsimp only at hSw); go_simp; try with_reducible rfl⟩) (by assumption) ?_
        try simp only [Act.put, List.setIfInBounds_toArray, List.set_cons_zero, List.set_cons_succ]
        clear hw8
        refine threeL (i := 2) (j := 7) (k := 10) rfl rfl rfl (by kernel_rfl) (fun K hK => ?_) (fun K hK => ?_) (fun K hK => ?_)
        · skip
          go_simp
          refine (refBytes_walk (len := ln) (cap := lc) ((hls.keep hKB).1) (by omega)).mono ?_
          rintro e w2 ⟨a2, c2, rfl, ho2, qk, hf2⟩
          have hoc := ho2.mid
          have hfc : ∀ k, midOf a2 c2 k → v0.heap.size ≤ k := fun k hk => Nat.le_trans hKB.size (hf2 k hk.2)
          try (have hs7 : IsNot a2 c2 g7 := fun k hk e => by have := hf2 k hk.2; have := h7.lt; omega)
          try (have hs10 : IsNot a2 c2 g10 := fun k hk e => by have := hf2 k hk.2; have := h10.lt; omega)
          clear ho2 hf2
          refine (fun hHeld => hK _ _ hHeld ?_) (trivial)
          clear hK
          try simp only [Act.put, List.setIfInBounds_toArray, List.set_cons_zero, List.set_cons_succ]
          replace hKB := hKB.trans qk
          refine threeL (i := 4) (j := 7) (k := 10) rfl rfl rfl (by kernel_rfl) (fun K hK => ?_) (fun K hK => ?_) (fun K hK => ?_)
          · skip
            refine step_appendM rfl _ _ 27 rfl 5 Tryd.underlying27 Tryd.info8s _ _ _ _ rfl hoc ia im ic info rfl ((hin.keep hKB).1.src (hin.keep hKB).2) (by have := HIM.out; omega) ?_
            intro xa4 xc4 w4 hoA hkA hfA hzA
            clear hzA
            have hszc := hKB.size
            replace hKB := hKB.step hkA (fun i hi => .inr (hfc i hi))
            replace hfc : ∀ k, midOf xa4 xc4 k → v0.heap.size ≤ k := fun k hk => (hfA k hk).elim (fun h => hfc k h) (fun h => Nat.le_trans hszc h)
            try (have hs7' : IsNot xa4 xc4 g7 := fun k hk e => (hfA k hk).elim (fun h => hs7 k h e) (fun h => by have := h7.lt; omega))
            try (replace h7 := h7.keep hkA (fun e => hs7 g7 e rfl))
            try (replace hs7 := hs7'; clear hs7')
            try (have hs10' : IsNot xa4 xc4 g10 := fun k hk e => (hfA k hk).elim (fun h => hs10 k h e) (fun h => by have := h10.lt; omega))
            try (replace h10 := h10.keep hkA (fun e => hs10 g10 e rfl))
            try (replace hs10 := hs10'; clear hs10')
            replace hoc := hoA
            clear hoA hkA hfA hszc
            refine (fun hHeld => hK _ _ hHeld ?_) (trivial)
            clear hK
            try simp only [Act.put, List.setIfInBounds_toArray, List.set_cons_zero, List.set_cons_succ]
            refine bothL (i := 7) (j := 10) rfl rfl (by kernel_rfl) (fun K hK => ?_) (fun K hK => ?_)
            · skip
              refine step_bsK rfl _ 5 1 _ rfl [.int .u8 ((i : Int) + 1)] Tryd.underlying27 Tryd.bs8 rfl (by decide) (by decide) (by simp [Act.eval]) (by simp [Value.cells]) ?_
              intro g7 w7 hg7 h7 qk
              try (have hs7 : IsNot _ _ g7 := fun k hk e => by have := hoc.lt k hk; omega)
              clear hg7
              refine (fun hHeld => hK _ _ hHeld ?_) (trivial)
              clear hK
              try simp only [Act.put, List.setIfInBounds_toArray, List.set_cons_zero, List.set_cons_succ]
              replace hKB := hKB.trans qk
              replace hoc := hoc.keep0 qk
              refine bothL (i := 8) (j := 10) rfl rfl (by kernel_rfl) (fun K hK => ?_) (fun K hK => ?_)
              · skip
                refine step_appendM rfl _ _ 27 rfl 5 Tryd.underlying27 Tryd.info8s _ _ _ _ rfl hoc (some ⟨g7, 0, none⟩) 1 1 [(i : Int) + 1] rfl (Src.one h7 rfl) (by have := HIM.out; omega) ?_
                intro xa8 xc8 w8 hoA hkA hfA hzA
                clear hzA
                have hszc := hKB.size
                replace hKB := hKB.step hkA (fun i hi => .inr (hfc i hi))
                replace hfc : ∀ k, midOf xa8 xc8 k → v0.heap.size ≤ k := fun k hk => (hfA k hk).elim (fun h => hfc k h) (fun h => Nat.le_trans hszc h)
                try (have hs7' : IsNot xa8 xc8 g7 := fun k hk e => (hfA k hk).elim (fun h => hs7 k h e) (fun h => by have := h7.lt; omega))
                try (replace h7 := h7.keep hkA (fun e => hs7 g7 e rfl))
                try (replace hs7 := hs7'; clear hs7')
                try (have hs10' : IsNot xa8 xc8 g10 := fun k hk e => (hfA k hk).elim (fun h => hs10 k h e) (fun h => by have := h10.lt; omega))
                try (replace h10 := h10.keep hkA (fun e => hs10 g10 e rfl))
                try (replace hs10 := hs10'; clear hs10')
                replace hoc := hoA
                clear hoA hkA hfA hszc
                clear h7 hs7
                refine (fun hHeld => hK _ _ hHeld ?_) (trivial)
                clear hK
                try simp only [Act.put, List.setIfInBounds_toArray, List.set_cons_zero, List.set_cons_succ]
                refine bothL (i := 9) (j := 10) rfl rfl (by kernel_rfl) (fun K hK => ?_) (fun K hK => ?_)
                · skip
                  go_simp
                  refine (refMac_walk (cap := 32) ((hpr.keep0 hKB).row8 hpb hpl (by omega)) (hoc.row (areB_wf HMB.out)) (fun h => by have h1 := hoc.nil h; have h2 := hoc.le; exact ⟨h1, by omega⟩) (by omega) (by have := HIM.out; omega)).mono ?_
                  rintro e w9 ⟨rfl, qk⟩
                  rw [HXE.out]
                  clear hoc hfc
                  try clear hs10
                  refine (fun hHeld => hK _ _ hHeld ?_) (trivial)
                  clear hK
                  try simp only [Act.put, List.setIfInBounds_toArray, List.set_cons_zero, List.set_cons_succ]
                  replace hKB := hKB.trans qk
                  refine onlyL (i := 10) rfl (by kernel_rfl) (fun K hK => ?_)
                  refine step_allocK rfl 36 rfl Z hzv ?_
                  intro g10 w10 hg10 h10 qk
                  try (have hs10 : IsNot _ _ g10 := fun k hk e => by have := hoc.lt k hk; omega)
                  have hg10' : v0.heap.size ≤ g10 := by have := hKB.size; omega
                  clear hg10
                  refine (fun hHeld => hK _ _ hHeld ?_) (trivial)
                  clear hK
                  try simp only [Act.put, List.setIfInBounds_toArray, List.set_cons_zero, List.set_cons_succ]
                  replace hKB := hKB.trans qk
                  refine onlyL (i := 11) rfl (by kernel_rfl) (fun K hK => ?_)
                  refine step_store rfl 36 _ _ rfl g10 rfl (byteV D) rfl h10 (by rw [hDv, HZ32.out]) (by rw [hDv]; exact Tryd.infoH) (byteV_one _) ?_
                  intro w11 hb11 hk11 hs11
                  clear hs11
                  replace hKB := hKB.step hk11 (fun i hi => .inr (by rw [show i = g10 from hi]; exact hg10'))
                  refine (fun hHeld => hK _ _ hHeld ?_) (trivial)
                  clear hK
                  try simp only [Act.put, List.setIfInBounds_toArray, List.set_cons_zero, List.set_cons_succ]
                  refine wpAnyH_done (by kernel_rfl) ?_ _
                  clear hpr hls hin hHeld
                  have HSZ := Lib.hid (show wr.heap.size ≤ w11.heap.size from (hkd.trans hKB).size)
                  have HLO := Lib.hid hout.lt
                  have HB := Lib.hid (refBytes_walk (cap := 32) (hb11.row8 hsb hst (by omega)) (by omega))
                  clear hb11
                  go_wp2_with fail
                  refine HB.out.mono ?_
                  rintro e w12 ⟨a12, c12, rfl, ho12, hk12, hf12⟩
                  rw [hst] at ho12 ⊢
                  have hKc := (hkd.trans hKB).trans hk12
                  have hout12 := hout.keep0 hKc
                  have hkR12 := hkr.trans hKc
                  have hr12 := ho12.row (areB_wf hsb)
                  have hn12 : a12 = none → c12 = 0 ∧ 32 = 0 := fun h => by have := ho12.nilB h; omega
                  have hna : ∀ k, blkOf a12 k → ¬ blkOf a k := fun k hk hk' => by have h1 := hf12 k hk; have h2 := HLO.out k hk'; have h3 := HSZ.out; omega
                  have hf12' : ∀ k, blkOf a12 k → k < w12.heap.size := ho12.lt
                  clear HB hk12 hf12 hKc hKB hout hkr hkd ho12
                  go_wp2_with (at_builtin; refine wpl_append rfl _ _ 27 rfl 5 1 1 Tryd.underlying27 Tryd.info8s (by omega) a cap (32 * i) _ rfl hout12 _ 32 c12 (byteV D) rfl (hr12.src hn12) (by unfold maxLen; omega) (by omega) ?_)
                  intro a6 cap6 w6 ho6 hk6 hf6 _
                  rw [byteV_append, ← HON.out] at ho6
                  have hG6 : DerGo wR gr root info (i + 1) a6 cap6 a12 32 c12 w6 := by
                    refine ⟨ho6, ?_, hkR12.step hk6 (fun k hk => .inr (hfr k hk)), fun k hk => ?_, fun k hk hk' => ?_⟩
                    · rw [HDD.out]
                      exact ⟨hr12.keepF hk6 (fun _ k hk hk' => hna k hk hk'), hn12⟩
                    · rcases hf6 k hk with h | h
                      · exact hfr k h
                      · rw [h]; exact hkR12.size
                    · rcases hf6 k hk' with h | h
                      · exact hna k hk h
                      · have := hf12' k hk; omega
                  clear ho6 hk6 hf6 hout12 hr12 hkR12 hn12 hna hf12'
                  go_wp2_with fail
                  go_roundw
                  case rel => first | exact ⟨i + 1, a6, cap6, _, _, _, by omega, by rw [show 32 * (i + 1) = 32 * i + 32 by omega], rfl, by go_num, hG6⟩ | ((repeat apply Exists.intro); exact ⟨⟨i + 1, a6, cap6, _, _, _, by omega, by rw [show 32 * (i + 1) = 32 * i + 32 by omega], rfl, by go_num, hG6⟩, rfl⟩)
                  case measure => simp [intOf]; omega
                · skip
                  refine step_allocK rfl 36 rfl Z hzv ?_
                  intro g10 w10 hg10 h10 qk
                  try (have hs10 : IsNot _ _ g10 := fun k hk e => by have := hoc.lt k hk; omega)
                  have hg10' : v0.heap.size ≤ g10 := by have := hKB.size; omega
                  clear hg10
                  refine (fun hHeld => hK _ _ hHeld ?_) (trivial)
                  clear hK
                  try simp only [Act.put, List.setIfInBounds_toArray, List.set_cons_zero, List.set_cons_succ]
                  replace hKB := hKB.trans qk
                  replace hoc := hoc.keep0 qk
                  refine onlyL (i := 9) rfl (by kernel_rfl) (fun K hK => ?_)
                  go_simp
                  refine (refMac_walk (cap := 32) ((hpr.keep0 hKB).row8 hpb hpl (by omega)) (hoc.row (areB_wf HMB.out)) (fun h => by have h1 := hoc.nil h; have h2 := hoc.le; exact ⟨h1, by omega⟩) (by omega) (by have := HIM.out; omega)).mono ?_
                  rintro e w9 ⟨rfl, qk⟩
                  rw [HXE.out]
                  clear hoc hfc
                  try clear hs10
                  refine (fun hHeld => hK _ _ hHeld ?_) (trivial)
                  clear hK
                  try simp only [Act.put, List.setIfInBounds_toArray, List.set_cons_zero, List.set_cons_succ]
                  replace hKB := hKB.trans qk
                  replace h10 := h10.keep0 qk
                  refine onlyL (i := 11) rfl (by kernel_rfl) (fun K hK => ?_)
                  refine step_store rfl 36 _ _ rfl g10 rfl (byteV D) rfl h10 (by rw [hDv, HZ32.out]) (by rw [hDv]; exact Tryd.infoH) (byteV_one _) ?_
                  intro w11 hb11 hk11 hs11
                  clear hs11
                  replace hKB := hKB.step hk11 (fun i hi => .inr (by rw [show i = g10 from hi]; exact hg10'))
                  refine (fun hHeld => hK _ _ hHeld ?_) (trivial)
                  clear hK
                  try simp only [Act.put, List.setIfInBounds_toArray, List.set_cons_zero, List.set_cons_succ]
                  refine wpAnyH_done (by kernel_rfl) ?_ _
                  clear hpr hls hin hHeld
                  have HSZ := Lib.hid (show wr.heap.size ≤ w11.heap.size from (hkd.trans hKB).size)
                  have HLO := Lib.hid hout.lt
                  have HB := Lib.hid (refBytes_walk (cap := 32) (hb11.row8 hsb hst (by omega)) (by omega))
                  clear hb11
                  go_wp2_with fail
                  refine HB.out.mono ?_
                  rintro e w12 ⟨a12, c12, rfl, ho12, hk12, hf12⟩
                  rw [hst] at ho12 ⊢
                  have hKc := (hkd.trans hKB).trans hk12
                  have hout12 := hout.keep0 hKc
                  have hkR12 := hkr.trans hKc
                  have hr12 := ho12.row (areB_wf hsb)
                  have hn12 : a12 = none → c12 = 0 ∧ 32 = 0 := fun h => by have := ho12.nilB h; omega
                  have hna : ∀ k, blkOf a12 k → ¬ blkOf a k := fun k hk hk' => by have h1 := hf12 k hk; have h2 := HLO.out k hk'; have h3 := HSZ.out; omega
                  have hf12' : ∀ k, blkOf a12 k → k < w12.heap.size := ho12.lt
                  clear HB hk12 hf12 hKc hKB hout hkr hkd ho12
                  go_wp2_with (at_builtin; refine wpl_append rfl _ _ 27 rfl 5 1 1 Tryd.underlying27 Tryd.info8s (by omega) a cap (32 * i) _ rfl hout12 _ 32 c12 (byteV D) rfl (hr12.src hn12) (by unfold maxLen; omega) (by omega) ?_)
                  intro a6 cap6 w6 ho6 hk6 hf6 _
                  rw [byteV_append, ← HON.out] at ho6
                  have hG6 : DerGo wR gr root info (i + 1) a6 cap6 a12 32 c12 w6 := by
                    refine ⟨ho6, ?_, hkR12.step hk6 (fun k hk => .inr (hfr k hk)), fun k hk => ?_, fun k hk hk' => ?_⟩
                    · rw [HDD.out]
                      exact ⟨hr12.keepF hk6 (fun _ k hk hk' => hna k hk hk'), hn12⟩
                    · rcases hf6 k hk with h | h
                      · exact hfr k h
                      · rw [h]; exact hkR12.size
                    · rcases hf6 k hk' with h | h
                      · exact hna k hk h
                      · have := hf12' k hk; omega
                  clear ho6 hk6 hf6 hout12 hr12 hkR12 hn12 hna hf12'
                  go_wp2_with fail
                  go_roundw
                  case rel => first | exact ⟨i + 1, a6, cap6, _, _, _, by omega, by rw [show 32 * (i + 1) = 32 * i + 32 by omega], rfl, by go_num, hG6⟩ | ((repeat apply Exists.intro); exact ⟨⟨i + 1, a6, cap6, _, _, _, by omega, by rw [show 32 * (i + 1) = 32 * i + 32 by omega], rfl, by go_num, hG6⟩, rfl⟩)
                  case measure => simp [intOf]; omega
              · skip
                refine step_allocK rfl 36 rfl Z hzv ?_
                intro g10 w10 hg10 h10 qk
                try (have hs10 : IsNot _ _ g10 := fun k hk e => by have := hoc.lt k hk; omega)
                have hg10' : v0.heap.size ≤ g10 := by have := hKB.size; omega
                clear hg10
                refine (fun hHeld => hK _ _ hHeld ?_) (trivial)
                clear hK
                try simp only [Act.put, List.setIfInBounds_toArray, List.set_cons_zero, List.set_cons_succ]
                replace hKB := hKB.trans qk
                replace hoc := hoc.keep0 qk
                replace h7 := h7.keep0 qk
                refine onlyL (i := 8) rfl (by kernel_rfl) (fun K hK => ?_)
                refine step_appendM rfl _ _ 27 rfl 5 Tryd.underlying27 Tryd.info8s _ _ _ _ rfl hoc (some ⟨g7, 0, none⟩) 1 1 [(i : Int) + 1] rfl (Src.one h7 rfl) (by have := HIM.out; omega) ?_
                intro xa8 xc8 w8 hoA hkA hfA hzA
                clear hzA
                have hszc := hKB.size
                replace hKB := hKB.step hkA (fun i hi => .inr (hfc i hi))
                replace hfc : ∀ k, midOf xa8 xc8 k → v0.heap.size ≤ k := fun k hk => (hfA k hk).elim (fun h => hfc k h) (fun h => Nat.le_trans hszc h)
                try (have hs7' : IsNot xa8 xc8 g7 := fun k hk e => (hfA k hk).elim (fun h => hs7 k h e) (fun h => by have := h7.lt; omega))
                try (replace h7 := h7.keep hkA (fun e => hs7 g7 e rfl))
                try (replace hs7 := hs7'; clear hs7')
                try (have hs10' : IsNot xa8 xc8 g10 := fun k hk e => (hfA k hk).elim (fun h => hs10 k h e) (fun h => by have := h10.lt; omega))
                try (replace h10 := h10.keep hkA (fun e => hs10 g10 e rfl))
                try (replace hs10 := hs10'; clear hs10')
                replace hoc := hoA
                clear hoA hkA hfA hszc
                clear h7 hs7
                refine (fun hHeld => hK _ _ hHeld ?_) (trivial)
                clear hK
                try simp only [Act.put, List.setIfInBounds_toArray, List.set_cons_zero, List.set_cons_succ]
                refine onlyL (i := 9) rfl (by kernel_rfl) (fun K hK => ?_)
                go_simp
                refine (refMac_walk (cap := 32) ((hpr.keep0 hKB).row8 hpb hpl (by omega)) (hoc.row (areB_wf HMB.out)) (fun h => by have h1 := hoc.nil h; have h2 := hoc.le; exact ⟨h1, by omega⟩) (by omega) (by have := HIM.out; omega)).mono ?_
                rintro e w9 ⟨rfl, qk⟩
                rw [HXE.out]
                clear hoc hfc
                try clear hs10
                refine (fun hHeld => hK _ _ hHeld ?_) (trivial)
                clear hK
                try simp only [Act.put, List.setIfInBounds_toArray, List.set_cons_zero, List.set_cons_succ]
                replace hKB := hKB.trans qk
                replace h10 := h10.keep0 qk
                refine onlyL (i := 11) rfl (by kernel_rfl) (fun K hK => ?_)
                refine step_store rfl 36 _ _ rfl g10 rfl (byteV D) rfl h10 (by rw [hDv, HZ32.out]) (by rw [hDv]; exact Tryd.infoH) (byteV_one _) ?_
                intro w11 hb11 hk11 hs11
                clear hs11
                replace hKB := hKB.step hk11 (fun i hi => .inr (by rw [show i = g10 from hi]; exact hg10'))
                refine (fun hHeld => hK _ _ hHeld ?_) (trivial)
                clear hK
                try simp only [Act.put, List.setIfInBounds_toArray, List.set_cons_zero, List.set_cons_succ]
                refine wpAnyH_done (by kernel_rfl) ?_ _
                clear hpr hls hin hHeld
                have HSZ := Lib.hid (show wr.heap.size ≤ w11.heap.size from (hkd.trans hKB).size)
                have HLO := Lib.hid hout.lt
                have HB := Lib.hid (refBytes_walk (cap := 32) (hb11.row8 hsb hst (by omega)) (by omega))
                clear hb11
                go_wp2_with fail
                refine HB.out.mono ?_
                rintro e w12 ⟨a12, c12, rfl, ho12, hk12, hf12⟩
                rw [hst] at ho12 ⊢
                have hKc := (hkd.trans hKB).trans hk12
                have hout12 := hout.keep0 hKc
                have hkR12 := hkr.trans hKc
                have hr12 := ho12.row (areB_wf hsb)
                have hn12 : a12 = none → c12 = 0 ∧ 32 = 0 := fun h => by have := ho12.nilB h; omega
                have hna : ∀ k, blkOf a12 k → ¬ blkOf a k := fun k hk hk' => by have h1 := hf12 k hk; have h2 := HLO.out k hk'; have h3 := HSZ.out; omega
                have hf12' : ∀ k, blkOf a12 k → k < w12.heap.size := ho12.lt
                clear HB hk12 hf12 hKc hKB hout hkr hkd ho12
                go_wp2_with (at_builtin; refine wpl_append rfl _ _ 27 rfl 5 1 1 Tryd.underlying27 Tryd.info8s (by omega) a cap (32 * i) _ rfl hout12 _ 32 c12 (byteV D) rfl (hr12.src hn12) (by unfold maxLen; omega) (by omega) ?_)
                intro a6 cap6 w6 ho6 hk6 hf6 _
                rw [byteV_append, ← HON.out] at ho6
                have hG6 : DerGo wR gr root info (i + 1) a6 cap6 a12 32 c12 w6 := by
                  refine ⟨ho6, ?_, hkR12.step hk6 (fun k hk => .inr (hfr k hk)), fun k hk => ?_, fun k hk hk' => ?_⟩
                  · rw [HDD.out]
                    exact ⟨hr12.keepF hk6 (fun _ k hk hk' => hna k hk hk'), hn12⟩
                  · rcases hf6 k hk with h | h
                    · exact hfr k h
                    · rw [h]; exact hkR12.size
                  · rcases hf6 k hk' with h | h
                    · exact hna k hk h
                    · have := hf12' k hk; omega
                clear ho6 hk6 hf6 hout12 hr12 hkR12 hn12 hna hf12'
                go_wp2_with fail
                go_roundw
                case rel => first | exact ⟨i + 1, a6, cap6, _, _, _, by omega, by rw [show 32 * (i + 1) = 32 * i + 32 by omega], rfl, by go_num, hG6⟩ | ((repeat apply Exists.intro); exact ⟨⟨i + 1, a6, cap6, _, _, _, by omega, by rw [show 32 * (i + 1) = 32 * i + 32 by omega], rfl, by go_num, hG6⟩, rfl⟩)
                case measure => simp [intOf]; omega
            · skip
              refine step_allocK rfl 36 rfl Z hzv ?_
              intro g10 w10 hg10 h10 qk
              try (have hs10 : IsNot _ _ g10 := fun k hk e => by have := hoc.lt k hk; omega)
              have hg10' : v0.heap.size ≤ g10 := by have := hKB.size; omega
              clear hg10
              refine (fun hHeld => hK _ _ hHeld ?_) (trivial)
              clear hK
              try simp only [Act.put, List.setIfInBounds_toArray, List.set_cons_zero, List.set_cons_succ]
              replace hKB := hKB.trans qk
              replace hoc := hoc.keep0 qk
              refine onlyL (i := 7) rfl (by kernel_rfl) (fun K hK => ?_)
              refine step_bsK rfl _ 5 1 _ rfl [.int .u8 ((i : Int) + 1)] Tryd.underlying27 Tryd.bs8 rfl (by decide) (by decide) (by simp [Act.eval]) (by simp [Value.cells]) ?_
              intro g7 w7 hg7 h7 qk
              try (have hs7 : IsNot _ _ g7 := fun k hk e => by have := hoc.lt k hk; omega)
              clear hg7
              refine (fun hHeld => hK _ _ hHeld ?_) (trivial)
              clear hK
              try simp only [Act.put, List.setIfInBounds_toArray, List.set_cons_zero, List.set_cons_succ]
              replace hKB := hKB.trans qk
              replace hoc := hoc.keep0 qk
              replace h10 := h10.keep0 qk
              refine onlyL (i := 8) rfl (by kernel_rfl) (fun K hK => ?_)
              refine step_appendM rfl _ _ 27 rfl 5 Tryd.underlying27 Tryd.info8s _ _ _ _ rfl hoc (some ⟨g7, 0, none⟩) 1 1 [(i : Int) + 1] rfl (Src.one h7 rfl) (by have := HIM.out; omega) ?_
              intro xa8 xc8 w8 hoA hkA hfA hzA
              clear hzA
              have hszc := hKB.size
              replace hKB := hKB.step hkA (fun i hi => .inr (hfc i hi))
              replace hfc : ∀ k, midOf xa8 xc8 k → v0.heap.size ≤ k := fun k hk => (hfA k hk).elim (fun h => hfc k h) (fun h => Nat.le_trans hszc h)
              try (have hs7' : IsNot xa8 xc8 g7 := fun k hk e => (hfA k hk).elim (fun h => hs7 k h e) (fun h => by have := h7.lt; omega))
              try (replace h7 := h7.keep hkA (fun e => hs7 g7 e rfl))
              try (replace hs7 := hs7'; clear hs7')
              try (have hs10' : IsNot xa8 xc8 g10 := fun k hk e => (hfA k hk).elim (fun h => hs10 k h e) (fun h => by have := h10.lt; omega))
              try (replace h10 := h10.keep hkA (fun e => hs10 g10 e rfl))
              try (replace hs10 := hs10'; clear hs10')
              replace hoc := hoA
              clear hoA hkA hfA hszc
              clear h7 hs7
              refine (fun hHeld => hK _ _ hHeld ?_) (trivial)
              clear hK
              try simp only [Act.put, List.setIfInBounds_toArray, List.set_cons_zero, List.set_cons_succ]
              refine onlyL (i := 9) rfl (by kernel_rfl) (fun K hK => ?_)
              go_simp
              refine (refMac_walk (cap := 32) ((hpr.keep0 hKB).row8 hpb hpl (by omega)) (hoc.row (areB_wf HMB.out)) (fun h => by have h1 := hoc.nil h; have h2 := hoc.le; exact ⟨h1, by omega⟩) (by omega) (by have := HIM.out; omega)).mono ?_
              rintro e w9 ⟨rfl, qk⟩
              rw [HXE.out]
              clear hoc hfc
              try clear hs10
              refine (fun hHeld => hK _ _ hHeld ?_) (trivial)
              clear hK
              try simp only [Act.put, List.setIfInBounds_toArray, List.set_cons_zero, List.set_cons_succ]
              replace hKB := hKB.trans qk
              replace h10 := h10.keep0 qk
              refine onlyL (i := 11) rfl (by kernel_rfl) (fun K hK => ?_)
              refine step_store rfl 36 _ _ rfl g10 rfl (byteV D) rfl h10 (by rw [hDv, HZ32.out]) (by rw [hDv]; exact Tryd.infoH) (byteV_one _) ?_
              intro w11 hb11 hk11 hs11
              clear hs11
              replace hKB := hKB.step hk11 (fun i hi => .inr (by rw [show i = g10 from hi]; exact hg10'))
              refine (fun hHeld => hK _ _ hHeld ?_) (trivial)
              clear hK
              try simp only [Act.put, List.setIfInBounds_toArray, List.set_cons_zero, List.set_cons_succ]
              refine wpAnyH_done (by kernel_rfl) ?_ _
              clear hpr hls hin hHeld
              have HSZ := Lib.hid (show wr.heap.size ≤ w11.heap.size from (hkd.trans hKB).size)
              have HLO := Lib.hid hout.lt
              have HB := Lib.hid (refBytes_walk (cap := 32) (hb11.row8 hsb hst (by omega)) (by omega))
              clear hb11
              go_wp2_with fail
              refine HB.out.mono ?_
              rintro e w12 ⟨a12, c12, rfl, ho12, hk12, hf12⟩
              rw [hst] at ho12 ⊢
              have hKc := (hkd.trans hKB).trans hk12
              have hout12 := hout.keep0 hKc
              have hkR12 := hkr.trans hKc
              have hr12 := ho12.row (areB_wf hsb)
              have hn12 : a12 = none → c12 = 0 ∧ 32 = 0 := fun h => by have := ho12.nilB h; omega
              have hna : ∀ k, blkOf a12 k → ¬ blkOf a k := fun k hk hk' => by have h1 := hf12 k hk; have h2 := HLO.out k hk'; have h3 := HSZ.out; omega
              have hf12' : ∀ k, blkOf a12 k → k < w12.heap.size := ho12.lt
              clear HB hk12 hf12 hKc hKB hout hkr hkd ho12
              go_wp2_with (at_builtin; refine wpl_append rfl _ _ 27 rfl 5 1 1 Tryd.underlying27 Tryd.info8s (by omega) a cap (32 * i) _ rfl hout12 _ 32 c12 (byteV D) rfl (hr12.src hn12) (by unfold maxLen; omega) (by omega) ?_)
              intro a6 cap6 w6 ho6 hk6 hf6 _
              rw [byteV_append, ← HON.out] at ho6
              have hG6 : DerGo wR gr root info (i + 1) a6 cap6 a12 32 c12 w6 := by
                refine ⟨ho6, ?_, hkR12.step hk6 (fun k hk => .inr (hfr k hk)), fun k hk => ?_, fun k hk hk' => ?_⟩
                · rw [HDD.out]
                  exact ⟨hr12.keepF hk6 (fun _ k hk hk' => hna k hk hk'), hn12⟩
                · rcases hf6 k hk with h | h
                  · exact hfr k h
                  · rw [h]; exact hkR12.size
                · rcases hf6 k hk' with h | h
                  · exact hna k hk h
                  · have := hf12' k hk; omega
              clear ho6 hk6 hf6 hout12 hr12 hkR12 hn12 hna hf12'
              go_wp2_with fail
              go_roundw
              case rel => first | exact ⟨i + 1, a6, cap6, _, _, _, by omega, by rw [show 32 * (i + 1) = 32 * i + 32 by omega], rfl, by go_num, hG6⟩ | ((repeat apply Exists.intro); exact ⟨⟨i + 1, a6, cap6, _, _, _, by omega, by rw [show 32 * (i + 1) = 32 * i + 32 by omega], rfl, by go_num, hG6⟩, rfl⟩)
              case measure => simp [intOf]; omega
          · skip
            refine step_bsK rfl _ 5 1 _ rfl [.int .u8 ((i : Int) + 1)] Tryd.underlying27 Tryd.bs8 rfl (by decide) (by decide) (by simp [Act.eval]) (by simp [Value.cells]) ?_
            intro g7 w7 hg7 h7 qk
            try (have hs7 : IsNot _ _ g7 := fun k hk e => by have := hoc.lt k hk; omega)
            clear hg7
            refine (fun hHeld => hK _ _ hHeld ?_) (trivial)
            clear hK
            try simp only [Act.put, List.setIfInBounds_toArray, List.set_cons_zero, List.set_cons_succ]
            replace hKB := hKB.trans qk
            replace hoc := hoc.keep0 qk
            refine bothL (i := 4) (j := 10) rfl rfl (by kernel_rfl) (fun K hK => ?_) (fun K hK => ?_)
            · skip
              refine step_appendM rfl _ _ 27 rfl 5 Tryd.underlying27 Tryd.info8s _ _ _ _ rfl hoc ia im ic info rfl ((hin.keep hKB).1.src (hin.keep hKB).2) (by have := HIM.out; omega) ?_
              intro xa4 xc4 w4 hoA hkA hfA hzA
              clear hzA
              have hszc := hKB.size
              replace hKB := hKB.step hkA (fun i hi => .inr (hfc i hi))
              replace hfc : ∀ k, midOf xa4 xc4 k → v0.heap.size ≤ k := fun k hk => (hfA k hk).elim (fun h => hfc k h) (fun h => Nat.le_trans hszc h)
              try (have hs7' : IsNot xa4 xc4 g7 := fun k hk e => (hfA k hk).elim (fun h => hs7 k h e) (fun h => by have := h7.lt; omega))
              try (replace h7 := h7.keep hkA (fun e => hs7 g7 e rfl))
              try (replace hs7 := hs7'; clear hs7')
              try (have hs10' : IsNot xa4 xc4 g10 := fun k hk e => (hfA k hk).elim (fun h => hs10 k h e) (fun h => by have := h10.lt; omega))
              try (replace h10 := h10.keep hkA (fun e => hs10 g10 e rfl))
              try (replace hs10 := hs10'; clear hs10')
              replace hoc := hoA
              clear hoA hkA hfA hszc
              refine (fun hHeld => hK _ _ hHeld ?_) (trivial)
              clear hK
              try simp only [Act.put, List.setIfInBounds_toArray, List.set_cons_zero, List.set_cons_succ]
              refine bothL (i := 8) (j := 10) rfl rfl (by kernel_rfl) (fun K hK => ?_) (fun K hK => ?_)
              · skip
                refine step_appendM rfl _ _ 27 rfl 5 Tryd.underlying27 Tryd.info8s _ _ _ _ rfl hoc (some ⟨g7, 0, none⟩) 1 1 [(i : Int) + 1] rfl (Src.one h7 rfl) (by have := HIM.out; omega) ?_
                intro xa8 xc8 w8 hoA hkA hfA hzA
                clear hzA
                have hszc := hKB.size
                replace hKB := hKB.step hkA (fun i hi => .inr (hfc i hi))
                replace hfc : ∀ k, midOf xa8 xc8 k → v0.heap.size ≤ k := fun k hk => (hfA k hk).elim (fun h => hfc k h) (fun h => Nat.le_trans hszc h)
                try (have hs7' : IsNot xa8 xc8 g7 := fun k hk e => (hfA k hk).elim (fun h => hs7 k h e) (fun h => by have := h7.lt; omega))
                try (replace h7 := h7.keep hkA (fun e => hs7 g7 e rfl))
                try (replace hs7 := hs7'; clear hs7')
                try (have hs10' : IsNot xa8 xc8 g10 := fun k hk e => (hfA k hk).elim (fun h => hs10 k h e) (fun h => by have := h10.lt; omega))
                try (replace h10 := h10.keep hkA (fun e => hs10 g10 e rfl))
                try (replace hs10 := hs10'; clear hs10')
                replace hoc := hoA
                clear hoA hkA hfA hszc
                clear h7 hs7
                refine (fun hHeld => hK _ _ hHeld ?_) (trivial)
                clear hK
                try simp only [Act.put, List.setIfInBounds_toArray, List.set_cons_zero, List.set_cons_succ]
                refine bothL (i := 9) (j := 10) rfl rfl (by kernel_rfl) (fun K hK => ?_) (fun K hK => ?_)
                · skip
                  go_simp
                  refine (refMac_walk (cap := 32) ((hpr.keep0 hKB).row8 hpb hpl (by omega)) (hoc.row (areB_wf HMB.out)) (fun h => by have h1 := hoc.nil h; have h2 := hoc.le; exact ⟨h1, by omega⟩) (by omega) (by have := HIM.out; omega)).mono ?_
                  rintro e w9 ⟨rfl, qk⟩
                  rw [HXE.out]
                  clear hoc hfc
                  try clear hs10
                  refine (fun hHeld => hK _ _ hHeld ?_) (trivial)
                  clear hK
                  try simp only [Act.put, List.setIfInBounds_toArray, List.set_cons_zero, List.set_cons_succ]
                  replace hKB := hKB.trans qk
                  refine onlyL (i := 10) rfl (by kernel_rfl) (fun K hK => ?_)
                  refine step_allocK rfl 36 rfl Z hzv ?_
                  intro g10 w10 hg10 h10 qk
                  try (have hs10 : IsNot _ _ g10 := fun k hk e => by have := hoc.lt k hk; omega)
                  have hg10' : v0.heap.size ≤ g10 := by have := hKB.size; omega
                  clear hg10
                  refine (fun hHeld => hK _ _ hHeld ?_) (trivial)
                  clear hK
                  try simp only [Act.put, List.setIfInBounds_toArray, List.set_cons_zero, List.set_cons_succ]
                  replace hKB := hKB.trans qk
                  refine onlyL (i := 11) rfl (by kernel_rfl) (fun K hK => ?_)
                  refine step_store rfl 36 _ _ rfl g10 rfl (byteV D) rfl h10 (by rw [hDv, HZ32.out]) (by rw [hDv]; exact Tryd.infoH) (byteV_one _) ?_
                  intro w11 hb11 hk11 hs11
                  clear hs11
                  replace hKB := hKB.step hk11 (fun i hi => .inr (by rw [show i = g10 from hi]; exact hg10'))
                  refine (fun hHeld => hK _ _ hHeld ?_) (trivial)
                  clear hK
                  try simp only [Act.put, List.setIfInBounds_toArray, List.set_cons_zero, List.set_cons_succ]
                  refine wpAnyH_done (by kernel_rfl) ?_ _
                  clear hpr hls hin hHeld
                  have HSZ := Lib.hid (show wr.heap.size ≤ w11.heap.size from (hkd.trans hKB).size)
                  have HLO := Lib.hid hout.lt
                  have HB := Lib.hid (refBytes_walk (cap := 32) (hb11.row8 hsb hst (by omega)) (by omega))
                  clear hb11
                  go_wp2_with fail
                  refine HB.out.mono ?_
                  rintro e w12 ⟨a12, c12, rfl, ho12, hk12, hf12⟩
                  rw [hst] at ho12 ⊢
                  have hKc := (hkd.trans hKB).trans hk12
                  have hout12 := hout.keep0 hKc
                  have hkR12 := hkr.trans hKc
                  have hr12 := ho12.row (areB_wf hsb)
                  have hn12 : a12 = none → c12 = 0 ∧ 32 = 0 := fun h => by have := ho12.nilB h; omega
                  have hna : ∀ k, blkOf a12 k → ¬ blkOf a k := fun k hk hk' => by have h1 := hf12 k hk; have h2 := HLO.out k hk'; have h3 := HSZ.out; omega
                  have hf12' : ∀ k, blkOf a12 k → k < w12.heap.size := ho12.lt
                  clear HB hk12 hf12 hKc hKB hout hkr hkd ho12
                  go_wp2_with (at_builtin; refine wpl_append rfl _ _ 27 rfl 5 1 1 Tryd.underlying27 Tryd.info8s (by omega) a cap (32 * i) _ rfl hout12 _ 32 c12 (byteV D) rfl (hr12.src hn12) (by unfold maxLen; omega) (by omega) ?_)
                  intro a6 cap6 w6 ho6 hk6 hf6 _
                  rw [byteV_append, ← HON.out] at ho6
                  have hG6 : DerGo wR gr root info (i + 1) a6 cap6 a12 32 c12 w6 := by
                    refine ⟨ho6, ?_, hkR12.step hk6 (fun k hk => .inr (hfr k hk)), fun k hk => ?_, fun k hk hk' => ?_⟩
                    · rw [HDD.out]
                      exact ⟨hr12.keepF hk6 (fun _ k hk hk' => hna k hk hk'), hn12⟩
                    · rcases hf6 k hk with h | h
                      · exact hfr k h
                      · rw [h]; exact hkR12.size
                    · rcases hf6 k hk' with h | h
                      · exact hna k hk h
                      · have := hf12' k hk; omega
                  clear ho6 hk6 hf6 hout12 hr12 hkR12 hn12 hna hf12'
                  go_wp2_with fail
                  go_roundw
                  case rel => first | exact ⟨i + 1, a6, cap6, _, _, _, by omega, by rw [show 32 * (i + 1) = 32 * i + 32 by omega], rfl, by go_num, hG6⟩ | ((repeat apply Exists.intro); exact ⟨⟨i + 1, a6, cap6, _, _, _, by omega, by rw [show 32 * (i + 1) = 32 * i + 32 by omega], rfl, by go_num, hG6⟩, rfl⟩)
                  case measure => simp [intOf]; omega
                · skip
                  refine step_allocK rfl 36 rfl Z hzv ?_
                  intro g10 w10 hg10 h10 qk
                  try (have hs10 : IsNot _ _ g10 := fun k hk e => by have := hoc.lt k hk; omega)
                  have hg10' : v0.heap.size ≤ g10 := by have := hKB.size; omega
                  clear hg10
                  refine (fun hHeld => hK _ _ hHeld ?_) (trivial)
                  clear hK
                  try simp only [Act.put, List.setIfInBounds_toArray, List.set_cons_zero, List.set_cons_succ]
                  replace hKB := hKB.trans qk
                  replace hoc := hoc.keep0 qk
                  refine onlyL (i := 9) rfl (by kernel_rfl) (fun K hK => ?_)
                  go_simp
                  refine (refMac_walk (cap := 32) ((hpr.keep0 hKB).row8 hpb hpl (by omega)) (hoc.row (areB_wf HMB.out)) (fun h => by have h1 := hoc.nil h; have h2 := hoc.le; exact ⟨h1, by omega⟩) (by omega) (by have := HIM.out; omega)).mono ?_
                  rintro e w9 ⟨rfl, qk⟩
                  rw [HXE.out]
                  clear hoc hfc
                  try clear hs10
                  refine (fun hHeld => hK _ _ hHeld ?_) (trivial)
                  clear hK
                  try simp only [Act.put, List.setIfInBounds_toArray, List.set_cons_zero, List.set_cons_succ]
                  replace hKB := hKB.trans qk
                  replace h10 := h10.keep0 qk
                  refine onlyL (i := 11) rfl (by kernel_rfl) (fun K hK => ?_)
                  refine step_store rfl 36 _ _ rfl g10 rfl (byteV D) rfl h10 (by rw [hDv, HZ32.out]) (by rw [hDv]; exact Tryd.infoH) (byteV_one _) ?_
                  intro w11 hb11 hk11 hs11
                  clear hs11
                  replace hKB := hKB.step hk11 (fun i hi => .inr (by rw [show i = g10 from hi]; exact hg10'))
                  refine (fun hHeld => hK _ _ hHeld ?_) (trivial)
                  clear hK
                  try simp only [Act.put, List.setIfInBounds_toArray, List.set_cons_zero, List.set_cons_succ]
                  refine wpAnyH_done (by kernel_rfl) ?_ _
                  clear hpr hls hin hHeld
                  have HSZ := Lib.hid (show wr.heap.size ≤ w11.heap.size from (hkd.trans hKB).size)
                  have HLO := Lib.hid hout.lt
                  have HB := Lib.hid (refBytes_walk (cap := 32) (hb11.row8 hsb hst (by omega)) (by omega))
                  clear hb11
                  go_wp2_with fail
                  refine HB.out.mono ?_
                  rintro e w12 ⟨a12, c12, rfl, ho12, hk12, hf12⟩
                  rw [hst] at ho12 ⊢
                  have hKc := (hkd.trans hKB).trans hk12
                  have hout12 := hout.keep0 hKc
                  have hkR12 := hkr.trans hKc
                  have hr12 := ho12.row (areB_wf hsb)
                  have hn12 : a12 = none → c12 = 0 ∧ 32 = 0 := fun h => by have := ho12.nilB h; omega
                  have hna : ∀ k, blkOf a12 k → ¬ blkOf a k := fun k hk hk' => by have h1 := hf12 k hk; have h2 := HLO.out k hk'; have h3 := HSZ.out; omega
                  have hf12' : ∀ k, blkOf a12 k → k < w12.heap.size := ho12.lt
                  clear HB hk12 hf12 hKc hKB hout hkr hkd ho12
                  go_wp2_with (at_builtin; refine wpl_append rfl _ _ 27 rfl 5 1 1 Tryd.underlying27 Tryd.info8s (by omega) a cap (32 * i) _ rfl hout12 _ 32 c12 (byteV D) rfl (hr12.src hn12) (by unfold maxLen; omega) (by omega) ?_)
                  intro a6 cap6 w6 ho6 hk6 hf6 _
                  rw [byteV_append, ← HON.out] at ho6
                  have hG6 : DerGo wR gr root info (i + 1) a6 cap6 a12 32 c12 w6 := by
                    refine ⟨ho6, ?_, hkR12.step hk6 (fun k hk => .inr (hfr k hk)), fun k hk => ?_, fun k hk hk' => ?_⟩
                    · rw [HDD.out]
                      exact ⟨hr12.keepF hk6 (fun _ k hk hk' => hna k hk hk'), hn12⟩
                    · rcases hf6 k hk with h | h
                      · exact hfr k h
                      · rw [h]; exact hkR12.size
                    · rcases hf6 k hk' with h | h
                      · exact hna k hk h
                      · have := hf12' k hk; omega
                  clear ho6 hk6 hf6 hout12 hr12 hkR12 hn12 hna hf12'
                  go_wp2_with fail
                  go_roundw
                  case rel => first | exact ⟨i + 1, a6, cap6, _, _, _, by omega, by rw [show 32 * (i + 1) = 32 * i + 32 by omega], rfl, by go_num, hG6⟩ | ((repeat apply Exists.intro); exact ⟨⟨i + 1, a6, cap6, _, _, _, by omega, by rw [show 32 * (i + 1) = 32 * i + 32 by omega], rfl, by go_num, hG6⟩, rfl⟩)
                  case measure => simp [intOf]; omega
              · skip
                refine step_allocK rfl 36 rfl Z hzv ?_
                intro g10 w10 hg10 h10 qk
                try (have hs10 : IsNot _ _ g10 := fun k hk e => by have := hoc.lt k hk; omega)
                have hg10' : v0.heap.size ≤ g10 := by have := hKB.size; omega
                clear hg10
                refine (fun hHeld => hK _ _ hHeld ?_) (trivial)
                clear hK
                try simp only [Act.put, List.setIfInBounds_toArray, List.set_cons_zero, List.set_cons_succ]
                replace hKB := hKB.trans qk
                replace hoc := hoc.keep0 qk
                replace h7 := h7.keep0 qk
                refine onlyL (i := 8) rfl (by kernel_rfl) (fun K hK => ?_)
                refine step_appendM rfl _ _ 27 rfl 5 Tryd.underlying27 Tryd.info8s _ _ _ _ rfl hoc (some ⟨g7, 0, none⟩) 1 1 [(i : Int) + 1] rfl (Src.one h7 rfl) (by have := HIM.out; omega) ?_
                intro xa8 xc8 w8 hoA hkA hfA hzA
                clear hzA
                have hszc := hKB.size
                replace hKB := hKB.step hkA (fun i hi => .inr (hfc i hi))
                replace hfc : ∀ k, midOf xa8 xc8 k → v0.heap.size ≤ k := fun k hk => (hfA k hk).elim (fun h => hfc k h) (fun h => Nat.le_trans hszc h)
                try (have hs7' : IsNot xa8 xc8 g7 := fun k hk e => (hfA k hk).elim (fun h => hs7 k h e) (fun h => by have := h7.lt; omega))
                try (replace h7 := h7.keep hkA (fun e => hs7 g7 e rfl))
                try (replace hs7 := hs7'; clear hs7')
                try (have hs10' : IsNot xa8 xc8 g10 := fun k hk e => (hfA k hk).elim (fun h => hs10 k h e) (fun h => by have := h10.lt; omega))
                try (replace h10 := h10.keep hkA (fun e => hs10 g10 e rfl))
                try (replace hs10 := hs10'; clear hs10')
                replace hoc := hoA
                clear hoA hkA hfA hszc
                clear h7 hs7
                refine (fun hHeld => hK _ _ hHeld ?_) (trivial)
                clear hK
                try simp only [Act.put, List.setIfInBounds_toArray, List.set_cons_zero, List.set_cons_succ]
                refine onlyL (i := 9) rfl (by kernel_rfl) (fun K hK => ?_)
                go_simp
                refine (refMac_walk (cap := 32) ((hpr.keep0 hKB).row8 hpb hpl (by omega)) (hoc.row (areB_wf HMB.out)) (fun h => by have h1 := hoc.nil h; have h2 := hoc.le; exact ⟨h1, by omega⟩) (by omega) (by have := HIM.out; omega)).mono ?_
                rintro e w9 ⟨rfl, qk⟩
                rw [HXE.out]
                clear hoc hfc
                try clear hs10
                refine (fun hHeld => hK _ _ hHeld ?_) (trivial)
                clear hK
                try simp only [Act.put, List.setIfInBounds_toArray, List.set_cons_zero, List.set_cons_succ]
                replace hKB := hKB.trans qk
                replace h10 := h10.keep0 qk
                refine onlyL (i := 11) rfl (by kernel_rfl) (fun K hK => ?_)
                refine step_store rfl 36 _ _ rfl g10 rfl (byteV D) rfl h10 (by rw [hDv, HZ32.out]) (by rw [hDv]; exact Tryd.infoH) (byteV_one _) ?_
                intro w11 hb11 hk11 hs11
                clear hs11
                replace hKB := hKB.step hk11 (fun i hi => .inr (by rw [show i = g10 from hi]; exact hg10'))
                refine (fun hHeld => hK _ _ hHeld ?_) (trivial)
                clear hK
                try simp only [Act.put, List.setIfInBounds_toArray, List.set_cons_zero, List.set_cons_succ]
                refine wpAnyH_done (by kernel_rfl) ?_ _
                clear hpr hls hin hHeld
                have HSZ := Lib.hid (show wr.heap.size ≤ w11.heap.size from (hkd.trans hKB).size)
                have HLO := Lib.hid hout.lt
                have HB := Lib.hid (refBytes_walk (cap := 32) (hb11.row8 hsb hst (by omega)) (by omega))
                clear hb11
                go_wp2_with fail
                refine HB.out.mono ?_
                rintro e w12 ⟨a12, c12, rfl, ho12, hk12, hf12⟩
                rw [hst] at ho12 ⊢
                have hKc := (hkd.trans hKB).trans hk12
                have hout12 := hout.keep0 hKc
                have hkR12 := hkr.trans hKc
                have hr12 := ho12.row (areB_wf hsb)
                have hn12 : a12 = none → c12 = 0 ∧ 32 = 0 := fun h => by have := ho12.nilB h; omega
                have hna : ∀ k, blkOf a12 k → ¬ blkOf a k := fun k hk hk' => by have h1 := hf12 k hk; have h2 := HLO.out k hk'; have h3 := HSZ.out; omega
                have hf12' : ∀ k, blkOf a12 k → k < w12.heap.size := ho12.lt
                clear HB hk12 hf12 hKc hKB hout hkr hkd ho12
                go_wp2_with (at_builtin; refine wpl_append rfl _ _ 27 rfl 5 1 1 Tryd.underlying27 Tryd.info8s (by omega) a cap (32 * i) _ rfl hout12 _ 32 c12 (byteV D) rfl (hr12.src hn12) (by unfold maxLen; omega) (by omega) ?_)
                intro a6 cap6 w6 ho6 hk6 hf6 _
                rw [byteV_append, ← HON.out] at ho6
                have hG6 : DerGo wR gr root info (i + 1) a6 cap6 a12 32 c12 w6 := by
                  refine ⟨ho6, ?_, hkR12.step hk6 (fun k hk => .inr (hfr k hk)), fun k hk => ?_, fun k hk hk' => ?_⟩
                  · rw [HDD.out]
                    exact ⟨hr12.keepF hk6 (fun _ k hk hk' => hna k hk hk'), hn12⟩
                  · rcases hf6 k hk with h | h
                    · exact hfr k h
                    · rw [h]; exact hkR12.size
                  · rcases hf6 k hk' with h | h
                    · exact hna k hk h
                    · have := hf12' k hk; omega
                clear ho6 hk6 hf6 hout12 hr12 hkR12 hn12 hna hf12'
                go_wp2_with fail
                go_roundw
                case rel => first | exact ⟨i + 1, a6, cap6, _, _, _, by omega, by rw [show 32 * (i + 1) = 32 * i + 32 by omega], rfl, by go_num, hG6⟩ | ((repeat apply Exists.intro); exact ⟨⟨i + 1, a6, cap6, _, _, _, by omega, by rw [show 32 * (i + 1) = 32 * i + 32 by omega], rfl, by go_num, hG6⟩, rfl⟩)
                case measure => simp [intOf]; omega
            · skip
              refine step_allocK rfl 36 rfl Z hzv ?_
              intro g10 w10 hg10 h10 qk
              try (have hs10 : IsNot _ _ g10 := fun k hk e => by have := hoc.lt k hk; omega)
              have hg10' : v0.heap.size ≤ g10 := by have := hKB.size; omega
              clear hg10
              refine (fun hHeld => hK _ _ hHeld ?_) (trivial)
              clear hK
              try simp only [Act.put, List.setIfInBounds_toArray, List.set_cons_zero, List.set_cons_succ]
              replace hKB := hKB.trans qk
              replace hoc := hoc.keep0 qk
              replace h7 := h7.keep0 qk
              refine onlyL (i := 4) rfl (by kernel_rfl) (fun K hK => ?_)
              refine step_appendM rfl _ _ 27 rfl 5 Tryd.underlying27 Tryd.info8s _ _ _ _ rfl hoc ia im ic info rfl ((hin.keep hKB).1.src (hin.keep hKB).2) (by have := HIM.out; omega) ?_
              intro xa4 xc4 w4 hoA hkA hfA hzA
              clear hzA
              have hszc := hKB.size
              replace hKB := hKB.step hkA (fun i hi => .inr (hfc i hi))
              replace hfc : ∀ k, midOf xa4 xc4 k → v0.heap.size ≤ k := fun k hk => (hfA k hk).elim (fun h => hfc k h) (fun h => Nat.le_trans hszc h)
              try (have hs7' : IsNot xa4 xc4 g7 := fun k hk e => (hfA k hk).elim (fun h => hs7 k h e) (fun h => by have := h7.lt; omega))
              try (replace h7 := h7.keep hkA (fun e => hs7 g7 e rfl))
              try (replace hs7 := hs7'; clear hs7')
              try (have hs10' : IsNot xa4 xc4 g10 := fun k hk e => (hfA k hk).elim (fun h => hs10 k h e) (fun h => by have := h10.lt; omega))
              try (replace h10 := h10.keep hkA (fun e => hs10 g10 e rfl))
              try (replace hs10 := hs10'; clear hs10')
              replace hoc := hoA
              clear hoA hkA hfA hszc
              refine (fun hHeld => hK _ _ hHeld ?_) (trivial)
              clear hK
              try simp only [Act.put, List.setIfInBounds_toArray, List.set_cons_zero, List.set_cons_succ]
              refine onlyL (i := 8) rfl (by kernel_rfl) (fun K hK => ?_)
              refine step_appendM rfl _ _ 27 rfl 5 Tryd.underlying27 Tryd.info8s _ _ _ _ rfl hoc (some ⟨g7, 0, none⟩) 1 1 [(i : Int) + 1] rfl (Src.one h7 rfl) (by have := HIM.out; omega) ?_
              intro xa8 xc8 w8 hoA hkA hfA hzA
              clear hzA
              have hszc := hKB.size
              replace hKB := hKB.step hkA (fun i hi => .inr (hfc i hi))
              replace hfc : ∀ k, midOf xa8 xc8 k → v0.heap.size ≤ k := fun k hk => (hfA k hk).elim (fun h => hfc k h) (fun h => Nat.le_trans hszc h)
              try (have hs7' : IsNot xa8 xc8 g7 := fun k hk e => (hfA k hk).elim (fun h => hs7 k h e) (fun h => by have := h7.lt; omega))
              try (replace h7 := h7.keep hkA (fun e => hs7 g7 e rfl))
              try (replace hs7 := hs7'; clear hs7')
              try (have hs10' : IsNot xa8 xc8 g10 := fun k hk e => (hfA k hk).elim (fun h => hs10 k h e) (fun h => by have := h10.lt; omega))
              try (replace h10 := h10.keep hkA (fun e => hs10 g10 e rfl))
              try (replace hs10 := hs10'; clear hs10')
              replace hoc := hoA
              clear hoA hkA hfA hszc
              clear h7 hs7
              refine (fun hHeld => hK _ _ hHeld ?_) (trivial)
              clear hK
              try simp only [Act.put, List.setIfInBounds_toArray, List.set_cons_zero, List.set_cons_succ]
              refine onlyL (i := 9) rfl (by kernel_rfl) (fun K hK => ?_)
              go_simp
              refine (refMac_walk (cap := 32) ((hpr.keep0 hKB).row8 hpb hpl (by omega)) (hoc.row (areB_wf HMB.out)) (fun h => by have h1 := hoc.nil h; have h2 := hoc.le; exact ⟨h1, by omega⟩) (by omega) (by have := HIM.out; omega)).mono ?_
              rintro e w9 ⟨rfl, qk⟩
              rw [HXE.out]
              clear hoc hfc
              try clear hs10
              refine (fun hHeld => hK _ _ hHeld ?_) (trivial)
              clear hK
              try simp only [Act.put, List.setIfInBounds_toArray, List.set_cons_zero, List.set_cons_succ]
              replace hKB := hKB.trans qk
              replace h10 := h10.keep0 qk
              refine onlyL (i := 11) rfl (by kernel_rfl) (fun K hK => ?_)
              refine step_store rfl 36 _ _ rfl g10 rfl (byteV D) rfl h10 (by rw [hDv, HZ32.out]) (by rw [hDv]; exact Tryd.infoH) (byteV_one _) ?_
              intro w11 hb11 hk11 hs11
              clear hs11
              replace hKB := hKB.step hk11 (fun i hi => .inr (by rw [show i = g10 from hi]; exact hg10'))
              refine (fun hHeld => hK _ _ hHeld ?_) (trivial)
              clear hK
              try simp only [Act.put, List.setIfInBounds_toArray, List.set_cons_zero, List.set_cons_succ]
              refine wpAnyH_done (by kernel_rfl) ?_ _
              clear hpr hls hin hHeld
              have HSZ := Lib.hid (show wr.heap.size ≤ w11.heap.size from (hkd.trans hKB).size)
              have HLO := Lib.hid hout.lt
              have HB := Lib.hid (refBytes_walk (cap := 32) (hb11.row8 hsb hst (by omega)) (by omega))
              clear hb11
              go_wp2_with fail
              refine HB.out.mono ?_
              rintro e w12 ⟨a12, c12, rfl, ho12, hk12, hf12⟩
              rw [hst] at ho12 ⊢
              have hKc := (hkd.trans hKB).trans hk12
              have hout12 := hout.keep0 hKc
              have hkR12 := hkr.trans hKc
              have hr12 := ho12.row (areB_wf hsb)
              have hn12 : a12 = none → c12 = 0 ∧ 32 = 0 := fun h => by have := ho12.nilB h; omega
              have hna : ∀ k, blkOf a12 k → ¬ blkOf a k := fun k hk hk' => by have h1 := hf12 k hk; have h2 := HLO.out k hk'; have h3 := HSZ.out; omega
              have hf12' : ∀ k, blkOf a12 k → k < w12.heap.size := ho12.lt
              clear HB hk12 hf12 hKc hKB hout hkr hkd ho12
              go_wp2_with (at_builtin; refine wpl_append rfl _ _ 27 rfl 5 1 1 Tryd.underlying27 Tryd.info8s (by omega) a cap (32 * i) _ rfl hout12 _ 32 c12 (byteV D) rfl (hr12.src hn12) (by unfold maxLen; omega) (by omega) ?_)
              intro a6 cap6 w6 ho6 hk6 hf6 _
              rw [byteV_append, ← HON.out] at ho6
              have hG6 : DerGo wR gr root info (i + 1) a6 cap6 a12 32 c12 w6 := by
                refine ⟨ho6, ?_, hkR12.step hk6 (fun k hk => .inr (hfr k hk)), fun k hk => ?_, fun k hk hk' => ?_⟩
                · rw [HDD.out]
                  exact ⟨hr12.keepF hk6 (fun _ k hk hk' => hna k hk hk'), hn12⟩
                · rcases hf6 k hk with h | h
                  · exact hfr k h
                  · rw [h]; exact hkR12.size
                · rcases hf6 k hk' with h | h
                  · exact hna k hk h
                  · have := hf12' k hk; omega
              clear ho6 hk6 hf6 hout12 hr12 hkR12 hn12 hna hf12'
              go_wp2_with fail
              go_roundw
              case rel => first | exact ⟨i + 1, a6, cap6, _, _, _, by omega, by rw [show 32 * (i + 1) = 32 * i + 32 by omega], rfl, by go_num, hG6⟩ | ((repeat apply Exists.intro); exact ⟨⟨i + 1, a6, cap6, _, _, _, by omega, by rw [show 32 * (i + 1) = 32 * i + 32 by omega], rfl, by go_num, hG6⟩, rfl⟩)
              case measure => simp [intOf]; omega
          · skip
            refine step_allocK rfl 36 rfl Z hzv ?_
            intro g10 w10 hg10 h10 qk
            try (have hs10 : IsNot _ _ g10 := fun k hk e => by have := hoc.lt k hk; omega)
            have hg10' : v0.heap.size ≤ g10 := by have := hKB.size; omega
            clear hg10
            refine (fun hHeld => hK _ _ hHeld ?_) (trivial)
            clear hK
            try simp only [Act.put, List.setIfInBounds_toArray, List.set_cons_zero, List.set_cons_succ]
            replace hKB := hKB.trans qk
            replace hoc := hoc.keep0 qk
            refine bothL (i := 4) (j := 7) rfl rfl (by kernel_rfl) (fun K hK => ?_) (fun K hK => ?_)
            · skip
              refine step_appendM rfl _ _ 27 rfl 5 Tryd.underlying27 Tryd.info8s _ _ _ _ rfl hoc ia im ic info rfl ((hin.keep hKB).1.src (hin.keep hKB).2) (by have := HIM.out; omega) ?_
              intro xa4 xc4 w4 hoA hkA hfA hzA
              clear hzA
              have hszc := hKB.size
              replace hKB := hKB.step hkA (fun i hi => .inr (hfc i hi))
              replace hfc : ∀ k, midOf xa4 xc4 k → v0.heap.size ≤ k := fun k hk => (hfA k hk).elim (fun h => hfc k h) (fun h => Nat.le_trans hszc h)
              try (have hs7' : IsNot xa4 xc4 g7 := fun k hk e => (hfA k hk).elim (fun h => hs7 k h e) (fun h => by have := h7.lt; omega))
              try (replace h7 := h7.keep hkA (fun e => hs7 g7 e rfl))
              try (replace hs7 := hs7'; clear hs7')
              try (have hs10' : IsNot xa4 xc4 g10 := fun k hk e => (hfA k hk).elim (fun h => hs10 k h e) (fun h => by have := h10.lt; omega))
              try (replace h10 := h10.keep hkA (fun e => hs10 g10 e rfl))
              try (replace hs10 := hs10'; clear hs10')
              replace hoc := hoA
              clear hoA hkA hfA hszc
              refine (fun hHeld => hK _ _ hHeld ?_) (trivial)
              clear hK
              try simp only [Act.put, List.setIfInBounds_toArray, List.set_cons_zero, List.set_cons_succ]
              refine onlyL (i := 7) rfl (by kernel_rfl) (fun K hK => ?_)
              refine step_bsK rfl _ 5 1 _ rfl [.int .u8 ((i : Int) + 1)] Tryd.underlying27 Tryd.bs8 rfl (by decide) (by decide) (by simp [Act.eval]) (by simp [Value.cells]) ?_
              intro g7 w7 hg7 h7 qk
              try (have hs7 : IsNot _ _ g7 := fun k hk e => by have := hoc.lt k hk; omega)
              clear hg7
              refine (fun hHeld => hK _ _ hHeld ?_) (trivial)
              clear hK
              try simp only [Act.put, List.setIfInBounds_toArray, List.set_cons_zero, List.set_cons_succ]
              replace hKB := hKB.trans qk
              replace hoc := hoc.keep0 qk
              replace h10 := h10.keep0 qk
              refine onlyL (i := 8) rfl (by kernel_rfl) (fun K hK => ?_)
              refine step_appendM rfl _ _ 27 rfl 5 Tryd.underlying27 Tryd.info8s _ _ _ _ rfl hoc (some ⟨g7, 0, none⟩) 1 1 [(i : Int) + 1] rfl (Src.one h7 rfl) (by have := HIM.out; omega) ?_
              intro xa8 xc8 w8 hoA hkA hfA hzA
              clear hzA
              have hszc := hKB.size
              replace hKB := hKB.step hkA (fun i hi => .inr (hfc i hi))
              replace hfc : ∀ k, midOf xa8 xc8 k → v0.heap.size ≤ k := fun k hk => (hfA k hk).elim (fun h => hfc k h) (fun h => Nat.le_trans hszc h)
              try (have hs7' : IsNot xa8 xc8 g7 := fun k hk e => (hfA k hk).elim (fun h => hs7 k h e) (fun h => by have := h7.lt; omega))
              try (replace h7 := h7.keep hkA (fun e => hs7 g7 e rfl))
              try (replace hs7 := hs7'; clear hs7')
              try (have hs10' : IsNot xa8 xc8 g10 := fun k hk e => (hfA k hk).elim (fun h => hs10 k h e) (fun h => by have := h10.lt; omega))
              try (replace h10 := h10.keep hkA (fun e => hs10 g10 e rfl))
              try (replace hs10 := hs10'; clear hs10')
              replace hoc := hoA
              clear hoA hkA hfA hszc
              clear h7 hs7
              refine (fun hHeld => hK _ _ hHeld ?_) (trivial)
              clear hK
              try simp only [Act.put, List.setIfInBounds_toArray, List.set_cons_zero, List.set_cons_succ]
              refine onlyL (i := 9) rfl (by kernel_rfl) (fun K hK => ?_)
              go_simp
              refine (refMac_walk (cap := 32) ((hpr.keep0 hKB).row8 hpb hpl (by omega)) (hoc.row (areB_wf HMB.out)) (fun h => by have h1 := hoc.nil h; have h2 := hoc.le; exact ⟨h1, by omega⟩) (by omega) (by have := HIM.out; omega)).mono ?_
              rintro e w9 ⟨rfl, qk⟩
              rw [HXE.out]
              clear hoc hfc
              try clear hs10
              refine (fun hHeld => hK _ _ hHeld ?_) (trivial)
              clear hK
              try simp only [Act.put, List.setIfInBounds_toArray, List.set_cons_zero, List.set_cons_succ]
              replace hKB := hKB.trans qk
              replace h10 := h10.keep0 qk
              refine onlyL (i := 11) rfl (by kernel_rfl) (fun K hK => ?_)
              refine step_store rfl 36 _ _ rfl g10 rfl (byteV D) rfl h10 (by rw [hDv, HZ32.out]) (by rw [hDv]; exact Tryd.infoH) (byteV_one _) ?_
              intro w11 hb11 hk11 hs11
              clear hs11
              replace hKB := hKB.step hk11 (fun i hi => .inr (by rw [show i = g10 from hi]; exact hg10'))
              refine (fun hHeld => hK _ _ hHeld ?_) (trivial)
              clear hK
              try simp only [Act.put, List.setIfInBounds_toArray, List.set_cons_zero, List.set_cons_succ]
              refine wpAnyH_done (by kernel_rfl) ?_ _
              clear hpr hls hin hHeld
              have HSZ := Lib.hid (show wr.heap.size ≤ w11.heap.size from (hkd.trans hKB).size)
              have HLO := Lib.hid hout.lt
              have HB := Lib.hid (refBytes_walk (cap := 32) (hb11.row8 hsb hst (by omega)) (by omega))
              clear hb11
              go_wp2_with fail
              refine HB.out.mono ?_
              rintro e w12 ⟨a12, c12, rfl, ho12, hk12, hf12⟩
              rw [hst] at ho12 ⊢
              have hKc := (hkd.trans hKB).trans hk12
              have hout12 := hout.keep0 hKc
              have hkR12 := hkr.trans hKc
              have hr12 := ho12.row (areB_wf hsb)
              have hn12 : a12 = none → c12 = 0 ∧ 32 = 0 := fun h => by have := ho12.nilB h; omega
              have hna : ∀ k, blkOf a12 k → ¬ blkOf a k := fun k hk hk' => by have h1 := hf12 k hk; have h2 := HLO.out k hk'; have h3 := HSZ.out; omega
              have hf12' : ∀ k, blkOf a12 k → k < w12.heap.size := ho12.lt
              clear HB hk12 hf12 hKc hKB hout hkr hkd ho12
              go_wp2_with (at_builtin; refine wpl_append rfl _ _ 27 rfl 5 1 1 Tryd.underlying27 Tryd.info8s (by omega) a cap (32 * i) _ rfl hout12 _ 32 c12 (byteV D) rfl (hr12.src hn12) (by unfold maxLen; omega) (by omega) ?_)
              intro a6 cap6 w6 ho6 hk6 hf6 _
              rw [byteV_append, ← HON.out] at ho6
              have hG6 : DerGo wR gr root info (i + 1) a6 cap6 a12 32 c12 w6 := by
                refine ⟨ho6, ?_, hkR12.step hk6 (fun k hk => .inr (hfr k hk)), fun k hk => ?_, fun k hk hk' => ?_⟩
                · rw [HDD.out]
                  exact ⟨hr12.keepF hk6 (fun _ k hk hk' => hna k hk hk'), hn12⟩
                · rcases hf6 k hk with h | h
                  · exact hfr k h
                  · rw [h]; exact hkR12.size
                · rcases hf6 k hk' with h | h
                  · exact hna k hk h
                  · have := hf12' k hk; omega
              clear ho6 hk6 hf6 hout12 hr12 hkR12 hn12 hna hf12'
              go_wp2_with fail
              go_roundw
              case rel => first | exact ⟨i + 1, a6, cap6, _, _, _, by omega, by rw [show 32 * (i + 1) = 32 * i + 32 by omega], rfl, by go_num, hG6⟩ | ((repeat apply Exists.intro); exact ⟨⟨i + 1, a6, cap6, _, _, _, by omega, by rw [show 32 * (i + 1) = 32 * i + 32 by omega], rfl, by go_num, hG6⟩, rfl⟩)
              case measure => simp [intOf]; omega
            · skip
              refine step_bsK rfl _ 5 1 _ rfl [.int .u8 ((i : Int) + 1)] Tryd.underlying27 Tryd.bs8 rfl (by decide) (by decide) (by simp [Act.eval]) (by simp [Value.cells]) ?_
              intro g7 w7 hg7 h7 qk
              try (have hs7 : IsNot _ _ g7 := fun k hk e => by have := hoc.lt k hk; omega)
              clear hg7
              refine (fun hHeld => hK _ _ hHeld ?_) (trivial)
              clear hK
              try simp only [Act.put, List.setIfInBounds_toArray, List.set_cons_zero, List.set_cons_succ]
              replace hKB := hKB.trans qk
              replace hoc := hoc.keep0 qk
              replace h10 := h10.keep0 qk
              refine onlyL (i := 4) rfl (by kernel_rfl) (fun K hK => ?_)
              refine step_appendM rfl _ _ 27 rfl 5 Tryd.underlying27 Tryd.info8s _ _ _ _ rfl hoc ia im ic info rfl ((hin.keep hKB).1.src (hin.keep hKB).2) (by have := HIM.out; omega) ?_
              intro xa4 xc4 w4 hoA hkA hfA hzA
              clear hzA
              have hszc := hKB.size
              replace hKB := hKB.step hkA (fun i hi => .inr (hfc i hi))
              replace hfc : ∀ k, midOf xa4 xc4 k → v0.heap.size ≤ k := fun k hk => (hfA k hk).elim (fun h => hfc k h) (fun h => Nat.le_trans hszc h)
              try (have hs7' : IsNot xa4 xc4 g7 := fun k hk e => (hfA k hk).elim (fun h => hs7 k h e) (fun h => by have := h7.lt; omega))
              try (replace h7 := h7.keep hkA (fun e => hs7 g7 e rfl))
              try (replace hs7 := hs7'; clear hs7')
              try (have hs10' : IsNot xa4 xc4 g10 := fun k hk e => (hfA k hk).elim (fun h => hs10 k h e) (fun h => by have := h10.lt; omega))
              try (replace h10 := h10.keep hkA (fun e => hs10 g10 e rfl))
              try (replace hs10 := hs10'; clear hs10')
              replace hoc := hoA
              clear hoA hkA hfA hszc
              refine (fun hHeld => hK _ _ hHeld ?_) (trivial)
              clear hK
              try simp only [Act.put, List.setIfInBounds_toArray, List.set_cons_zero, List.set_cons_succ]
              refine onlyL (i := 8) rfl (by kernel_rfl) (fun K hK => ?_)
              refine step_appendM rfl _ _ 27 rfl 5 Tryd.underlying27 Tryd.info8s _ _ _ _ rfl hoc (some ⟨g7, 0, none⟩) 1 1 [(i : Int) + 1] rfl (Src.one h7 rfl) (by have := HIM.out; omega) ?_
              intro xa8 xc8 w8 hoA hkA hfA hzA
              clear hzA
              have hszc := hKB.size
              replace hKB := hKB.step hkA (fun i hi => .inr (hfc i hi))
              replace hfc : ∀ k, midOf xa8 xc8 k → v0.heap.size ≤ k := fun k hk => (hfA k hk).elim (fun h => hfc k h) (fun h => Nat.le_trans hszc h)
              try (have hs7' : IsNot xa8 xc8 g7 := fun k hk e => (hfA k hk).elim (fun h => hs7 k h e) (fun h => by have := h7.lt; omega))
              try (replace h7 := h7.keep hkA (fun e => hs7 g7 e rfl))
              try (replace hs7 := hs7'; clear hs7')
              try (have hs10' : IsNot xa8 xc8 g10 := fun k hk e => (hfA k hk).elim (fun h => hs10 k h e) (fun h => by have := h10.lt; omega))
              try (replace h10 := h10.keep hkA (fun e => hs10 g10 e rfl))
              try (replace hs10 := hs10'; clear hs10')
              replace hoc := hoA
              clear hoA hkA hfA hszc
              clear h7 hs7
              refine (fun hHeld => hK _ _ hHeld ?_) (trivial)
              clear hK
              try simp only [Act.put, List.setIfInBounds_toArray, List.set_cons_zero, List.set_cons_succ]
              refine onlyL (i := 9) rfl (by kernel_rfl) (fun K hK => ?_)
              go_simp
              refine (refMac_walk (cap := 32) ((hpr.keep0 hKB).row8 hpb hpl (by omega)) (hoc.row (areB_wf HMB.out)) (fun h => by have h1 := hoc.nil h; have h2 := hoc.le; exact ⟨h1, by omega⟩) (by omega) (by have := HIM.out; omega)).mono ?_
              rintro e w9 ⟨rfl, qk⟩
              rw [HXE.out]
              clear hoc hfc
              try clear hs10
              refine (fun hHeld => hK _ _ hHeld ?_) (trivial)
              clear hK
              try simp only [Act.put, List.setIfInBounds_toArray, List.set_cons_zero, List.set_cons_succ]
              replace hKB := hKB.trans qk
              replace h10 := h10.keep0 qk
              refine onlyL (i := 11) rfl (by kernel_rfl) (fun K hK => ?_)
              refine step_store rfl 36 _ _ rfl g10 rfl (byteV D) rfl h10 (by rw [hDv, HZ32.out]) (by rw [hDv]; exact Tryd.infoH) (byteV_one _) ?_
              intro w11 hb11 hk11 hs11
              clear hs11
              replace hKB := hKB.step hk11 (fun i hi => .inr (by rw [show i = g10 from hi]; exact hg10'))
              refine (fun hHeld => hK _ _ hHeld ?_) (trivial)
              clear hK
              try simp only [Act.put, List.setIfInBounds_toArray, List.set_cons_zero, List.set_cons_succ]
              refine wpAnyH_done (by kernel_rfl) ?_ _
              clear hpr hls hin hHeld
              have HSZ := Lib.hid (show wr.heap.size ≤ w11.heap.size from (hkd.trans hKB).size)
              have HLO := Lib.hid hout.lt
              have HB := Lib.hid (refBytes_walk (cap := 32) (hb11.row8 hsb hst (by omega)) (by omega))
              clear hb11
              go_wp2_with fail
              refine HB.out.mono ?_
              rintro e w12 ⟨a12, c12, rfl, ho12, hk12, hf12⟩
              rw [hst] at ho12 ⊢
              have hKc := (hkd.trans hKB).trans hk12
              have hout12 := hout.keep0 hKc
              have hkR12 := hkr.trans hKc
              have hr12 := ho12.row (areB_wf hsb)
              have hn12 : a12 = none → c12 = 0 ∧ 32 = 0 := fun h => by have := ho12.nilB h; omega
              have hna : ∀ k, blkOf a12 k → ¬ blkOf a k := fun k hk hk' => by have h1 := hf12 k hk; have h2 := HLO.out k hk'; have h3 := HSZ.out; omega
              have hf12' : ∀ k, blkOf a12 k → k < w12.heap.size := ho12.lt
              clear HB hk12 hf12 hKc hKB hout hkr hkd ho12
              go_wp2_with (at_builtin; refine wpl_append rfl _ _ 27 rfl 5 1 1 Tryd.underlying27 Tryd.info8s (by omega) a cap (32 * i) _ rfl hout12 _ 32 c12 (byteV D) rfl (hr12.src hn12) (by unfold maxLen; omega) (by omega) ?_)
              intro a6 cap6 w6 ho6 hk6 hf6 _
              rw [byteV_append, ← HON.out] at ho6
              have hG6 : DerGo wR gr root info (i + 1) a6 cap6 a12 32 c12 w6 := by
                refine ⟨ho6, ?_, hkR12.step hk6 (fun k hk => .inr (hfr k hk)), fun k hk => ?_, fun k hk hk' => ?_⟩
                · rw [HDD.out]
                  exact ⟨hr12.keepF hk6 (fun _ k hk hk' => hna k hk hk'), hn12⟩
                · rcases hf6 k hk with h | h
                  · exact hfr k h
                  · rw [h]; exact hkR12.size
                · rcases hf6 k hk' with h | h
                  · exact hna k hk h
                  · have := hf12' k hk; omega
              clear ho6 hk6 hf6 hout12 hr12 hkR12 hn12 hna hf12'
              go_wp2_with fail
              go_roundw
              case rel => first | exact ⟨i + 1, a6, cap6, _, _, _, by omega, by rw [show 32 * (i + 1) = 32 * i + 32 by omega], rfl, by go_num, hG6⟩ | ((repeat apply Exists.intro); exact ⟨⟨i + 1, a6, cap6, _, _, _, by omega, by rw [show 32 * (i + 1) = 32 * i + 32 by omega], rfl, by go_num, hG6⟩, rfl⟩)
              case measure => simp [intOf]; omega
        · skip
          refine step_bsK rfl _ 5 1 _ rfl [.int .u8 ((i : Int) + 1)] Tryd.underlying27 Tryd.bs8 rfl (by decide) (by decide) (by simp [Act.eval]) (by simp [Value.cells]) ?_
          intro g7 w7 hg7 h7 qk
          try (have hs7 : IsNot _ _ g7 := fun k hk e => by have := hoc.lt k hk; omega)
          clear hg7
          refine (fun hHeld => hK _ _ hHeld ?_) (trivial)
          clear hK
          try simp only [Act.put, List.setIfInBounds_toArray, List.set_cons_zero, List.set_cons_succ]
          replace hKB := hKB.trans qk
          refine bothL (i := 2) (j := 10) rfl rfl (by kernel_rfl) (fun K hK => ?_) (fun K hK => ?_)
          · skip
            go_simp
            refine (refBytes_walk (len := ln) (cap := lc) ((hls.keep hKB).1) (by omega)).mono ?_
            rintro e w2 ⟨a2, c2, rfl, ho2, qk, hf2⟩
            have hoc := ho2.mid
            have hfc : ∀ k, midOf a2 c2 k → v0.heap.size ≤ k := fun k hk => Nat.le_trans hKB.size (hf2 k hk.2)
            try (have hs7 : IsNot a2 c2 g7 := fun k hk e => by have := hf2 k hk.2; have := h7.lt; omega)
            try (have hs10 : IsNot a2 c2 g10 := fun k hk e => by have := hf2 k hk.2; have := h10.lt; omega)
            clear ho2 hf2
            refine (fun hHeld => hK _ _ hHeld ?_) (trivial)
            clear hK
            try simp only [Act.put, List.setIfInBounds_toArray, List.set_cons_zero, List.set_cons_succ]
            replace hKB := hKB.trans qk
            replace h7 := h7.keep0 qk
            refine bothL (i := 4) (j := 10) rfl rfl (by kernel_rfl) (fun K hK => ?_) (fun K hK => ?_)
            · skip
              refine step_appendM rfl _ _ 27 rfl 5 Tryd.underlying27 Tryd.info8s _ _ _ _ rfl hoc ia im ic info rfl ((hin.keep hKB).1.src (hin.keep hKB).2) (by have := HIM.out; omega) ?_
              intro xa4 xc4 w4 hoA hkA hfA hzA
              clear hzA
              have hszc := hKB.size
              replace hKB := hKB.step hkA (fun i hi => .inr (hfc i hi))
              replace hfc : ∀ k, midOf xa4 xc4 k → v0.heap.size ≤ k := fun k hk => (hfA k hk).elim (fun h => hfc k h) (fun h => Nat.le_trans hszc h)
              try (have hs7' : IsNot xa4 xc4 g7 := fun k hk e => (hfA k hk).elim (fun h => hs7 k h e) (fun h => by have := h7.lt; omega))
              try (replace h7 := h7.keep hkA (fun e => hs7 g7 e rfl))
              try (replace hs7 := hs7'; clear hs7')
              try (have hs10' : IsNot xa4 xc4 g10 := fun k hk e => (hfA k hk).elim (fun h => hs10 k h e) (fun h => by have := h10.lt; omega))
              try (replace h10 := h10.keep hkA (fun e => hs10 g10 e rfl))
              try (replace hs10 := hs10'; clear hs10')
              replace hoc := hoA
              clear hoA hkA hfA hszc
              refine (fun hHeld => hK _ _ hHeld ?_) (trivial)
              clear hK
              try simp only [Act.put, List.setIfInBounds_toArray, List.set_cons_zero, List.set_cons_succ]
              refine bothL (i := 8) (j := 10) rfl rfl (by kernel_rfl) (fun K hK => ?_) (fun K hK => ?_)
              · skip
                refine step_appendM rfl _ _ 27 rfl 5 Tryd.underlying27 Tryd.info8s _ _ _ _ rfl hoc (some ⟨g7, 0, none⟩) 1 1 [(i : Int) + 1] rfl (Src.one h7 rfl) (by have := HIM.out; omega) ?_
                intro xa8 xc8 w8 hoA hkA hfA hzA
                clear hzA
                have hszc := hKB.size
                replace hKB := hKB.step hkA (fun i hi => .inr (hfc i hi))
                replace hfc : ∀ k, midOf xa8 xc8 k → v0.heap.size ≤ k := fun k hk => (hfA k hk).elim (fun h => hfc k h) (fun h => Nat.le_trans hszc h)
                try (have hs7' : IsNot xa8 xc8 g7 := fun k hk e => (hfA k hk).elim (fun h => hs7 k h e) (fun h => by have := h7.lt; omega))
                try (replace h7 := h7.keep hkA (fun e => hs7 g7 e rfl))
                try (replace hs7 := hs7'; clear hs7')
                try (have hs10' : IsNot xa8 xc8 g10 := fun k hk e => (hfA k hk).elim (fun h => hs10 k h e) (fun h => by have := h10.lt; omega))
                try (replace h10 := h10.keep hkA (fun e => hs10 g10 e rfl))
                try (replace hs10 := hs10'; clear hs10')
                replace hoc := hoA
                clear hoA hkA hfA hszc
                clear h7 hs7
                refine (fun hHeld => hK _ _ hHeld ?_) (trivial)
                clear hK
                try simp only [Act.put, List.setIfInBounds_toArray, List.set_cons_zero, List.set_cons_succ]
                refine bothL (i := 9) (j := 10) rfl rfl (by kernel_rfl) (fun K hK => ?_) (fun K hK => ?_)
                · skip
                  go_simp
                  refine (refMac_walk (cap := 32) ((hpr.keep0 hKB).row8 hpb hpl (by omega)) (hoc.row (areB_wf HMB.out)) (fun h => by have h1 := hoc.nil h; have h2 := hoc.le; exact ⟨h1, by omega⟩) (by omega) (by have := HIM.out; omega)).mono ?_
                  rintro e w9 ⟨rfl, qk⟩
                  rw [HXE.out]
                  clear hoc hfc
                  try clear hs10
                  refine (fun hHeld => hK _ _ hHeld ?_) (trivial)
                  clear hK
                  try simp only [Act.put, List.setIfInBounds_toArray, List.set_cons_zero, List.set_cons_succ]
                  replace hKB := hKB.trans qk
                  refine onlyL (i := 10) rfl (by kernel_rfl) (fun K hK => ?_)
                  refine step_allocK rfl 36 rfl Z hzv ?_
                  intro g10 w10 hg10 h10 qk
                  try (have hs10 : IsNot _ _ g10 := fun k hk e => by have := hoc.lt k hk; omega)
                  have hg10' : v0.heap.size ≤ g10 := by have := hKB.size; omega
                  clear hg10
                  refine (fun hHeld => hK _ _ hHeld ?_) (trivial)
                  clear hK
                  try simp only [Act.put, List.setIfInBounds_toArray, List.set_cons_zero, List.set_cons_succ]
                  replace hKB := hKB.trans qk
                  refine onlyL (i := 11) rfl (by kernel_rfl) (fun K hK => ?_)
                  refine step_store rfl 36 _ _ rfl g10 rfl (byteV D) rfl h10 (by rw [hDv, HZ32.out]) (by rw [hDv]; exact Tryd.infoH) (byteV_one _) ?_
                  intro w11 hb11 hk11 hs11
                  clear hs11
                  replace hKB := hKB.step hk11 (fun i hi => .inr (by rw [show i = g10 from hi]; exact hg10'))
                  refine (fun hHeld => hK _ _ hHeld ?_) (trivial)
                  clear hK
                  try simp only [Act.put, List.setIfInBounds_toArray, List.set_cons_zero, List.set_cons_succ]
                  refine wpAnyH_done (by kernel_rfl) ?_ _
                  clear hpr hls hin hHeld
                  have HSZ := Lib.hid (show wr.heap.size ≤ w11.heap.size from (hkd.trans hKB).size)
                  have HLO := Lib.hid hout.lt
                  have HB := Lib.hid (refBytes_walk (cap := 32) (hb11.row8 hsb hst (by omega)) (by omega))
                  clear hb11
                  go_wp2_with fail
                  refine HB.out.mono ?_
                  rintro e w12 ⟨a12, c12, rfl, ho12, hk12, hf12⟩
                  rw [hst] at ho12 ⊢
                  have hKc := (hkd.trans hKB).trans hk12
                  have hout12 := hout.keep0 hKc
                  have hkR12 := hkr.trans hKc
                  have hr12 := ho12.row (areB_wf hsb)
                  have hn12 : a12 = none → c12 = 0 ∧ 32 = 0 := fun h => by have := ho12.nilB h; omega
                  have hna : ∀ k, blkOf a12 k → ¬ blkOf a k := fun k hk hk' => by have h1 := hf12 k hk; have h2 := HLO.out k hk'; have h3 := HSZ.out; omega
                  have hf12' : ∀ k, blkOf a12 k → k < w12.heap.size := ho12.lt
                  clear HB hk12 hf12 hKc hKB hout hkr hkd ho12
                  go_wp2_with (at_builtin; refine wpl_append rfl _ _ 27 rfl 5 1 1 Tryd.underlying27 Tryd.info8s (by omega) a cap (32 * i) _ rfl hout12 _ 32 c12 (byteV D) rfl (hr12.src hn12) (by unfold maxLen; omega) (by omega) ?_)
                  intro a6 cap6 w6 ho6 hk6 hf6 _
                  rw [byteV_append, ← HON.out] at ho6
                  have hG6 : DerGo wR gr root info (i + 1) a6 cap6 a12 32 c12 w6 := by
                    refine ⟨ho6, ?_, hkR12.step hk6 (fun k hk => .inr (hfr k hk)), fun k hk => ?_, fun k hk hk' => ?_⟩
                    · rw [HDD.out]
                      exact ⟨hr12.keepF hk6 (fun _ k hk hk' => hna k hk hk'), hn12⟩
                    · rcases hf6 k hk with h | h
                      · exact hfr k h
                      · rw [h]; exact hkR12.size
                    · rcases hf6 k hk' with h | h
                      · exact hna k hk h
                      · have := hf12' k hk; omega
                  clear ho6 hk6 hf6 hout12 hr12 hkR12 hn12 hna hf12'
                  go_wp2_with fail
                  go_roundw
                  case rel => first | exact ⟨i + 1, a6, cap6, _, _, _, by omega, by rw [show 32 * (i + 1) = 32 * i + 32 by omega], rfl, by go_num, hG6⟩ | ((repeat apply Exists.intro); exact ⟨⟨i + 1, a6, cap6, _, _, _, by omega, by rw [show 32 * (i + 1) = 32 * i + 32 by omega], rfl, by go_num, hG6⟩, rfl⟩)
                  case measure => simp [intOf]; omega
                · skip
                  refine step_allocK rfl 36 rfl Z hzv ?_
                  intro g10 w10 hg10 h10 qk
                  try (have hs10 : IsNot _ _ g10 := fun k hk e => by have := hoc.lt k hk; omega)
                  have hg10' : v0.heap.size ≤ g10 := by have := hKB.size; omega
                  clear hg10
                  refine (fun hHeld => hK _ _ hHeld ?_) (trivial)
                  clear hK
                  try simp only [Act.put, List.setIfInBounds_toArray, List.set_cons_zero, List.set_cons_succ]
                  replace hKB := hKB.trans qk
                  replace hoc := hoc.keep0 qk
                  refine onlyL (i := 9) rfl (by kernel_rfl) (fun K hK => ?_)
                  go_simp
                  refine (refMac_walk (cap := 32) ((hpr.keep0 hKB).row8 hpb hpl (by omega)) (hoc.row (areB_wf HMB.out)) (fun h => by have h1 := hoc.nil h; have h2 := hoc.le; exact ⟨h1, by omega⟩) (by omega) (by have := HIM.out; omega)).mono ?_
                  rintro e w9 ⟨rfl, qk⟩
                  rw [HXE.out]
                  clear hoc hfc
                  try clear hs10
                  refine (fun hHeld => hK _ _ hHeld ?_) (trivial)
                  clear hK
                  try simp only [Act.put, List.setIfInBounds_toArray, List.set_cons_zero, List.set_cons_succ]
                  replace hKB := hKB.trans qk
                  replace h10 := h10.keep0 qk
                  refine onlyL (i := 11) rfl (by kernel_rfl) (fun K hK => ?_)
                  refine step_store rfl 36 _ _ rfl g10 rfl (byteV D) rfl h10 (by rw [hDv, HZ32.out]) (by rw [hDv]; exact Tryd.infoH) (byteV_one _) ?_
                  intro w11 hb11 hk11 hs11
                  clear hs11
                  replace hKB := hKB.step hk11 (fun i hi => .inr (by rw [show i = g10 from hi]; exact hg10'))
                  refine (fun hHeld => hK _ _ hHeld ?_) (trivial)
                  clear hK
                  try simp only [Act.put, List.setIfInBounds_toArray, List.set_cons_zero, List.set_cons_succ]
                  refine wpAnyH_done (by kernel_rfl) ?_ _
                  clear hpr hls hin hHeld
                  have HSZ := Lib.hid (show wr.heap.size ≤ w11.heap.size from (hkd.trans hKB).size)
                  have HLO := Lib.hid hout.lt
                  have HB := Lib.hid (refBytes_walk (cap := 32) (hb11.row8 hsb hst (by omega)) (by omega))
                  clear hb11
                  go_wp2_with fail
                  refine HB.out.mono ?_
                  rintro e w12 ⟨a12, c12, rfl, ho12, hk12, hf12⟩
                  rw [hst] at ho12 ⊢
                  have hKc := (hkd.trans hKB).trans hk12
                  have hout12 := hout.keep0 hKc
                  have hkR12 := hkr.trans hKc
                  have hr12 := ho12.row (areB_wf hsb)
                  have hn12 : a12 = none → c12 = 0 ∧ 32 = 0 := fun h => by have := ho12.nilB h; omega
                  have hna : ∀ k, blkOf a12 k → ¬ blkOf a k := fun k hk hk' => by have h1 := hf12 k hk; have h2 := HLO.out k hk'; have h3 := HSZ.out; omega
                  have hf12' : ∀ k, blkOf a12 k → k < w12.heap.size := ho12.lt
                  clear HB hk12 hf12 hKc hKB hout hkr hkd ho12
                  go_wp2_with (at_builtin; refine wpl_append rfl _ _ 27 rfl 5 1 1 Tryd.underlying27 Tryd.info8s (by omega) a cap (32 * i) _ rfl hout12 _ 32 c12 (byteV D) rfl (hr12.src hn12) (by unfold maxLen; omega) (by omega) ?_)
                  intro a6 cap6 w6 ho6 hk6 hf6 _
                  rw [byteV_append, ← HON.out] at ho6
                  have hG6 : DerGo wR gr root info (i + 1) a6 cap6 a12 32 c12 w6 := by
                    refine ⟨ho6, ?_, hkR12.step hk6 (fun k hk => .inr (hfr k hk)), fun k hk => ?_, fun k hk hk' => ?_⟩
                    · rw [HDD.out]
                      exact ⟨hr12.keepF hk6 (fun _ k hk hk' => hna k hk hk'), hn12⟩
                    · rcases hf6 k hk with h | h
                      · exact hfr k h
                      · rw [h]; exact hkR12.size
                    · rcases hf6 k hk' with h | h
                      · exact hna k hk h
                      · have := hf12' k hk; omega
                  clear ho6 hk6 hf6 hout12 hr12 hkR12 hn12 hna hf12'
                  go_wp2_with fail
                  go_roundw
                  case rel => first | exact ⟨i + 1, a6, cap6, _, _, _, by omega, by rw [show 32 * (i + 1) = 32 * i + 32 by omega], rfl, by go_num, hG6⟩ | ((repeat apply Exists.intro); exact ⟨⟨i + 1, a6, cap6, _, _, _, by omega, by rw [show 32 * (i + 1) = 32 * i + 32 by omega], rfl, by go_num, hG6⟩, rfl⟩)
                  case measure => simp [intOf]; omega
              · skip
                refine step_allocK rfl 36 rfl Z hzv ?_
                intro g10 w10 hg10 h10 qk
                try (have hs10 : IsNot _ _ g10 := fun k hk e => by have := hoc.lt k hk; omega)
                have hg10' : v0.heap.size ≤ g10 := by have := hKB.size; omega
                clear hg10
                refine (fun hHeld => hK _ _ hHeld ?_) (trivial)
                clear hK
                try simp only [Act.put, List.setIfInBounds_toArray, List.set_cons_zero, List.set_cons_succ]
                replace hKB := hKB.trans qk
                replace h7 := h7.keep0 qk
                replace hoc := hoc.keep0 qk
                refine onlyL (i := 8) rfl (by kernel_rfl) (fun K hK => ?_)
                refine step_appendM rfl _ _ 27 rfl 5 Tryd.underlying27 Tryd.info8s _ _ _ _ rfl hoc (some ⟨g7, 0, none⟩) 1 1 [(i : Int) + 1] rfl (Src.one h7 rfl) (by have := HIM.out; omega) ?_
                intro xa8 xc8 w8 hoA hkA hfA hzA
                clear hzA
                have hszc := hKB.size
                replace hKB := hKB.step hkA (fun i hi => .inr (hfc i hi))
                replace hfc : ∀ k, midOf xa8 xc8 k → v0.heap.size ≤ k := fun k hk => (hfA k hk).elim (fun h => hfc k h) (fun h => Nat.le_trans hszc h)
                try (have hs7' : IsNot xa8 xc8 g7 := fun k hk e => (hfA k hk).elim (fun h => hs7 k h e) (fun h => by have := h7.lt; omega))
                try (replace h7 := h7.keep hkA (fun e => hs7 g7 e rfl))
                try (replace hs7 := hs7'; clear hs7')
                try (have hs10' : IsNot xa8 xc8 g10 := fun k hk e => (hfA k hk).elim (fun h => hs10 k h e) (fun h => by have := h10.lt; omega))
                try (replace h10 := h10.keep hkA (fun e => hs10 g10 e rfl))
                try (replace hs10 := hs10'; clear hs10')
                replace hoc := hoA
                clear hoA hkA hfA hszc
                clear h7 hs7
                refine (fun hHeld => hK _ _ hHeld ?_) (trivial)
                clear hK
                try simp only [Act.put, List.setIfInBounds_toArray, List.set_cons_zero, List.set_cons_succ]
                refine onlyL (i := 9) rfl (by kernel_rfl) (fun K hK => ?_)
                go_simp
                refine (refMac_walk (cap := 32) ((hpr.keep0 hKB).row8 hpb hpl (by omega)) (hoc.row (areB_wf HMB.out)) (fun h => by have h1 := hoc.nil h; have h2 := hoc.le; exact ⟨h1, by omega⟩) (by omega) (by have := HIM.out; omega)).mono ?_
                rintro e w9 ⟨rfl, qk⟩
                rw [HXE.out]
                clear hoc hfc
                try clear hs10
                refine (fun hHeld => hK _ _ hHeld ?_) (trivial)
                clear hK
                try simp only [Act.put, List.setIfInBounds_toArray, List.set_cons_zero, List.set_cons_succ]
                replace hKB := hKB.trans qk
                replace h10 := h10.keep0 qk
                refine onlyL (i := 11) rfl (by kernel_rfl) (fun K hK => ?_)
                refine step_store rfl 36 _ _ rfl g10 rfl (byteV D) rfl h10 (by rw [hDv, HZ32.out]) (by rw [hDv]; exact Tryd.infoH) (byteV_one _) ?_
                intro w11 hb11 hk11 hs11
                clear hs11
                replace hKB := hKB.step hk11 (fun i hi => .inr (by rw [show i = g10 from hi]; exact hg10'))
                refine (fun hHeld => hK _ _ hHeld ?_) (trivial)
                clear hK
                try simp only [Act.put, List.setIfInBounds_toArray, List.set_cons_zero, List.set_cons_succ]
                refine wpAnyH_done (by kernel_rfl) ?_ _
                clear hpr hls hin hHeld
                have HSZ := Lib.hid (show wr.heap.size ≤ w11.heap.size from (hkd.trans hKB).size)
                have HLO := Lib.hid hout.lt
                have HB := Lib.hid (refBytes_walk (cap := 32) (hb11.row8 hsb hst (by omega)) (by omega))
                clear hb11
                go_wp2_with fail
                refine HB.out.mono ?_
                rintro e w12 ⟨a12, c12, rfl, ho12, hk12, hf12⟩
                rw [hst] at ho12 ⊢
                have hKc := (hkd.trans hKB).trans hk12
                have hout12 := hout.keep0 hKc
                have hkR12 := hkr.trans hKc
                have hr12 := ho12.row (areB_wf hsb)
                have hn12 : a12 = none → c12 = 0 ∧ 32 = 0 := fun h => by have := ho12.nilB h; omega
                have hna : ∀ k, blkOf a12 k → ¬ blkOf a k := fun k hk hk' => by have h1 := hf12 k hk; have h2 := HLO.out k hk'; have h3 := HSZ.out; omega
                have hf12' : ∀ k, blkOf a12 k → k < w12.heap.size := ho12.lt
                clear HB hk12 hf12 hKc hKB hout hkr hkd ho12
                go_wp2_with (at_builtin; refine wpl_append rfl _ _ 27 rfl 5 1 1 Tryd.underlying27 Tryd.info8s (by omega) a cap (32 * i) _ rfl hout12 _ 32 c12 (byteV D) rfl (hr12.src hn12) (by unfold maxLen; omega) (by omega) ?_)
                intro a6 cap6 w6 ho6 hk6 hf6 _
                rw [byteV_append, ← HON.out] at ho6
                have hG6 : DerGo wR gr root info (i + 1) a6 cap6 a12 32 c12 w6 := by
                  refine ⟨ho6, ?_, hkR12.step hk6 (fun k hk => .inr (hfr k hk)), fun k hk => ?_, fun k hk hk' => ?_⟩
                  · rw [HDD.out]
                    exact ⟨hr12.keepF hk6 (fun _ k hk hk' => hna k hk hk'), hn12⟩
                  · rcases hf6 k hk with h | h
                    · exact hfr k h
                    · rw [h]; exact hkR12.size
                  · rcases hf6 k hk' with h | h
                    · exact hna k hk h
                    · have := hf12' k hk; omega
                clear ho6 hk6 hf6 hout12 hr12 hkR12 hn12 hna hf12'
                go_wp2_with fail
                go_roundw
                case rel => first | exact ⟨i + 1, a6, cap6, _, _, _, by omega, by rw [show 32 * (i + 1) = 32 * i + 32 by omega], rfl, by go_num, hG6⟩ | ((repeat apply Exists.intro); exact ⟨⟨i + 1, a6, cap6, _, _, _, by omega, by rw [show 32 * (i + 1) = 32 * i + 32 by omega], rfl, by go_num, hG6⟩, rfl⟩)
                case measure => simp [intOf]; omega
            · skip
              refine step_allocK rfl 36 rfl Z hzv ?_
              intro g10 w10 hg10 h10 qk
              try (have hs10 : IsNot _ _ g10 := fun k hk e => by have := hoc.lt k hk; omega)
              have hg10' : v0.heap.size ≤ g10 := by have := hKB.size; omega
              clear hg10
              refine (fun hHeld => hK _ _ hHeld ?_) (trivial)
              clear hK
              try simp only [Act.put, List.setIfInBounds_toArray, List.set_cons_zero, List.set_cons_succ]
              replace hKB := hKB.trans qk
              replace h7 := h7.keep0 qk
              replace hoc := hoc.keep0 qk
              refine onlyL (i := 4) rfl (by kernel_rfl) (fun K hK => ?_)
              refine step_appendM rfl _ _ 27 rfl 5 Tryd.underlying27 Tryd.info8s _ _ _ _ rfl hoc ia im ic info rfl ((hin.keep hKB).1.src (hin.keep hKB).2) (by have := HIM.out; omega) ?_
              intro xa4 xc4 w4 hoA hkA hfA hzA
              clear hzA
              have hszc := hKB.size
              replace hKB := hKB.step hkA (fun i hi => .inr (hfc i hi))
              replace hfc : ∀ k, midOf xa4 xc4 k → v0.heap.size ≤ k := fun k hk => (hfA k hk).elim (fun h => hfc k h) (fun h => Nat.le_trans hszc h)
              try (have hs7' : IsNot xa4 xc4 g7 := fun k hk e => (hfA k hk).elim (fun h => hs7 k h e) (fun h => by have := h7.lt; omega))
              try (replace h7 := h7.keep hkA (fun e => hs7 g7 e rfl))
              try (replace hs7 := hs7'; clear hs7')
              try (have hs10' : IsNot xa4 xc4 g10 := fun k hk e => (hfA k hk).elim (fun h => hs10 k h e) (fun h => by have := h10.lt; omega))
              try (replace h10 := h10.keep hkA (fun e => hs10 g10 e rfl))
              try (replace hs10 := hs10'; clear hs10')
              replace hoc := hoA
              clear hoA hkA hfA hszc
              refine (fun hHeld => hK _ _ hHeld ?_) (trivial)
              clear hK
              try simp only [Act.put, List.setIfInBounds_toArray, List.set_cons_zero, List.set_cons_succ]
              refine onlyL (i := 8) rfl (by kernel_rfl) (fun K hK => ?_)
              refine step_appendM rfl _ _ 27 rfl 5 Tryd.underlying27 Tryd.info8s _ _ _ _ rfl hoc (some ⟨g7, 0, none⟩) 1 1 [(i : Int) + 1] rfl (Src.one h7 rfl) (by have := HIM.out; omega) ?_
              intro xa8 xc8 w8 hoA hkA hfA hzA
              clear hzA
              have hszc := hKB.size
              replace hKB := hKB.step hkA (fun i hi => .inr (hfc i hi))
              replace hfc : ∀ k, midOf xa8 xc8 k → v0.heap.size ≤ k := fun k hk => (hfA k hk).elim (fun h => hfc k h) (fun h => Nat.le_trans hszc h)
              try (have hs7' : IsNot xa8 xc8 g7 := fun k hk e => (hfA k hk).elim (fun h => hs7 k h e) (fun h => by have := h7.lt; omega))
              try (replace h7 := h7.keep hkA (fun e => hs7 g7 e rfl))
              try (replace hs7 := hs7'; clear hs7')
              try (have hs10' : IsNot xa8 xc8 g10 := fun k hk e => (hfA k hk).elim (fun h => hs10 k h e) (fun h => by have := h10.lt; omega))
              try (replace h10 := h10.keep hkA (fun e => hs10 g10 e rfl))
              try (replace hs10 := hs10'; clear hs10')
              replace hoc := hoA
              clear hoA hkA hfA hszc
              clear h7 hs7
              refine (fun hHeld => hK _ _ hHeld ?_) (trivial)
              clear hK
              try simp only [Act.put, List.setIfInBounds_toArray, List.set_cons_zero, List.set_cons_succ]
              refine onlyL (i := 9) rfl (by kernel_rfl) (fun K hK => ?_)
              go_simp
              refine (refMac_walk (cap := 32) ((hpr.keep0 hKB).row8 hpb hpl (by omega)) (hoc.row (areB_wf HMB.out)) (fun h => by have h1 := hoc.nil h; have h2 := hoc.le; exact ⟨h1, by omega⟩) (by omega) (by have := HIM.out; omega)).mono ?_
              rintro e w9 ⟨rfl, qk⟩
              rw [HXE.out]
              clear hoc hfc
              try clear hs10
              refine (fun hHeld => hK _ _ hHeld ?_) (trivial)
              clear hK
              try simp only [Act.put, List.setIfInBounds_toArray, List.set_cons_zero, List.set_cons_succ]
              replace hKB := hKB.trans qk
              replace h10 := h10.keep0 qk
              refine onlyL (i := 11) rfl (by kernel_rfl) (fun K hK => ?_)
              refine step_store rfl 36 _ _ rfl g10 rfl (byteV D) rfl h10 (by rw [hDv, HZ32.out]) (by rw [hDv]; exact Tryd.infoH) (byteV_one _) ?_
              intro w11 hb11 hk11 hs11
              clear hs11
              replace hKB := hKB.step hk11 (fun i hi => .inr (by rw [show i = g10 from hi]; exact hg10'))
              refine (fun hHeld => hK _ _ hHeld ?_) (trivial)
              clear hK
              try simp only [Act.put, List.setIfInBounds_toArray, List.set_cons_zero, List.set_cons_succ]
              refine wpAnyH_done (by kernel_rfl) ?_ _
              clear hpr hls hin hHeld
              have HSZ := Lib.hid (show wr.heap.size ≤ w11.heap.size from (hkd.trans hKB).size)
              have HLO := Lib.hid hout.lt
              have HB := Lib.hid (refBytes_walk (cap := 32) (hb11.row8 hsb hst (by omega)) (by omega))
              clear hb11
              go_wp2_with fail
              refine HB.out.mono ?_
              rintro e w12 ⟨a12, c12, rfl, ho12, hk12, hf12⟩
              rw [hst] at ho12 ⊢
              have hKc := (hkd.trans hKB).trans hk12
              have hout12 := hout.keep0 hKc
              have hkR12 := hkr.trans hKc
              have hr12 := ho12.row (areB_wf hsb)
              have hn12 : a12 = none → c12 = 0 ∧ 32 = 0 := fun h => by have := ho12.nilB h; omega
              have hna : ∀ k, blkOf a12 k → ¬ blkOf a k := fun k hk hk' => by have h1 := hf12 k hk; have h2 := HLO.out k hk'; have h3 := HSZ.out; omega
              have hf12' : ∀ k, blkOf a12 k → k < w12.heap.size := ho12.lt
              clear HB hk12 hf12 hKc hKB hout hkr hkd ho12
              go_wp2_with (at_builtin; refine wpl_append rfl _ _ 27 rfl 5 1 1 Tryd.underlying27 Tryd.info8s (by omega) a cap (32 * i) _ rfl hout12 _ 32 c12 (byteV D) rfl (hr12.src hn12) (by unfold maxLen; omega) (by omega) ?_)
              intro a6 cap6 w6 ho6 hk6 hf6 _
              rw [byteV_append, ← HON.out] at ho6
              have hG6 : DerGo wR gr root info (i + 1) a6 cap6 a12 32 c12 w6 := by
                refine ⟨ho6, ?_, hkR12.step hk6 (fun k hk => .inr (hfr k hk)), fun k hk => ?_, fun k hk hk' => ?_⟩
                · rw [HDD.out]
                  exact ⟨hr12.keepF hk6 (fun _ k hk hk' => hna k hk hk'), hn12⟩
                · rcases hf6 k hk with h | h
                  · exact hfr k h
                  · rw [h]; exact hkR12.size
                · rcases hf6 k hk' with h | h
                  · exact hna k hk h
                  · have := hf12' k hk; omega
              clear ho6 hk6 hf6 hout12 hr12 hkR12 hn12 hna hf12'
              go_wp2_with fail
              go_roundw
              case rel => first | exact ⟨i + 1, a6, cap6, _, _, _, by omega, by rw [show 32 * (i + 1) = 32 * i + 32 by omega], rfl, by go_num, hG6⟩ | ((repeat apply Exists.intro); exact ⟨⟨i + 1, a6, cap6, _, _, _, by omega, by rw [show 32 * (i + 1) = 32 * i + 32 by omega], rfl, by go_num, hG6⟩, rfl⟩)
              case measure => simp [intOf]; omega
          · skip
            refine step_allocK rfl 36 rfl Z hzv ?_
            intro g10 w10 hg10 h10 qk
            try (have hs10 : IsNot _ _ g10 := fun k hk e => by have := hoc.lt k hk; omega)
            have hg10' : v0.heap.size ≤ g10 := by have := hKB.size; omega
            clear hg10
            refine (fun hHeld => hK _ _ hHeld ?_) (trivial)
            clear hK
            try simp only [Act.put, List.setIfInBounds_toArray, List.set_cons_zero, List.set_cons_succ]
            replace hKB := hKB.trans qk
            replace h7 := h7.keep0 qk
            refine onlyL (i := 2) rfl (by kernel_rfl) (fun K hK => ?_)
            go_simp
            refine (refBytes_walk (len := ln) (cap := lc) ((hls.keep hKB).1) (by omega)).mono ?_
            rintro e w2 ⟨a2, c2, rfl, ho2, qk, hf2⟩
            have hoc := ho2.mid
            have hfc : ∀ k, midOf a2 c2 k → v0.heap.size ≤ k := fun k hk => Nat.le_trans hKB.size (hf2 k hk.2)
            try (have hs7 : IsNot a2 c2 g7 := fun k hk e => by have := hf2 k hk.2; have := h7.lt; omega)
            try (have hs10 : IsNot a2 c2 g10 := fun k hk e => by have := hf2 k hk.2; have := h10.lt; omega)
            clear ho2 hf2
            refine (fun hHeld => hK _ _ hHeld ?_) (trivial)
            clear hK
            try simp only [Act.put, List.setIfInBounds_toArray, List.set_cons_zero, List.set_cons_succ]
            replace hKB := hKB.trans qk
            replace h7 := h7.keep0 qk
            replace h10 := h10.keep0 qk
            refine onlyL (i := 4) rfl (by kernel_rfl) (fun K hK => ?_)
            refine step_appendM rfl _ _ 27 rfl 5 Tryd.underlying27 Tryd.info8s _ _ _ _ rfl hoc ia im ic info rfl ((hin.keep hKB).1.src (hin.keep hKB).2) (by have := HIM.out; omega) ?_
            intro xa4 xc4 w4 hoA hkA hfA hzA
            clear hzA
            have hszc := hKB.size
            replace hKB := hKB.step hkA (fun i hi => .inr (hfc i hi))
            replace hfc : ∀ k, midOf xa4 xc4 k → v0.heap.size ≤ k := fun k hk => (hfA k hk).elim (fun h => hfc k h) (fun h => Nat.le_trans hszc h)
            try (have hs7' : IsNot xa4 xc4 g7 := fun k hk e => (hfA k hk).elim (fun h => hs7 k h e) (fun h => by have := h7.lt; omega))
            try (replace h7 := h7.keep hkA (fun e => hs7 g7 e rfl))
            try (replace hs7 := hs7'; clear hs7')
            try (have hs10' : IsNot xa4 xc4 g10 := fun k hk e => (hfA k hk).elim (fun h => hs10 k h e) (fun h => by have := h10.lt; omega))
            try (replace h10 := h10.keep hkA (fun e => hs10 g10 e rfl))
            try (replace hs10 := hs10'; clear hs10')
            replace hoc := hoA
            clear hoA hkA hfA hszc
            refine (fun hHeld => hK _ _ hHeld ?_) (trivial)
            clear hK
            try simp only [Act.put, List.setIfInBounds_toArray, List.set_cons_zero, List.set_cons_succ]
            refine onlyL (i := 8) rfl (by kernel_rfl) (fun K hK => ?_)
            refine step_appendM rfl _ _ 27 rfl 5 Tryd.underlying27 Tryd.info8s _ _ _ _ rfl hoc (some ⟨g7, 0, none⟩) 1 1 [(i : Int) + 1] rfl (Src.one h7 rfl) (by have := HIM.out; omega) ?_
            intro xa8 xc8 w8 hoA hkA hfA hzA
            clear hzA
            have hszc := hKB.size
            replace hKB := hKB.step hkA (fun i hi => .inr (hfc i hi))
            replace hfc : ∀ k, midOf xa8 xc8 k → v0.heap.size ≤ k := fun k hk => (hfA k hk).elim (fun h => hfc k h) (fun h => Nat.le_trans hszc h)
            try (have hs7' : IsNot xa8 xc8 g7 := fun k hk e => (hfA k hk).elim (fun h => hs7 k h e) (fun h => by have := h7.lt; omega))
            try (replace h7 := h7.keep hkA (fun e => hs7 g7 e rfl))
            try (replace hs7 := hs7'; clear hs7')
            try (have hs10' : IsNot xa8 xc8 g10 := fun k hk e => (hfA k hk).elim (fun h => hs10 k h e) (fun h => by have := h10.lt; omega))
            try (replace h10 := h10.keep hkA (fun e => hs10 g10 e rfl))
            try (replace hs10 := hs10'; clear hs10')
            replace hoc := hoA
            clear hoA hkA hfA hszc
            clear h7 hs7
            refine (fun hHeld => hK _ _ hHeld ?_) (trivial)
            clear hK
            try simp only [Act.put, List.setIfInBounds_toArray, List.set_cons_zero, List.set_cons_succ]
            refine onlyL (i := 9) rfl (by kernel_rfl) (fun K hK => ?_)
            go_simp
            refine (refMac_walk (cap := 32) ((hpr.keep0 hKB).row8 hpb hpl (by omega)) (hoc.row (areB_wf HMB.out)) (fun h => by have h1 := hoc.nil h; have h2 := hoc.le; exact ⟨h1, by omega⟩) (by omega) (by have := HIM.out; omega)).mono ?_
            rintro e w9 ⟨rfl, qk⟩
            rw [HXE.out]
            clear hoc hfc
            try clear hs10
            refine (fun hHeld => hK _ _ hHeld ?_) (trivial)
            clear hK
            try simp only [Act.put, List.setIfInBounds_toArray, List.set_cons_zero, List.set_cons_succ]
            replace hKB := hKB.trans qk
            replace h10 := h10.keep0 qk
            refine onlyL (i := 11) rfl (by kernel_rfl) (fun K hK => ?_)
            refine step_store rfl 36 _ _ rfl g10 rfl (byteV D) rfl h10 (by rw [hDv, HZ32.out]) (by rw [hDv]; exact Tryd.infoH) (byteV_one _) ?_
            intro w11 hb11 hk11 hs11
            clear hs11
            replace hKB := hKB.step hk11 (fun i hi => .inr (by rw [show i = g10 from hi]; exact hg10'))
            refine (fun hHeld => hK _ _ hHeld ?_) (trivial)
            clear hK
            try simp only [Act.put, List.setIfInBounds_toArray, List.set_cons_zero, List.set_cons_succ]
            refine wpAnyH_done (by kernel_rfl) ?_ _
            clear hpr hls hin hHeld
            have HSZ := Lib.hid (show wr.heap.size ≤ w11.heap.size from (hkd.trans hKB).size)
            have HLO := Lib.hid hout.lt
            have HB := Lib.hid (refBytes_walk (cap := 32) (hb11.row8 hsb hst (by omega)) (by omega))
            clear hb11
            go_wp2_with fail
            refine HB.out.mono ?_
            rintro e w12 ⟨a12, c12, rfl, ho12, hk12, hf12⟩
            rw [hst] at ho12 ⊢
            have hKc := (hkd.trans hKB).trans hk12
            have hout12 := hout.keep0 hKc
            have hkR12 := hkr.trans hKc
            have hr12 := ho12.row (areB_wf hsb)
            have hn12 : a12 = none → c12 = 0 ∧ 32 = 0 := fun h => by have := ho12.nilB h; omega
            have hna : ∀ k, blkOf a12 k → ¬ blkOf a k := fun k hk hk' => by have h1 := hf12 k hk; have h2 := HLO.out k hk'; have h3 := HSZ.out; omega
            have hf12' : ∀ k, blkOf a12 k → k < w12.heap.size := ho12.lt
            clear HB hk12 hf12 hKc hKB hout hkr hkd ho12
            go_wp2_with (at_builtin; refine wpl_append rfl _ _ 27 rfl 5 1 1 Tryd.underlying27 Tryd.info8s (by omega) a cap (32 * i) _ rfl hout12 _ 32 c12 (byteV D) rfl (hr12.src hn12) (by unfold maxLen; omega) (by omega) ?_)
            intro a6 cap6 w6 ho6 hk6 hf6 _
            rw [byteV_append, ← HON.out] at ho6
            have hG6 : DerGo wR gr root info (i + 1) a6 cap6 a12 32 c12 w6 := by
              refine ⟨ho6, ?_, hkR12.step hk6 (fun k hk => .inr (hfr k hk)), fun k hk => ?_, fun k hk hk' => ?_⟩
              · rw [HDD.out]
                exact ⟨hr12.keepF hk6 (fun _ k hk hk' => hna k hk hk'), hn12⟩
              · rcases hf6 k hk with h | h
                · exact hfr k h
                · rw [h]; exact hkR12.size
              · rcases hf6 k hk' with h | h
                · exact hna k hk h
                · have := hf12' k hk; omega
            clear ho6 hk6 hf6 hout12 hr12 hkR12 hn12 hna hf12'
            go_wp2_with fail
            go_roundw
            case rel => first | exact ⟨i + 1, a6, cap6, _, _, _, by omega, by rw [show 32 * (i + 1) = 32 * i + 32 by omega], rfl, by go_num, hG6⟩ | ((repeat apply Exists.intro); exact ⟨⟨i + 1, a6, cap6, _, _, _, by omega, by rw [show 32 * (i + 1) = 32 * i + 32 by omega], rfl, by go_num, hG6⟩, rfl⟩)
            case measure => simp [intOf]; omega
        · skip
          refine step_allocK rfl 36 rfl Z hzv ?_
          intro g10 w10 hg10 h10 qk
          try (have hs10 : IsNot _ _ g10 := fun k hk e => by have := hoc.lt k hk; omega)
          have hg10' : v0.heap.size ≤ g10 := by have := hKB.size; omega
          clear hg10
          refine (fun hHeld => hK _ _ hHeld ?_) (trivial)
          clear hK
          try simp only [Act.put, List.setIfInBounds_toArray, List.set_cons_zero, List.set_cons_succ]
          replace hKB := hKB.trans qk
          refine bothL (i := 2) (j := 7) rfl rfl (by kernel_rfl) (fun K hK => ?_) (fun K hK => ?_)
          · skip
            go_simp
            refine (refBytes_walk (len := ln) (cap := lc) ((hls.keep hKB).1) (by omega)).mono ?_
            rintro e w2 ⟨a2, c2, rfl, ho2, qk, hf2⟩
            have hoc := ho2.mid
            have hfc : ∀ k, midOf a2 c2 k → v0.heap.size ≤ k := fun k hk => Nat.le_trans hKB.size (hf2 k hk.2)
            try (have hs7 : IsNot a2 c2 g7 := fun k hk e => by have := hf2 k hk.2; have := h7.lt; omega)
            try (have hs10 : IsNot a2 c2 g10 := fun k hk e => by have := hf2 k hk.2; have := h10.lt; omega)
            clear ho2 hf2
            refine (fun hHeld => hK _ _ hHeld ?_) (trivial)
            clear hK
            try simp only [Act.put, List.setIfInBounds_toArray, List.set_cons_zero, List.set_cons_succ]
            replace hKB := hKB.trans qk
            replace h10 := h10.keep0 qk
            refine bothL (i := 4) (j := 7) rfl rfl (by kernel_rfl) (fun K hK => ?_) (fun K hK => ?_)
            · skip
              refine step_appendM rfl _ _ 27 rfl 5 Tryd.underlying27 Tryd.info8s _ _ _ _ rfl hoc ia im ic info rfl ((hin.keep hKB).1.src (hin.keep hKB).2) (by have := HIM.out; omega) ?_
              intro xa4 xc4 w4 hoA hkA hfA hzA
              clear hzA
              have hszc := hKB.size
              replace hKB := hKB.step hkA (fun i hi => .inr (hfc i hi))
              replace hfc : ∀ k, midOf xa4 xc4 k → v0.heap.size ≤ k := fun k hk => (hfA k hk).elim (fun h => hfc k h) (fun h => Nat.le_trans hszc h)
              try (have hs7' : IsNot xa4 xc4 g7 := fun k hk e => (hfA k hk).elim (fun h => hs7 k h e) (fun h => by have := h7.lt; omega))
              try (replace h7 := h7.keep hkA (fun e => hs7 g7 e rfl))
              try (replace hs7 := hs7'; clear hs7')
              try (have hs10' : IsNot xa4 xc4 g10 := fun k hk e => (hfA k hk).elim (fun h => hs10 k h e) (fun h => by have := h10.lt; omega))
              try (replace h10 := h10.keep hkA (fun e => hs10 g10 e rfl))
              try (replace hs10 := hs10'; clear hs10')
              replace hoc := hoA
              clear hoA hkA hfA hszc
              refine (fun hHeld => hK _ _ hHeld ?_) (trivial)
              clear hK
              try simp only [Act.put, List.setIfInBounds_toArray, List.set_cons_zero, List.set_cons_succ]
              refine onlyL (i := 7) rfl (by kernel_rfl) (fun K hK => ?_)
              refine step_bsK rfl _ 5 1 _ rfl [.int .u8 ((i : Int) + 1)] Tryd.underlying27 Tryd.bs8 rfl (by decide) (by decide) (by simp [Act.eval]) (by simp [Value.cells]) ?_
              intro g7 w7 hg7 h7 qk
              try (have hs7 : IsNot _ _ g7 := fun k hk e => by have := hoc.lt k hk; omega)
              clear hg7
              refine (fun hHeld => hK _ _ hHeld ?_) (trivial)
              clear hK
              try simp only [Act.put, List.setIfInBounds_toArray, List.set_cons_zero, List.set_cons_succ]
              replace hKB := hKB.trans qk
              replace h10 := h10.keep0 qk
              replace hoc := hoc.keep0 qk
              refine onlyL (i := 8) rfl (by kernel_rfl) (fun K hK => ?_)
              refine step_appendM rfl _ _ 27 rfl 5 Tryd.underlying27 Tryd.info8s _ _ _ _ rfl hoc (some ⟨g7, 0, none⟩) 1 1 [(i : Int) + 1] rfl (Src.one h7 rfl) (by have := HIM.out; omega) ?_
              intro xa8 xc8 w8 hoA hkA hfA hzA
              clear hzA
              have hszc := hKB.size
              replace hKB := hKB.step hkA (fun i hi => .inr (hfc i hi))
              replace hfc : ∀ k, midOf xa8 xc8 k → v0.heap.size ≤ k := fun k hk => (hfA k hk).elim (fun h => hfc k h) (fun h => Nat.le_trans hszc h)
              try (have hs7' : IsNot xa8 xc8 g7 := fun k hk e => (hfA k hk).elim (fun h => hs7 k h e) (fun h => by have := h7.lt; omega))
              try (replace h7 := h7.keep hkA (fun e => hs7 g7 e rfl))
              try (replace hs7 := hs7'; clear hs7')
              try (have hs10' : IsNot xa8 xc8 g10 := fun k hk e => (hfA k hk).elim (fun h => hs10 k h e) (fun h => by have := h10.lt; omega))
              try (replace h10 := h10.keep hkA (fun e => hs10 g10 e rfl))
              try (replace hs10 := hs10'; clear hs10')
              replace hoc := hoA
              clear hoA hkA hfA hszc
              clear h7 hs7
              refine (fun hHeld => hK _ _ hHeld ?_) (trivial)
              clear hK
              try simp only [Act.put, List.setIfInBounds_toArray, List.set_cons_zero, List.set_cons_succ]
              refine onlyL (i := 9) rfl (by kernel_rfl) (fun K hK => ?_)
              go_simp
              refine (refMac_walk (cap := 32) ((hpr.keep0 hKB).row8 hpb hpl (by omega)) (hoc.row (areB_wf HMB.out)) (fun h => by have h1 := hoc.nil h; have h2 := hoc.le; exact ⟨h1, by omega⟩) (by omega) (by have := HIM.out; omega)).mono ?_
              rintro e w9 ⟨rfl, qk⟩
              rw [HXE.out]
              clear hoc hfc
              try clear hs10
              refine (fun hHeld => hK _ _ hHeld ?_) (trivial)
              clear hK
              try simp only [Act.put, List.setIfInBounds_toArray, List.set_cons_zero, List.set_cons_succ]
              replace hKB := hKB.trans qk
              replace h10 := h10.keep0 qk
              refine onlyL (i := 11) rfl (by kernel_rfl) (fun K hK => ?_)
              refine step_store rfl 36 _ _ rfl g10 rfl (byteV D) rfl h10 (by rw [hDv, HZ32.out]) (by rw [hDv]; exact Tryd.infoH) (byteV_one _) ?_
              intro w11 hb11 hk11 hs11
              clear hs11
              replace hKB := hKB.step hk11 (fun i hi => .inr (by rw [show i = g10 from hi]; exact hg10'))
              refine (fun hHeld => hK _ _ hHeld ?_) (trivial)
              clear hK
              try simp only [Act.put, List.setIfInBounds_toArray, List.set_cons_zero, List.set_cons_succ]
              refine wpAnyH_done (by kernel_rfl) ?_ _
              clear hpr hls hin hHeld
              have HSZ := Lib.hid (show wr.heap.size ≤ w11.heap.size from (hkd.trans hKB).size)
              have HLO := Lib.hid hout.lt
              have HB := Lib.hid (refBytes_walk (cap := 32) (hb11.row8 hsb hst (by omega)) (by omega))
              clear hb11
              go_wp2_with fail
              refine HB.out.mono ?_
              rintro e w12 ⟨a12, c12, rfl, ho12, hk12, hf12⟩
              rw [hst] at ho12 ⊢
              have hKc := (hkd.trans hKB).trans hk12
              have hout12 := hout.keep0 hKc
              have hkR12 := hkr.trans hKc
              have hr12 := ho12.row (areB_wf hsb)
              have hn12 : a12 = none → c12 = 0 ∧ 32 = 0 := fun h => by have := ho12.nilB h; omega
              have hna : ∀ k, blkOf a12 k → ¬ blkOf a k := fun k hk hk' => by have h1 := hf12 k hk; have h2 := HLO.out k hk'; have h3 := HSZ.out; omega
              have hf12' : ∀ k, blkOf a12 k → k < w12.heap.size := ho12.lt
              clear HB hk12 hf12 hKc hKB hout hkr hkd ho12
              go_wp2_with (at_builtin; refine wpl_append rfl _ _ 27 rfl 5 1 1 Tryd.underlying27 Tryd.info8s (by omega) a cap (32 * i) _ rfl hout12 _ 32 c12 (byteV D) rfl (hr12.src hn12) (by unfold maxLen; omega) (by omega) ?_)
              intro a6 cap6 w6 ho6 hk6 hf6 _
              rw [byteV_append, ← HON.out] at ho6
              have hG6 : DerGo wR gr root info (i + 1) a6 cap6 a12 32 c12 w6 := by
                refine ⟨ho6, ?_, hkR12.step hk6 (fun k hk => .inr (hfr k hk)), fun k hk => ?_, fun k hk hk' => ?_⟩
                · rw [HDD.out]
                  exact ⟨hr12.keepF hk6 (fun _ k hk hk' => hna k hk hk'), hn12⟩
                · rcases hf6 k hk with h | h
                  · exact hfr k h
                  · rw [h]; exact hkR12.size
                · rcases hf6 k hk' with h | h
                  · exact hna k hk h
                  · have := hf12' k hk; omega
              clear ho6 hk6 hf6 hout12 hr12 hkR12 hn12 hna hf12'
              go_wp2_with fail
              go_roundw
              case rel => first | exact ⟨i + 1, a6, cap6, _, _, _, by omega, by rw [show 32 * (i + 1) = 32 * i + 32 by omega], rfl, by go_num, hG6⟩ | ((repeat apply Exists.intro); exact ⟨⟨i + 1, a6, cap6, _, _, _, by omega, by rw [show 32 * (i + 1) = 32 * i + 32 by omega], rfl, by go_num, hG6⟩, rfl⟩)
              case measure => simp [intOf]; omega
            · skip
              refine step_bsK rfl _ 5 1 _ rfl [.int .u8 ((i : Int) + 1)] Tryd.underlying27 Tryd.bs8 rfl (by decide) (by decide) (by simp [Act.eval]) (by simp [Value.cells]) ?_
              intro g7 w7 hg7 h7 qk
              try (have hs7 : IsNot _ _ g7 := fun k hk e => by have := hoc.lt k hk; omega)
              clear hg7
              refine (fun hHeld => hK _ _ hHeld ?_) (trivial)
              clear hK
              try simp only [Act.put, List.setIfInBounds_toArray, List.set_cons_zero, List.set_cons_succ]
              replace hKB := hKB.trans qk
              replace h10 := h10.keep0 qk
              replace hoc := hoc.keep0 qk
              refine onlyL (i := 4) rfl (by kernel_rfl) (fun K hK => ?_)
              refine step_appendM rfl _ _ 27 rfl 5 Tryd.underlying27 Tryd.info8s _ _ _ _ rfl hoc ia im ic info rfl ((hin.keep hKB).1.src (hin.keep hKB).2) (by have := HIM.out; omega) ?_
              intro xa4 xc4 w4 hoA hkA hfA hzA
              clear hzA
              have hszc := hKB.size
              replace hKB := hKB.step hkA (fun i hi => .inr (hfc i hi))
              replace hfc : ∀ k, midOf xa4 xc4 k → v0.heap.size ≤ k := fun k hk => (hfA k hk).elim (fun h => hfc k h) (fun h => Nat.le_trans hszc h)
              try (have hs7' : IsNot xa4 xc4 g7 := fun k hk e => (hfA k hk).elim (fun h => hs7 k h e) (fun h => by have := h7.lt; omega))
              try (replace h7 := h7.keep hkA (fun e => hs7 g7 e rfl))
              try (replace hs7 := hs7'; clear hs7')
              try (have hs10' : IsNot xa4 xc4 g10 := fun k hk e => (hfA k hk).elim (fun h => hs10 k h e) (fun h => by have := h10.lt; omega))
              try (replace h10 := h10.keep hkA (fun e => hs10 g10 e rfl))
              try (replace hs10 := hs10'; clear hs10')
              replace hoc := hoA
              clear hoA hkA hfA hszc
              refine (fun hHeld => hK _ _ hHeld ?_) (trivial)
              clear hK
              try simp only [Act.put, List.setIfInBounds_toArray, List.set_cons_zero, List.set_cons_succ]
              refine onlyL (i := 8) rfl (by kernel_rfl) (fun K hK => ?_)
              refine step_appendM rfl _ _ 27 rfl 5 Tryd.underlying27 Tryd.info8s _ _ _ _ rfl hoc (some ⟨g7, 0, none⟩) 1 1 [(i : Int) + 1] rfl (Src.one h7 rfl) (by have := HIM.out; omega) ?_
              intro xa8 xc8 w8 hoA hkA hfA hzA
              clear hzA
              have hszc := hKB.size
              replace hKB := hKB.step hkA (fun i hi => .inr (hfc i hi))
              replace hfc : ∀ k, midOf xa8 xc8 k → v0.heap.size ≤ k := fun k hk => (hfA k hk).elim (fun h => hfc k h) (fun h => Nat.le_trans hszc h)
              try (have hs7' : IsNot xa8 xc8 g7 := fun k hk e => (hfA k hk).elim (fun h => hs7 k h e) (fun h => by have := h7.lt; omega))
              try (replace h7 := h7.keep hkA (fun e => hs7 g7 e rfl))
              try (replace hs7 := hs7'; clear hs7')
              try (have hs10' : IsNot xa8 xc8 g10 := fun k hk e => (hfA k hk).elim (fun h => hs10 k h e) (fun h => by have := h10.lt; omega))
              try (replace h10 := h10.keep hkA (fun e => hs10 g10 e rfl))
              try (replace hs10 := hs10'; clear hs10')
              replace hoc := hoA
              clear hoA hkA hfA hszc
              clear h7 hs7
              refine (fun hHeld => hK _ _ hHeld ?_) (trivial)
              clear hK
              try simp only [Act.put, List.setIfInBounds_toArray, List.set_cons_zero, List.set_cons_succ]
              refine onlyL (i := 9) rfl (by kernel_rfl) (fun K hK => ?_)
              go_simp
              refine (refMac_walk (cap := 32) ((hpr.keep0 hKB).row8 hpb hpl (by omega)) (hoc.row (areB_wf HMB.out)) (fun h => by have h1 := hoc.nil h; have h2 := hoc.le; exact ⟨h1, by omega⟩) (by omega) (by have := HIM.out; omega)).mono ?_
              rintro e w9 ⟨rfl, qk⟩
              rw [HXE.out]
              clear hoc hfc
              try clear hs10
              refine (fun hHeld => hK _ _ hHeld ?_) (trivial)
              clear hK
              try simp only [Act.put, List.setIfInBounds_toArray, List.set_cons_zero, List.set_cons_succ]
              replace hKB := hKB.trans qk
              replace h10 := h10.keep0 qk
              refine onlyL (i := 11) rfl (by kernel_rfl) (fun K hK => ?_)
              refine step_store rfl 36 _ _ rfl g10 rfl (byteV D) rfl h10 (by rw [hDv, HZ32.out]) (by rw [hDv]; exact Tryd.infoH) (byteV_one _) ?_
              intro w11 hb11 hk11 hs11
              clear hs11
              replace hKB := hKB.step hk11 (fun i hi => .inr (by rw [show i = g10 from hi]; exact hg10'))
              refine (fun hHeld => hK _ _ hHeld ?_) (trivial)
              clear hK
              try simp only [Act.put, List.setIfInBounds_toArray, List.set_cons_zero, List.set_cons_succ]
              refine wpAnyH_done (by kernel_rfl) ?_ _
              clear hpr hls hin hHeld
              have HSZ := Lib.hid (show wr.heap.size ≤ w11.heap.size from (hkd.trans hKB).size)
              have HLO := Lib.hid hout.lt
              have HB := Lib.hid (refBytes_walk (cap := 32) (hb11.row8 hsb hst (by omega)) (by omega))
              clear hb11
              go_wp2_with fail
              refine HB.out.mono ?_
              rintro e w12 ⟨a12, c12, rfl, ho12, hk12, hf12⟩
              rw [hst] at ho12 ⊢
              have hKc := (hkd.trans hKB).trans hk12
              have hout12 := hout.keep0 hKc
              have hkR12 := hkr.trans hKc
              have hr12 := ho12.row (areB_wf hsb)
              have hn12 : a12 = none → c12 = 0 ∧ 32 = 0 := fun h => by have := ho12.nilB h; omega
              have hna : ∀ k, blkOf a12 k → ¬ blkOf a k := fun k hk hk' => by have h1 := hf12 k hk; have h2 := HLO.out k hk'; have h3 := HSZ.out; omega
              have hf12' : ∀ k, blkOf a12 k → k < w12.heap.size := ho12.lt
              clear HB hk12 hf12 hKc hKB hout hkr hkd ho12
              go_wp2_with (at_builtin; refine wpl_append rfl _ _ 27 rfl 5 1 1 Tryd.underlying27 Tryd.info8s (by omega) a cap (32 * i) _ rfl hout12 _ 32 c12 (byteV D) rfl (hr12.src hn12) (by unfold maxLen; omega) (by omega) ?_)
              intro a6 cap6 w6 ho6 hk6 hf6 _
              rw [byteV_append, ← HON.out] at ho6
              have hG6 : DerGo wR gr root info (i + 1) a6 cap6 a12 32 c12 w6 := by
                refine ⟨ho6, ?_, hkR12.step hk6 (fun k hk => .inr (hfr k hk)), fun k hk => ?_, fun k hk hk' => ?_⟩
                · rw [HDD.out]
                  exact ⟨hr12.keepF hk6 (fun _ k hk hk' => hna k hk hk'), hn12⟩
                · rcases hf6 k hk with h | h
                  · exact hfr k h
                  · rw [h]; exact hkR12.size
                · rcases hf6 k hk' with h | h
                  · exact hna k hk h
                  · have := hf12' k hk; omega
              clear ho6 hk6 hf6 hout12 hr12 hkR12 hn12 hna hf12'
              go_wp2_with fail
              go_roundw
              case rel => first | exact ⟨i + 1, a6, cap6, _, _, _, by omega, by rw [show 32 * (i + 1) = 32 * i + 32 by omega], rfl, by go_num, hG6⟩ | ((repeat apply Exists.intro); exact ⟨⟨i + 1, a6, cap6, _, _, _, by omega, by rw [show 32 * (i + 1) = 32 * i + 32 by omega], rfl, by go_num, hG6⟩, rfl⟩)
              case measure => simp [intOf]; omega
          · skip
            refine step_bsK rfl _ 5 1 _ rfl [.int .u8 ((i : Int) + 1)] Tryd.underlying27 Tryd.bs8 rfl (by decide) (by decide) (by simp [Act.eval]) (by simp [Value.cells]) ?_
            intro g7 w7 hg7 h7 qk
            try (have hs7 : IsNot _ _ g7 := fun k hk e => by have := hoc.lt k hk; omega)
            clear hg7
            refine (fun hHeld => hK _ _ hHeld ?_) (trivial)
            clear hK
            try simp only [Act.put, List.setIfInBounds_toArray, List.set_cons_zero, List.set_cons_succ]
            replace hKB := hKB.trans qk
            replace h10 := h10.keep0 qk
            refine onlyL (i := 2) rfl (by kernel_rfl) (fun K hK => ?_)
            go_simp
            refine (refBytes_walk (len := ln) (cap := lc) ((hls.keep hKB).1) (by omega)).mono ?_
            rintro e w2 ⟨a2, c2, rfl, ho2, qk, hf2⟩
            have hoc := ho2.mid
            have hfc : ∀ k, midOf a2 c2 k → v0.heap.size ≤ k := fun k hk => Nat.le_trans hKB.size (hf2 k hk.2)
            try (have hs7 : IsNot a2 c2 g7 := fun k hk e => by have := hf2 k hk.2; have := h7.lt; omega)
            try (have hs10 : IsNot a2 c2 g10 := fun k hk e => by have := hf2 k hk.2; have := h10.lt; omega)
            clear ho2 hf2
            refine (fun hHeld => hK _ _ hHeld ?_) (trivial)
            clear hK
            try simp only [Act.put, List.setIfInBounds_toArray, List.set_cons_zero, List.set_cons_succ]
            replace hKB := hKB.trans qk
            replace h10 := h10.keep0 qk
            replace h7 := h7.keep0 qk
            refine onlyL (i := 4) rfl (by kernel_rfl) (fun K hK => ?_)
            refine step_appendM rfl _ _ 27 rfl 5 Tryd.underlying27 Tryd.info8s _ _ _ _ rfl hoc ia im ic info rfl ((hin.keep hKB).1.src (hin.keep hKB).2) (by have := HIM.out; omega) ?_
            intro xa4 xc4 w4 hoA hkA hfA hzA
            clear hzA
            have hszc := hKB.size
            replace hKB := hKB.step hkA (fun i hi => .inr (hfc i hi))
            replace hfc : ∀ k, midOf xa4 xc4 k → v0.heap.size ≤ k := fun k hk => (hfA k hk).elim (fun h => hfc k h) (fun h => Nat.le_trans hszc h)
            try (have hs7' : IsNot xa4 xc4 g7 := fun k hk e => (hfA k hk).elim (fun h => hs7 k h e) (fun h => by have := h7.lt; omega))
            try (replace h7 := h7.keep hkA (fun e => hs7 g7 e rfl))
            try (replace hs7 := hs7'; clear hs7')
            try (have hs10' : IsNot xa4 xc4 g10 := fun k hk e => (hfA k hk).elim (fun h => hs10 k h e) (fun h => by have := h10.lt; omega))
            try (replace h10 := h10.keep hkA (fun e => hs10 g10 e rfl))
            try (replace hs10 := hs10'; clear hs10')
            replace hoc := hoA
            clear hoA hkA hfA hszc
            refine (fun hHeld => hK _ _ hHeld ?_) (trivial)
            clear hK
            try simp only [Act.put, List.setIfInBounds_toArray, List.set_cons_zero, List.set_cons_succ]
            refine onlyL (i := 8) rfl (by kernel_rfl) (fun K hK => ?_)
            refine step_appendM rfl _ _ 27 rfl 5 Tryd.underlying27 Tryd.info8s _ _ _ _ rfl hoc (some ⟨g7, 0, none⟩) 1 1 [(i : Int) + 1] rfl (Src.one h7 rfl) (by have := HIM.out; omega) ?_
            intro xa8 xc8 w8 hoA hkA hfA hzA
            clear hzA
            have hszc := hKB.size
            replace hKB := hKB.step hkA (fun i hi => .inr (hfc i hi))
            replace hfc : ∀ k, midOf xa8 xc8 k → v0.heap.size ≤ k := fun k hk => (hfA k hk).elim (fun h => hfc k h) (fun h => Nat.le_trans hszc h)
            try (have hs7' : IsNot xa8 xc8 g7 := fun k hk e => (hfA k hk).elim (fun h => hs7 k h e) (fun h => by have := h7.lt; omega))
            try (replace h7 := h7.keep hkA (fun e => hs7 g7 e rfl))
            try (replace hs7 := hs7'; clear hs7')
            try (have hs10' : IsNot xa8 xc8 g10 := fun k hk e => (hfA k hk).elim (fun h => hs10 k h e) (fun h => by have := h10.lt; omega))
            try (replace h10 := h10.keep hkA (fun e => hs10 g10 e rfl))
            try (replace hs10 := hs10'; clear hs10')
            replace hoc := hoA
            clear hoA hkA hfA hszc
            clear h7 hs7
            refine (fun hHeld => hK _ _ hHeld ?_) (trivial)
            clear hK
            try simp only [Act.put, List.setIfInBounds_toArray, List.set_cons_zero, List.set_cons_succ]
            refine onlyL (i := 9) rfl (by kernel_rfl) (fun K hK => ?_)
            go_simp
            refine (refMac_walk (cap := 32) ((hpr.keep0 hKB).row8 hpb hpl (by omega)) (hoc.row (areB_wf HMB.out)) (fun h => by have h1 := hoc.nil h; have h2 := hoc.le; exact ⟨h1, by omega⟩) (by omega) (by have := HIM.out; omega)).mono ?_
            rintro e w9 ⟨rfl, qk⟩
            rw [HXE.out]
            clear hoc hfc
            try clear hs10
            refine (fun hHeld => hK _ _ hHeld ?_) (trivial)
            clear hK
            try simp only [Act.put, List.setIfInBounds_toArray, List.set_cons_zero, List.set_cons_succ]
            replace hKB := hKB.trans qk
            replace h10 := h10.keep0 qk
            refine onlyL (i := 11) rfl (by kernel_rfl) (fun K hK => ?_)
            refine step_store rfl 36 _ _ rfl g10 rfl (byteV D) rfl h10 (by rw [hDv, HZ32.out]) (by rw [hDv]; exact Tryd.infoH) (byteV_one _) ?_
            intro w11 hb11 hk11 hs11
            clear hs11
            replace hKB := hKB.step hk11 (fun i hi => .inr (by rw [show i = g10 from hi]; exact hg10'))
            refine (fun hHeld => hK _ _ hHeld ?_) (trivial)
            clear hK
            try simp only [Act.put, List.setIfInBounds_toArray, List.set_cons_zero, List.set_cons_succ]
            refine wpAnyH_done (by kernel_rfl) ?_ _
            clear hpr hls hin hHeld
            have HSZ := Lib.hid (show wr.heap.size ≤ w11.heap.size from (hkd.trans hKB).size)
            have HLO := Lib.hid hout.lt
            have HB := Lib.hid (refBytes_walk (cap := 32) (hb11.row8 hsb hst (by omega)) (by omega))
            clear hb11
            go_wp2_with fail
            refine HB.out.mono ?_
            rintro e w12 ⟨a12, c12, rfl, ho12, hk12, hf12⟩
            rw [hst] at ho12 ⊢
            have hKc := (hkd.trans hKB).trans hk12
            have hout12 := hout.keep0 hKc
            have hkR12 := hkr.trans hKc
            have hr12 := ho12.row (areB_wf hsb)
            have hn12 : a12 = none → c12 = 0 ∧ 32 = 0 := fun h => by have := ho12.nilB h; omega
            have hna : ∀ k, blkOf a12 k → ¬ blkOf a k := fun k hk hk' => by have h1 := hf12 k hk; have h2 := HLO.out k hk'; have h3 := HSZ.out; omega
            have hf12' : ∀ k, blkOf a12 k → k < w12.heap.size := ho12.lt
            clear HB hk12 hf12 hKc hKB hout hkr hkd ho12
            go_wp2_with (at_builtin; refine wpl_append rfl _ _ 27 rfl 5 1 1 Tryd.underlying27 Tryd.info8s (by omega) a cap (32 * i) _ rfl hout12 _ 32 c12 (byteV D) rfl (hr12.src hn12) (by unfold maxLen; omega) (by omega) ?_)
            intro a6 cap6 w6 ho6 hk6 hf6 _
            rw [byteV_append, ← HON.out] at ho6
            have hG6 : DerGo wR gr root info (i + 1) a6 cap6 a12 32 c12 w6 := by
              refine ⟨ho6, ?_, hkR12.step hk6 (fun k hk => .inr (hfr k hk)), fun k hk => ?_, fun k hk hk' => ?_⟩
              · rw [HDD.out]
                exact ⟨hr12.keepF hk6 (fun _ k hk hk' => hna k hk hk'), hn12⟩
              · rcases hf6 k hk with h | h
                · exact hfr k h
                · rw [h]; exact hkR12.size
              · rcases hf6 k hk' with h | h
                · exact hna k hk h
                · have := hf12' k hk; omega
            clear ho6 hk6 hf6 hout12 hr12 hkR12 hn12 hna hf12'
            go_wp2_with fail
            go_roundw
            case rel => first | exact ⟨i + 1, a6, cap6, _, _, _, by omega, by rw [show 32 * (i + 1) = 32 * i + 32 by omega], rfl, by go_num, hG6⟩ | ((repeat apply Exists.intro); exact ⟨⟨i + 1, a6, cap6, _, _, _, by omega, by rw [show 32 * (i + 1) = 32 * i + 32 by omega], rfl, by go_num, hG6⟩, rfl⟩)
            case measure => simp [intOf]; omega
      · have hlen := outL_len root info i
        have hnc : n ≤ cap := by have := hout.2.1; omega
        have hii : i = (n + 31) / 32 := by omega
        have hrow : Row .u8 wr a n ((outL root info i).take n) := (hout.mid.head (areB_wf (outL_bytes root info i)) n (by omega))
        rw [hii, ← HD.out] at hrow
        have hncI : (n : Int) ≤ cap := by omega
        have HR := Lib.hid (And.intro hrow (And.intro (hKR.trans hkr) hnc))
        clear hrow hlen hout hlast hii hGo hfr hap
        go_wp2_with fail
        all_goals
          go_ret2
          exact ⟨_, cap, rfl, by first | exact HR.out.1 | (simpa using HR.out.1), HR.out.2.1, HR.out.2.2⟩
  · have h0' : (((sn : Nat) : Int) == 0) = false := by simpa using h0
    have hsP := hs
    have hKP := Keeps.refl Nil w
    clear hs
    go_enter Tryd.func14, Tryd.ntmps14
    -- wP : the salt row hsP : PieceOk wP (sa, sn, sc, salt); wP from w: hKP
    have hkl : key.length = kn := hkey.1.llen
    have HM := Lib.hid (refMac_walk (n := sn) (cap := sc) (m := kn) (cm := kc) hsP.1 (hkey.keep hKP).1 (hkey.keep hKP).2 (by omega) (by omega))
    go_wp2_with fail
    refine HM.out.mono ?_
    rintro e w1 ⟨rfl, hk1⟩
    have hK1 := hKP.trans hk1
    have hb := Blk.new w1 Z 36
    have hka := (Keeps.refl Nil w1).alloc (.cells Z.toArray 36)
    have hrl := macL_len salt key
    have hrb := macL_bytes salt key
    have hrv : (byteV (macL salt key)).length = 32 := by rw [byteV_len, hrl]
    have HD := Lib.hid (show deriveL salt key info n = (outL (macL salt key) info ((n + 31) / 32)).take n from rfl)
    clear HM hk1 hsP
    generalize macL salt key = root at *
    go_wp2_with (refine wpl_store rfl 36 _ _ rfl w1.heap.size rfl (byteV root) rfl hb (by rw [hrv, HZ32.out]) (by rw [hrv]; exact Tryd.infoH) (byteV_one root) ?_)
    intro wR hbR hkR hsR
    have hKR : Keeps Nil w wR := (hK1.trans hka).step hkR (fun i hi => .inr (by rw [show i = w1.heap.size from hi]; exact hK1.size))
    have hiR := hinf.keep hKR
    have hlR := hbR.lt
    clear hb hka hkR hsR hK1
    generalize w1.heap.size = gr at *
    have HG := Lib.hid (show DerGo wR gr root info 0 none 0 none 0 0 wR from ⟨Own.nil _ _ _, PieceOk.none _, Keeps.refl _ _, fun k hk => (blkOf_none k hk).elim, fun k hk => (blkOf_none k hk).elim⟩)
    go_wp2_with fail
    go_loopw [11, 12, 13] (fun o l v wr => ∃ (i : Nat) (a : Option Addr) (cap : Nat) (la : Option Addr) (ln lc : Nat), 32 * i < n + 32 ∧ o = .slice a (32 * i) cap ∧ l = .slice la ln lc ∧ v = .int .i64 ((i + 1 : Nat) : Int) ∧ Hid (DerGo wR gr root info i a cap la ln lc wr)) (fun _ _ v _ => 300 - (intOf v).toNat)
    case atStart => exact ⟨0, none, 0, none, 0, 0, by omega, rfl, rfl, rfl, HG.out⟩
    case round =>
      obtain ⟨i, a, cap, la, ln, lc, hi, rfl, rfl, rfl, hGo⟩ := hrel
      clear HG
      obtain ⟨hout, hlast, hkr, hfr, hap⟩ := hGo.out
      by_cases hin' : 32 * i < n
      · have hx : 0 ≤ ((i + 1 : Nat) : Int) ∧ ((i + 1 : Nat) : Int) < 256 := by omega
        have hon := outL_succ root info i
        have hst := stepL_len root info i
        have hsb := stepL_bytes root info (i + 1)
        have hlle : (stepL root info i).length ≤ 32 := stepL_le root info i
        have hlnl : ln ≤ 32 := by have : (stepL root info i).length = ln := hlast.1.llen; omega
        have HXE := Lib.hid (show macL root (stepL root info i ++ info ++ [(i : Int) + 1]) = stepL root info (i + 1) by rw [stepL_succ, Int.emod_eq_of_lt hx.1 hx.2]; rfl)
        have HMB := Lib.hid (show AreB (stepL root info i ++ info ++ [(i : Int) + 1]) from areB_append (areB_append (stepL_bytes root info i) hinf.1.bytes) (fun x hx' => by rw [List.mem_singleton.1 hx']; omega))
        have hDv : (byteV (stepL root info (i + 1))).length = 32 := by rw [byteV_len, hst]
        have HON := Lib.hid hon
        have HIM := Lib.hid (And.intro bi hlle)
        have hpr := hbR.keep0 hkr
        have hls := hlast
        have hin := hiR.keep hkr
        clear hon hGo
        generalize hDD : stepL root info (i + 1) = D at *
        have HDD := Lib.hid hDD
        clear hDD
        generalize hTT : stepL root info i = T at *
        have HIM : Hid (im ≤ 1000 ∧ T.length ≤ 32) := HIM
        clear hTT
        go_wp2_with fail
        refine wp_region_held_drew (S := fun _ => True) (by kernel_rfl) trivial (fun hHeld => ?_)
        have hpl := hrl
        have hpb := hrb
        have hKB : Keeps Nil wr wr.drew := (Keeps.refl Nil wr).drew
        replace hKB : Keeps Nil wr.drew wr.drew := Keeps.refl _ _
        replace hpr := hpr.drew
        replace hls := hls.keep ((Keeps.refl Nil wr).drew)
        replace hin := hin.keep ((Keeps.refl Nil wr).drew)
        have hkd : Keeps Nil wr wr.drew := (Keeps.refl Nil wr).drew
        generalize wr.drew = v0 at *
        have hw8 : IntKind.u8.wrap ((i : Int) + 1) = (i : Int) + 1 := by rw [IntKind.wrap_u8]; omega
        refine takeL (i := 0) (v := _) rfl (by kernel_rfl) (by kernel_rfl) (by kernel_rfl) (fun _ _ _ h => h) (Or.inl ⟨by rfl, by intro w hSw; (try dsimp only at hSw); go_simp; try with_reducible rfl⟩) (by assumption) ?_
        try simp only [Act.put, List.setIfInBounds_toArray, List.set_cons_zero, List.set_cons_succ]
        refine takeL (i := 1) (v := _) rfl (by kernel_rfl) (by kernel_rfl) (by kernel_rfl) (fun _ _ _ h => h) (Or.inl ⟨by rfl, by intro w hSw; (try dsimp only at hSw); go_simp; try with_reducible rfl⟩) (by assumption) ?_
        try simp only [Act.put, List.setIfInBounds_toArray, List.set_cons_zero, List.set_cons_succ]
        refine takeL (i := 3) (v := _) rfl (by kernel_rfl) (by kernel_rfl) (by kernel_rfl) (fun _ _ _ h => h) (Or.inl ⟨by rfl, by intro w hSw; (try dsimp only at hSw); go_simp; try with_reducible rfl⟩) (by assumption) ?_
        try simp only [Act.put, List.setIfInBounds_toArray, List.set_cons_zero, List.set_cons_succ]
        refine takeL (i := 5) (v := _) rfl (by kernel_rfl) (by kernel_rfl) (by kernel_rfl) (fun _ _ _ h => h) (Or.inl ⟨by rfl, by intro w hSw; (try dsimp only at hSw); go_simp; try with_reducible rfl⟩) (by assumption) ?_
        try simp only [Act.put, List.setIfInBounds_toArray, List.set_cons_zero, List.set_cons_succ]
        refine takeL (i := 6) (v := _) rfl (by kernel_rfl) (by kernel_rfl) (by kernel_rfl) (fun _ _ _ h => h) (Or.inl ⟨by rfl, by intro w hSw; (try dsimp only at hSw); go_simp; try with_reducible rfl⟩) (by assumption) ?_
        try simp only [Act.put, List.setIfInBounds_toArray, List.set_cons_zero, List.set_cons_succ]
        clear hw8
        refine threeL (i := 2) (j := 7) (k := 10) rfl rfl rfl (by kernel_rfl) (fun K hK => ?_) (fun K hK => ?_) (fun K hK => ?_)
        · skip
          go_simp
          refine (refBytes_walk (len := ln) (cap := lc) ((hls.keep hKB).1) (by omega)).mono ?_
          rintro e w2 ⟨a2, c2, rfl, ho2, qk, hf2⟩
          have hoc := ho2.mid
          have hfc : ∀ k, midOf a2 c2 k → v0.heap.size ≤ k := fun k hk => Nat.le_trans hKB.size (hf2 k hk.2)
          try (have hs7 : IsNot a2 c2 g7 := fun k hk e => by have := hf2 k hk.2; have := h7.lt; omega)
          try (have hs10 : IsNot a2 c2 g10 := fun k hk e => by have := hf2 k hk.2; have := h10.lt; omega)
          clear ho2 hf2
          refine (fun hHeld => hK _ _ hHeld ?_) (trivial)
          clear hK
          try simp only [Act.put, List.setIfInBounds_toArray, List.set_cons_zero, List.set_cons_succ]
          replace hKB := hKB.trans qk
          refine threeL (i := 4) (j := 7) (k := 10) rfl rfl rfl (by kernel_rfl) (fun K hK => ?_) (fun K hK => ?_) (fun K hK => ?_)
          · skip
            refine step_appendM rfl _ _ 27 rfl 5 Tryd.underlying27 Tryd.info8s _ _ _ _ rfl hoc ia im ic info rfl ((hin.keep hKB).1.src (hin.keep hKB).2) (by have := HIM.out; omega) ?_
            intro xa4 xc4 w4 hoA hkA hfA hzA
            clear hzA
            have hszc := hKB.size
            replace hKB := hKB.step hkA (fun i hi => .inr (hfc i hi))
            replace hfc : ∀ k, midOf xa4 xc4 k → v0.heap.size ≤ k := fun k hk => (hfA k hk).elim (fun h => hfc k h) (fun h => Nat.le_trans hszc h)
            try (have hs7' : IsNot xa4 xc4 g7 := fun k hk e => (hfA k hk).elim (fun h => hs7 k h e) (fun h => by have := h7.lt; omega))
            try (replace h7 := h7.keep hkA (fun e => hs7 g7 e rfl))
            try (replace hs7 := hs7'; clear hs7')
            try (have hs10' : IsNot xa4 xc4 g10 := fun k hk e => (hfA k hk).elim (fun h => hs10 k h e) (fun h => by have := h10.lt; omega))
            try (replace h10 := h10.keep hkA (fun e => hs10 g10 e rfl))
            try (replace hs10 := hs10'; clear hs10')
            replace hoc := hoA
            clear hoA hkA hfA hszc
            refine (fun hHeld => hK _ _ hHeld ?_) (trivial)
            clear hK
            try simp only [Act.put, List.setIfInBounds_toArray, List.set_cons_zero, List.set_cons_succ]
            refine bothL (i := 7) (j := 10) rfl rfl (by kernel_rfl) (fun K hK => ?_) (fun K hK => ?_)
            · skip
              refine step_bsK rfl _ 5 1 _ rfl [.int .u8 ((i : Int) + 1)] Tryd.underlying27 Tryd.bs8 rfl (by decide) (by decide) (by simp [Act.eval]) (by simp [Value.cells]) ?_
              intro g7 w7 hg7 h7 qk
              try (have hs7 : IsNot _ _ g7 := fun k hk e => by have := hoc.lt k hk; omega)
              clear hg7
              refine (fun hHeld => hK _ _ hHeld ?_) (trivial)
              clear hK
              try simp only [Act.put, List.setIfInBounds_toArray, List.set_cons_zero, List.set_cons_succ]
              replace hKB := hKB.trans qk
              replace hoc := hoc.keep0 qk
              refine bothL (i := 8) (j := 10) rfl rfl (by kernel_rfl) (fun K hK => ?_) (fun K hK => ?_)
              · skip
                refine step_appendM rfl _ _ 27 rfl 5 Tryd.underlying27 Tryd.info8s _ _ _ _ rfl hoc (some ⟨g7, 0, none⟩) 1 1 [(i : Int) + 1] rfl (Src.one h7 rfl) (by have := HIM.out; omega) ?_
                intro xa8 xc8 w8 hoA hkA hfA hzA
                clear hzA
                have hszc := hKB.size
                replace hKB := hKB.step hkA (fun i hi => .inr (hfc i hi))
                replace hfc : ∀ k, midOf xa8 xc8 k → v0.heap.size ≤ k := fun k hk => (hfA k hk).elim (fun h => hfc k h) (fun h => Nat.le_trans hszc h)
                try (have hs7' : IsNot xa8 xc8 g7 := fun k hk e => (hfA k hk).elim (fun h => hs7 k h e) (fun h => by have := h7.lt; omega))
                try (replace h7 := h7.keep hkA (fun e => hs7 g7 e rfl))
                try (replace hs7 := hs7'; clear hs7')
                try (have hs10' : IsNot xa8 xc8 g10 := fun k hk e => (hfA k hk).elim (fun h => hs10 k h e) (fun h => by have := h10.lt; omega))
                try (replace h10 := h10.keep hkA (fun e => hs10 g10 e rfl))
                try (replace hs10 := hs10'; clear hs10')
                replace hoc := hoA
                clear hoA hkA hfA hszc
                clear h7 hs7
                refine (fun hHeld => hK _ _ hHeld ?_) (trivial)
                clear hK
                try simp only [Act.put, List.setIfInBounds_toArray, List.set_cons_zero, List.set_cons_succ]
                refine bothL (i := 9) (j := 10) rfl rfl (by kernel_rfl) (fun K hK => ?_) (fun K hK => ?_)
                · skip
                  go_simp
                  refine (refMac_walk (cap := 32) ((hpr.keep0 hKB).row8 hpb hpl (by omega)) (hoc.row (areB_wf HMB.out)) (fun h => by have h1 := hoc.nil h; have h2 := hoc.le; exact ⟨h1, by omega⟩) (by omega) (by have := HIM.out; omega)).mono ?_
                  rintro e w9 ⟨rfl, qk⟩
                  rw [HXE.out]
                  clear hoc hfc
                  try clear hs10
                  refine (fun hHeld => hK _ _ hHeld ?_) (trivial)
                  clear hK
                  try simp only [Act.put, List.setIfInBounds_toArray, List.set_cons_zero, List.set_cons_succ]
                  replace hKB := hKB.trans qk
                  refine onlyL (i := 10) rfl (by kernel_rfl) (fun K hK => ?_)
                  refine step_allocK rfl 36 rfl Z hzv ?_
                  intro g10 w10 hg10 h10 qk
                  try (have hs10 : IsNot _ _ g10 := fun k hk e => by have := hoc.lt k hk; omega)
                  have hg10' : v0.heap.size ≤ g10 := by have := hKB.size; omega
                  clear hg10
                  refine (fun hHeld => hK _ _ hHeld ?_) (trivial)
                  clear hK
                  try simp only [Act.put, List.setIfInBounds_toArray, List.set_cons_zero, List.set_cons_succ]
                  replace hKB := hKB.trans qk
                  refine onlyL (i := 11) rfl (by kernel_rfl) (fun K hK => ?_)
                  refine step_store rfl 36 _ _ rfl g10 rfl (byteV D) rfl h10 (by rw [hDv, HZ32.out]) (by rw [hDv]; exact Tryd.infoH) (byteV_one _) ?_
                  intro w11 hb11 hk11 hs11
                  clear hs11
                  replace hKB := hKB.step hk11 (fun i hi => .inr (by rw [show i = g10 from hi]; exact hg10'))
                  refine (fun hHeld => hK _ _ hHeld ?_) (trivial)
                  clear hK
                  try simp only [Act.put, List.setIfInBounds_toArray, List.set_cons_zero, List.set_cons_succ]
                  refine wpAnyH_done (by kernel_rfl) ?_ _
                  clear hpr hls hin hHeld
                  have HSZ := Lib.hid (show wr.heap.size ≤ w11.heap.size from (hkd.trans hKB).size)
                  have HLO := Lib.hid hout.lt
                  have HB := Lib.hid (refBytes_walk (cap := 32) (hb11.row8 hsb hst (by omega)) (by omega))
                  clear hb11
                  go_wp2_with fail
                  refine HB.out.mono ?_
                  rintro e w12 ⟨a12, c12, rfl, ho12, hk12, hf12⟩
                  rw [hst] at ho12 ⊢
                  have hKc := (hkd.trans hKB).trans hk12
                  have hout12 := hout.keep0 hKc
                  have hkR12 := hkr.trans hKc
                  have hr12 := ho12.row (areB_wf hsb)
                  have hn12 : a12 = none → c12 = 0 ∧ 32 = 0 := fun h => by have := ho12.nilB h; omega
                  have hna : ∀ k, blkOf a12 k → ¬ blkOf a k := fun k hk hk' => by have h1 := hf12 k hk; have h2 := HLO.out k hk'; have h3 := HSZ.out; omega
                  have hf12' : ∀ k, blkOf a12 k → k < w12.heap.size := ho12.lt
                  clear HB hk12 hf12 hKc hKB hout hkr hkd ho12
                  go_wp2_with (at_builtin; refine wpl_append rfl _ _ 27 rfl 5 1 1 Tryd.underlying27 Tryd.info8s (by omega) a cap (32 * i) _ rfl hout12 _ 32 c12 (byteV D) rfl (hr12.src hn12) (by unfold maxLen; omega) (by omega) ?_)
                  intro a6 cap6 w6 ho6 hk6 hf6 _
                  rw [byteV_append, ← HON.out] at ho6
                  have hG6 : DerGo wR gr root info (i + 1) a6 cap6 a12 32 c12 w6 := by
                    refine ⟨ho6, ?_, hkR12.step hk6 (fun k hk => .inr (hfr k hk)), fun k hk => ?_, fun k hk hk' => ?_⟩
                    · rw [HDD.out]
                      exact ⟨hr12.keepF hk6 (fun _ k hk hk' => hna k hk hk'), hn12⟩
                    · rcases hf6 k hk with h | h
                      · exact hfr k h
                      · rw [h]; exact hkR12.size
                    · rcases hf6 k hk' with h | h
                      · exact hna k hk h
                      · have := hf12' k hk; omega
                  clear ho6 hk6 hf6 hout12 hr12 hkR12 hn12 hna hf12'
                  go_wp2_with fail
                  go_roundw
                  case rel => first | exact ⟨i + 1, a6, cap6, _, _, _, by omega, by rw [show 32 * (i + 1) = 32 * i + 32 by omega], rfl, by go_num, hG6⟩ | ((repeat apply Exists.intro); exact ⟨⟨i + 1, a6, cap6, _, _, _, by omega, by rw [show 32 * (i + 1) = 32 * i + 32 by omega], rfl, by go_num, hG6⟩, rfl⟩)
                  case measure => simp [intOf]; omega
                · skip
                  refine step_allocK rfl 36 rfl Z hzv ?_
                  intro g10 w10 hg10 h10 qk
                  try (have hs10 : IsNot _ _ g10 := fun k hk e => by have := hoc.lt k hk; omega)
                  have hg10' : v0.heap.size ≤ g10 := by have := hKB.size; omega
                  clear hg10
                  refine (fun hHeld => hK _ _ hHeld ?_) (trivial)
                  clear hK
                  try simp only [Act.put, List.setIfInBounds_toArray, List.set_cons_zero, List.set_cons_succ]
                  replace hKB := hKB.trans qk
                  replace hoc := hoc.keep0 qk
                  refine onlyL (i := 9) rfl (by kernel_rfl) (fun K hK => ?_)
                  go_simp
                  refine (refMac_walk (cap := 32) ((hpr.keep0 hKB).row8 hpb hpl (by omega)) (hoc.row (areB_wf HMB.out)) (fun h => by have h1 := hoc.nil h; have h2 := hoc.le; exact ⟨h1, by omega⟩) (by omega) (by have := HIM.out; omega)).mono ?_
                  rintro e w9 ⟨rfl, qk⟩
                  rw [HXE.out]
                  clear hoc hfc
                  try clear hs10
                  refine (fun hHeld => hK _ _ hHeld ?_) (trivial)
                  clear hK
                  try simp only [Act.put, List.setIfInBounds_toArray, List.set_cons_zero, List.set_cons_succ]
                  replace hKB := hKB.trans qk
                  replace h10 := h10.keep0 qk
                  refine onlyL (i := 11) rfl (by kernel_rfl) (fun K hK => ?_)
                  refine step_store rfl 36 _ _ rfl g10 rfl (byteV D) rfl h10 (by rw [hDv, HZ32.out]) (by rw [hDv]; exact Tryd.infoH) (byteV_one _) ?_
                  intro w11 hb11 hk11 hs11
                  clear hs11
                  replace hKB := hKB.step hk11 (fun i hi => .inr (by rw [show i = g10 from hi]; exact hg10'))
                  refine (fun hHeld => hK _ _ hHeld ?_) (trivial)
                  clear hK
                  try simp only [Act.put, List.setIfInBounds_toArray, List.set_cons_zero, List.set_cons_succ]
                  refine wpAnyH_done (by kernel_rfl) ?_ _
                  clear hpr hls hin hHeld
                  have HSZ := Lib.hid (show wr.heap.size ≤ w11.heap.size from (hkd.trans hKB).size)
                  have HLO := Lib.hid hout.lt
                  have HB := Lib.hid (refBytes_walk (cap := 32) (hb11.row8 hsb hst (by omega)) (by omega))
                  clear hb11
                  go_wp2_with fail
                  refine HB.out.mono ?_
                  rintro e w12 ⟨a12, c12, rfl, ho12, hk12, hf12⟩
                  rw [hst] at ho12 ⊢
                  have hKc := (hkd.trans hKB).trans hk12
                  have hout12 := hout.keep0 hKc
                  have hkR12 := hkr.trans hKc
                  have hr12 := ho12.row (areB_wf hsb)
                  have hn12 : a12 = none → c12 = 0 ∧ 32 = 0 := fun h => by have := ho12.nilB h; omega
                  have hna : ∀ k, blkOf a12 k → ¬ blkOf a k := fun k hk hk' => by have h1 := hf12 k hk; have h2 := HLO.out k hk'; have h3 := HSZ.out; omega
                  have hf12' : ∀ k, blkOf a12 k → k < w12.heap.size := ho12.lt
                  clear HB hk12 hf12 hKc hKB hout hkr hkd ho12
                  go_wp2_with (at_builtin; refine wpl_append rfl _ _ 27 rfl 5 1 1 Tryd.underlying27 Tryd.info8s (by omega) a cap (32 * i) _ rfl hout12 _ 32 c12 (byteV D) rfl (hr12.src hn12) (by unfold maxLen; omega) (by omega) ?_)
                  intro a6 cap6 w6 ho6 hk6 hf6 _
                  rw [byteV_append, ← HON.out] at ho6
                  have hG6 : DerGo wR gr root info (i + 1) a6 cap6 a12 32 c12 w6 := by
                    refine ⟨ho6, ?_, hkR12.step hk6 (fun k hk => .inr (hfr k hk)), fun k hk => ?_, fun k hk hk' => ?_⟩
                    · rw [HDD.out]
                      exact ⟨hr12.keepF hk6 (fun _ k hk hk' => hna k hk hk'), hn12⟩
                    · rcases hf6 k hk with h | h
                      · exact hfr k h
                      · rw [h]; exact hkR12.size
                    · rcases hf6 k hk' with h | h
                      · exact hna k hk h
                      · have := hf12' k hk; omega
                  clear ho6 hk6 hf6 hout12 hr12 hkR12 hn12 hna hf12'
                  go_wp2_with fail
                  go_roundw
                  case rel => first | exact ⟨i + 1, a6, cap6, _, _, _, by omega, by rw [show 32 * (i + 1) = 32 * i + 32 by omega], rfl, by go_num, hG6⟩ | ((repeat apply Exists.intro); exact ⟨⟨i + 1, a6, cap6, _, _, _, by omega, by rw [show 32 * (i + 1) = 32 * i + 32 by omega], rfl, by go_num, hG6⟩, rfl⟩)
                  case measure => simp [intOf]; omega
              · skip
                refine step_allocK rfl 36 rfl Z hzv ?_
                intro g10 w10 hg10 h10 qk
                try (have hs10 : IsNot _ _ g10 := fun k hk e => by have := hoc.lt k hk; omega)
                have hg10' : v0.heap.size ≤ g10 := by have := hKB.size; omega
                clear hg10
                refine (fun hHeld => hK _ _ hHeld ?_) (trivial)
                clear hK
                try simp only [Act.put, List.setIfInBounds_toArray, List.set_cons_zero, List.set_cons_succ]
                replace hKB := hKB.trans qk
                replace hoc := hoc.keep0 qk
                replace h7 := h7.keep0 qk
                refine onlyL (i := 8) rfl (by kernel_rfl) (fun K hK => ?_)
                refine step_appendM rfl _ _ 27 rfl 5 Tryd.underlying27 Tryd.info8s _ _ _ _ rfl hoc (some ⟨g7, 0, none⟩) 1 1 [(i : Int) + 1] rfl (Src.one h7 rfl) (by have := HIM.out; omega) ?_
                intro xa8 xc8 w8 hoA hkA hfA hzA
                clear hzA
                have hszc := hKB.size
                replace hKB := hKB.step hkA (fun i hi => .inr (hfc i hi))
                replace hfc : ∀ k, midOf xa8 xc8 k → v0.heap.size ≤ k := fun k hk => (hfA k hk).elim (fun h => hfc k h) (fun h => Nat.le_trans hszc h)
                try (have hs7' : IsNot xa8 xc8 g7 := fun k hk e => (hfA k hk).elim (fun h => hs7 k h e) (fun h => by have := h7.lt; omega))
                try (replace h7 := h7.keep hkA (fun e => hs7 g7 e rfl))
                try (replace hs7 := hs7'; clear hs7')
                try (have hs10' : IsNot xa8 xc8 g10 := fun k hk e => (hfA k hk).elim (fun h => hs10 k h e) (fun h => by have := h10.lt; omega))
                try (replace h10 := h10.keep hkA (fun e => hs10 g10 e rfl))
                try (replace hs10 := hs10'; clear hs10')
                replace hoc := hoA
                clear hoA hkA hfA hszc
                clear h7 hs7
                refine (fun hHeld => hK _ _ hHeld ?_) (trivial)
                clear hK
                try simp only [Act.put, List.setIfInBounds_toArray, List.set_cons_zero, List.set_cons_succ]
                refine onlyL (i := 9) rfl (by kernel_rfl) (fun K hK => ?_)
                go_simp
                refine (refMac_walk (cap := 32) ((hpr.keep0 hKB).row8 hpb hpl (by omega)) (hoc.row (areB_wf HMB.out)) (fun h => by have h1 := hoc.nil h; have h2 := hoc.le; exact ⟨h1, by omega⟩) (by omega) (by have := HIM.out; omega)).mono ?_
                rintro e w9 ⟨rfl, qk⟩
                rw [HXE.out]
                clear hoc hfc
                try clear hs10
                refine (fun hHeld => hK _ _ hHeld ?_) (trivial)
                clear hK
                try simp only [Act.put, List.setIfInBounds_toArray, List.set_cons_zero, List.set_cons_succ]
                replace hKB := hKB.trans qk
                replace h10 := h10.keep0 qk
                refine onlyL (i := 11) rfl (by kernel_rfl) (fun K hK => ?_)
                refine step_store rfl 36 _ _ rfl g10 rfl (byteV D) rfl h10 (by rw [hDv, HZ32.out]) (by rw [hDv]; exact Tryd.infoH) (byteV_one _) ?_
                intro w11 hb11 hk11 hs11
                clear hs11
                replace hKB := hKB.step hk11 (fun i hi => .inr (by rw [show i = g10 from hi]; exact hg10'))
                refine (fun hHeld => hK _ _ hHeld ?_) (trivial)
                clear hK
                try simp only [Act.put, List.setIfInBounds_toArray, List.set_cons_zero, List.set_cons_succ]
                refine wpAnyH_done (by kernel_rfl) ?_ _
                clear hpr hls hin hHeld
                have HSZ := Lib.hid (show wr.heap.size ≤ w11.heap.size from (hkd.trans hKB).size)
                have HLO := Lib.hid hout.lt
                have HB := Lib.hid (refBytes_walk (cap := 32) (hb11.row8 hsb hst (by omega)) (by omega))
                clear hb11
                go_wp2_with fail
                refine HB.out.mono ?_
                rintro e w12 ⟨a12, c12, rfl, ho12, hk12, hf12⟩
                rw [hst] at ho12 ⊢
                have hKc := (hkd.trans hKB).trans hk12
                have hout12 := hout.keep0 hKc
                have hkR12 := hkr.trans hKc
                have hr12 := ho12.row (areB_wf hsb)
                have hn12 : a12 = none → c12 = 0 ∧ 32 = 0 := fun h => by have := ho12.nilB h; omega
                have hna : ∀ k, blkOf a12 k → ¬ blkOf a k := fun k hk hk' => by have h1 := hf12 k hk; have h2 := HLO.out k hk'; have h3 := HSZ.out; omega
                have hf12' : ∀ k, blkOf a12 k → k < w12.heap.size := ho12.lt
                clear HB hk12 hf12 hKc hKB hout hkr hkd ho12
                go_wp2_with (at_builtin; refine wpl_append rfl _ _ 27 rfl 5 1 1 Tryd.underlying27 Tryd.info8s (by omega) a cap (32 * i) _ rfl hout12 _ 32 c12 (byteV D) rfl (hr12.src hn12) (by unfold maxLen; omega) (by omega) ?_)
                intro a6 cap6 w6 ho6 hk6 hf6 _
                rw [byteV_append, ← HON.out] at ho6
                have hG6 : DerGo wR gr root info (i + 1) a6 cap6 a12 32 c12 w6 := by
                  refine ⟨ho6, ?_, hkR12.step hk6 (fun k hk => .inr (hfr k hk)), fun k hk => ?_, fun k hk hk' => ?_⟩
                  · rw [HDD.out]
                    exact ⟨hr12.keepF hk6 (fun _ k hk hk' => hna k hk hk'), hn12⟩
                  · rcases hf6 k hk with h | h
                    · exact hfr k h
                    · rw [h]; exact hkR12.size
                  · rcases hf6 k hk' with h | h
                    · exact hna k hk h
                    · have := hf12' k hk; omega
                clear ho6 hk6 hf6 hout12 hr12 hkR12 hn12 hna hf12'
                go_wp2_with fail
                go_roundw
                case rel => first | exact ⟨i + 1, a6, cap6, _, _, _, by omega, by rw [show 32 * (i + 1) = 32 * i + 32 by omega], rfl, by go_num, hG6⟩ | ((repeat apply Exists.intro); exact ⟨⟨i + 1, a6, cap6, _, _, _, by omega, by rw [show 32 * (i + 1) = 32 * i + 32 by omega], rfl, by go_num, hG6⟩, rfl⟩)
                case measure => simp [intOf]; omega
            · skip
              refine step_allocK rfl 36 rfl Z hzv ?_
              intro g10 w10 hg10 h10 qk
              try (have hs10 : IsNot _ _ g10 := fun k hk e => by have := hoc.lt k hk; omega)
              have hg10' : v0.heap.size ≤ g10 := by have := hKB.size; omega
              clear hg10
              refine (fun hHeld => hK _ _ hHeld ?_) (trivial)
              clear hK
              try simp only [Act.put, List.setIfInBounds_toArray, List.set_cons_zero, List.set_cons_succ]
              replace hKB := hKB.trans qk
              replace hoc := hoc.keep0 qk
              refine onlyL (i := 7) rfl (by kernel_rfl) (fun K hK => ?_)
              refine step_bsK rfl _ 5 1 _ rfl [.int .u8 ((i : Int) + 1)] Tryd.underlying27 Tryd.bs8 rfl (by decide) (by decide) (by simp [Act.eval]) (by simp [Value.cells]) ?_
              intro g7 w7 hg7 h7 qk
              try (have hs7 : IsNot _ _ g7 := fun k hk e => by have := hoc.lt k hk; omega)
              clear hg7
              refine (fun hHeld => hK _ _ hHeld ?_) (trivial)
              clear hK
              try simp only [Act.put, List.setIfInBounds_toArray, List.set_cons_zero, List.set_cons_succ]
              replace hKB := hKB.trans qk
              replace hoc := hoc.keep0 qk
              replace h10 := h10.keep0 qk
              refine onlyL (i := 8) rfl (by kernel_rfl) (fun K hK => ?_)
              refine step_appendM rfl _ _ 27 rfl 5 Tryd.underlying27 Tryd.info8s _ _ _ _ rfl hoc (some ⟨g7, 0, none⟩) 1 1 [(i : Int) + 1] rfl (Src.one h7 rfl) (by have := HIM.out; omega) ?_
              intro xa8 xc8 w8 hoA hkA hfA hzA
              clear hzA
              have hszc := hKB.size
              replace hKB := hKB.step hkA (fun i hi => .inr (hfc i hi))
              replace hfc : ∀ k, midOf xa8 xc8 k → v0.heap.size ≤ k := fun k hk => (hfA k hk).elim (fun h => hfc k h) (fun h => Nat.le_trans hszc h)
              try (have hs7' : IsNot xa8 xc8 g7 := fun k hk e => (hfA k hk).elim (fun h => hs7 k h e) (fun h => by have := h7.lt; omega))
              try (replace h7 := h7.keep hkA (fun e => hs7 g7 e rfl))
              try (replace hs7 := hs7'; clear hs7')
              try (have hs10' : IsNot xa8 xc8 g10 := fun k hk e => (hfA k hk).elim (fun h => hs10 k h e) (fun h => by have := h10.lt; omega))
              try (replace h10 := h10.keep hkA (fun e => hs10 g10 e rfl))
              try (replace hs10 := hs10'; clear hs10')
              replace hoc := hoA
              clear hoA hkA hfA hszc
              clear h7 hs7
              refine (fun hHeld => hK _ _ hHeld ?_) (trivial)
              clear hK
              try simp only [Act.put, List.setIfInBounds_toArray, List.set_cons_zero, List.set_cons_succ]
              refine onlyL (i := 9) rfl (by kernel_rfl) (fun K hK => ?_)
              go_simp
              refine (refMac_walk (cap := 32) ((hpr.keep0 hKB).row8 hpb hpl (by omega)) (hoc.row (areB_wf HMB.out)) (fun h => by have h1 := hoc.nil h; have h2 := hoc.le; exact ⟨h1, by omega⟩) (by omega) (by have := HIM.out; omega)).mono ?_
              rintro e w9 ⟨rfl, qk⟩
              rw [HXE.out]
              clear hoc hfc
              try clear hs10
              refine (fun hHeld => hK _ _ hHeld ?_) (trivial)
              clear hK
              try simp only [Act.put, List.setIfInBounds_toArray, List.set_cons_zero, List.set_cons_succ]
              replace hKB := hKB.trans qk
              replace h10 := h10.keep0 qk
              refine onlyL (i := 11) rfl (by kernel_rfl) (fun K hK => ?_)
              refine step_store rfl 36 _ _ rfl g10 rfl (byteV D) rfl h10 (by rw [hDv, HZ32.out]) (by rw [hDv]; exact Tryd.infoH) (byteV_one _) ?_
              intro w11 hb11 hk11 hs11
              clear hs11
              replace hKB := hKB.step hk11 (fun i hi => .inr (by rw [show i = g10 from hi]; exact hg10'))
              refine (fun hHeld => hK _ _ hHeld ?_) (trivial)
              clear hK
              try simp only [Act.put, List.setIfInBounds_toArray, List.set_cons_zero, List.set_cons_succ]
              refine wpAnyH_done (by kernel_rfl) ?_ _
              clear hpr hls hin hHeld
              have HSZ := Lib.hid (show wr.heap.size ≤ w11.heap.size from (hkd.trans hKB).size)
              have HLO := Lib.hid hout.lt
              have HB := Lib.hid (refBytes_walk (cap := 32) (hb11.row8 hsb hst (by omega)) (by omega))
              clear hb11
              go_wp2_with fail
              refine HB.out.mono ?_
              rintro e w12 ⟨a12, c12, rfl, ho12, hk12, hf12⟩
              rw [hst] at ho12 ⊢
              have hKc := (hkd.trans hKB).trans hk12
              have hout12 := hout.keep0 hKc
              have hkR12 := hkr.trans hKc
              have hr12 := ho12.row (areB_wf hsb)
              have hn12 : a12 = none → c12 = 0 ∧ 32 = 0 := fun h => by have := ho12.nilB h; omega
              have hna : ∀ k, blkOf a12 k → ¬ blkOf a k := fun k hk hk' => by have h1 := hf12 k hk; have h2 := HLO.out k hk'; have h3 := HSZ.out; omega
              have hf12' : ∀ k, blkOf a12 k → k < w12.heap.size := ho12.lt
              clear HB hk12 hf12 hKc hKB hout hkr hkd ho12
              go_wp2_with (at_builtin; refine wpl_append rfl _ _ 27 rfl 5 1 1 Tryd.underlying27 Tryd.info8s (by omega) a cap (32 * i) _ rfl hout12 _ 32 c12 (byteV D) rfl (hr12.src hn12) (by unfold maxLen; omega) (by omega) ?_)
              intro a6 cap6 w6 ho6 hk6 hf6 _
              rw [byteV_append, ← HON.out] at ho6
              have hG6 : DerGo wR gr root info (i + 1) a6 cap6 a12 32 c12 w6 := by
                refine ⟨ho6, ?_, hkR12.step hk6 (fun k hk => .inr (hfr k hk)), fun k hk => ?_, fun k hk hk' => ?_⟩
                · rw [HDD.out]
                  exact ⟨hr12.keepF hk6 (fun _ k hk hk' => hna k hk hk'), hn12⟩
                · rcases hf6 k hk with h | h
                  · exact hfr k h
                  · rw [h]; exact hkR12.size
                · rcases hf6 k hk' with h | h
                  · exact hna k hk h
                  · have := hf12' k hk; omega
              clear ho6 hk6 hf6 hout12 hr12 hkR12 hn12 hna hf12'
              go_wp2_with fail
              go_roundw
              case rel => first | exact ⟨i + 1, a6, cap6, _, _, _, by omega, by rw [show 32 * (i + 1) = 32 * i + 32 by omega], rfl, by go_num, hG6⟩ | ((repeat apply Exists.intro); exact ⟨⟨i + 1, a6, cap6, _, _, _, by omega, by rw [show 32 * (i + 1) = 32 * i + 32 by omega], rfl, by go_num, hG6⟩, rfl⟩)
              case measure => simp [intOf]; omega
          · skip
            refine step_bsK rfl _ 5 1 _ rfl [.int .u8 ((i : Int) + 1)] Tryd.underlying27 Tryd.bs8 rfl (by decide) (by decide) (by simp [Act.eval]) (by simp [Value.cells]) ?_
            intro g7 w7 hg7 h7 qk
            try (have hs7 : IsNot _ _ g7 := fun k hk e => by have := hoc.lt k hk; omega)
            clear hg7
            refine (fun hHeld => hK _ _ hHeld ?_) (trivial)
            clear hK
            try simp only [Act.put, List.setIfInBounds_toArray, List.set_cons_zero, List.set_cons_succ]
            replace hKB := hKB.trans qk
            replace hoc := hoc.keep0 qk
            refine bothL (i := 4) (j := 10) rfl rfl (by kernel_rfl) (fun K hK => ?_) (fun K hK => ?_)
            · skip
              refine step_appendM rfl _ _ 27 rfl 5 Tryd.underlying27 Tryd.info8s _ _ _ _ rfl hoc ia im ic info rfl ((hin.keep hKB).1.src (hin.keep hKB).2) (by have := HIM.out; omega) ?_
              intro xa4 xc4 w4 hoA hkA hfA hzA
              clear hzA
              have hszc := hKB.size
              replace hKB := hKB.step hkA (fun i hi => .inr (hfc i hi))
              replace hfc : ∀ k, midOf xa4 xc4 k → v0.heap.size ≤ k := fun k hk => (hfA k hk).elim (fun h => hfc k h) (fun h => Nat.le_trans hszc h)
              try (have hs7' : IsNot xa4 xc4 g7 := fun k hk e => (hfA k hk).elim (fun h => hs7 k h e) (fun h => by have := h7.lt; omega))
              try (replace h7 := h7.keep hkA (fun e => hs7 g7 e rfl))
              try (replace hs7 := hs7'; clear hs7')
              try (have hs10' : IsNot xa4 xc4 g10 := fun k hk e => (hfA k hk).elim (fun h => hs10 k h e) (fun h => by have := h10.lt; omega))
              try (replace h10 := h10.keep hkA (fun e => hs10 g10 e rfl))
              try (replace hs10 := hs10'; clear hs10')
              replace hoc := hoA
              clear hoA hkA hfA hszc
              refine (fun hHeld => hK _ _ hHeld ?_) (trivial)
              clear hK
              try simp only [Act.put, List.setIfInBounds_toArray, List.set_cons_zero, List.set_cons_succ]
              refine bothL (i := 8) (j := 10) rfl rfl (by kernel_rfl) (fun K hK => ?_) (fun K hK => ?_)
              · skip
                refine step_appendM rfl _ _ 27 rfl 5 Tryd.underlying27 Tryd.info8s _ _ _ _ rfl hoc (some ⟨g7, 0, none⟩) 1 1 [(i : Int) + 1] rfl (Src.one h7 rfl) (by have := HIM.out; omega) ?_
                intro xa8 xc8 w8 hoA hkA hfA hzA
                clear hzA
                have hszc := hKB.size
                replace hKB := hKB.step hkA (fun i hi => .inr (hfc i hi))
                replace hfc : ∀ k, midOf xa8 xc8 k → v0.heap.size ≤ k := fun k hk => (hfA k hk).elim (fun h => hfc k h) (fun h => Nat.le_trans hszc h)
                try (have hs7' : IsNot xa8 xc8 g7 := fun k hk e => (hfA k hk).elim (fun h => hs7 k h e) (fun h => by have := h7.lt; omega))
                try (replace h7 := h7.keep hkA (fun e => hs7 g7 e rfl))
                try (replace hs7 := hs7'; clear hs7')
                try (have hs10' : IsNot xa8 xc8 g10 := fun k hk e => (hfA k hk).elim (fun h => hs10 k h e) (fun h => by have := h10.lt; omega))
                try (replace h10 := h10.keep hkA (fun e => hs10 g10 e rfl))
                try (replace hs10 := hs10'; clear hs10')
                replace hoc := hoA
                clear hoA hkA hfA hszc
                clear h7 hs7
                refine (fun hHeld => hK _ _ hHeld ?_) (trivial)
                clear hK
                try simp only [Act.put, List.setIfInBounds_toArray, List.set_cons_zero, List.set_cons_succ]
                refine bothL (i := 9) (j := 10) rfl rfl (by kernel_rfl) (fun K hK => ?_) (fun K hK => ?_)
                · skip
                  go_simp
                  refine (refMac_walk (cap := 32) ((hpr.keep0 hKB).row8 hpb hpl (by omega)) (hoc.row (areB_wf HMB.out)) (fun h => by have h1 := hoc.nil h; have h2 := hoc.le; exact ⟨h1, by omega⟩) (by omega) (by have := HIM.out; omega)).mono ?_
                  rintro e w9 ⟨rfl, qk⟩
                  rw [HXE.out]
                  clear hoc hfc
                  try clear hs10
                  refine (fun hHeld => hK _ _ hHeld ?_) (trivial)
                  clear hK
                  try simp only [Act.put, List.setIfInBounds_toArray, List.set_cons_zero, List.set_cons_succ]
                  replace hKB := hKB.trans qk
                  refine onlyL (i := 10) rfl (by kernel_rfl) (fun K hK => ?_)
                  refine step_allocK rfl 36 rfl Z hzv ?_
                  intro g10 w10 hg10 h10 qk
                  try (have hs10 : IsNot _ _ g10 := fun k hk e => by have := hoc.lt k hk; omega)
                  have hg10' : v0.heap.size ≤ g10 := by have := hKB.size; omega
                  clear hg10
                  refine (fun hHeld => hK _ _ hHeld ?_) (trivial)
                  clear hK
                  try simp only [Act.put, List.setIfInBounds_toArray, List.set_cons_zero, List.set_cons_succ]
                  replace hKB := hKB.trans qk
                  refine onlyL (i := 11) rfl (by kernel_rfl) (fun K hK => ?_)
                  refine step_store rfl 36 _ _ rfl g10 rfl (byteV D) rfl h10 (by rw [hDv, HZ32.out]) (by rw [hDv]; exact Tryd.infoH) (byteV_one _) ?_
                  intro w11 hb11 hk11 hs11
                  clear hs11
                  replace hKB := hKB.step hk11 (fun i hi => .inr (by rw [show i = g10 from hi]; exact hg10'))
                  refine (fun hHeld => hK _ _ hHeld ?_) (trivial)
                  clear hK
                  try simp only [Act.put, List.setIfInBounds_toArray, List.set_cons_zero, List.set_cons_succ]
                  refine wpAnyH_done (by kernel_rfl) ?_ _
                  clear hpr hls hin hHeld
                  have HSZ := Lib.hid (show wr.heap.size ≤ w11.heap.size from (hkd.trans hKB).size)
                  have HLO := Lib.hid hout.lt
                  have HB := Lib.hid (refBytes_walk (cap := 32) (hb11.row8 hsb hst (by omega)) (by omega))
                  clear hb11
                  go_wp2_with fail
                  refine HB.out.mono ?_
                  rintro e w12 ⟨a12, c12, rfl, ho12, hk12, hf12⟩
                  rw [hst] at ho12 ⊢
                  have hKc := (hkd.trans hKB).trans hk12
                  have hout12 := hout.keep0 hKc
                  have hkR12 := hkr.trans hKc
                  have hr12 := ho12.row (areB_wf hsb)
                  have hn12 : a12 = none → c12 = 0 ∧ 32 = 0 := fun h => by have := ho12.nilB h; omega
                  have hna : ∀ k, blkOf a12 k → ¬ blkOf a k := fun k hk hk' => by have h1 := hf12 k hk; have h2 := HLO.out k hk'; have h3 := HSZ.out; omega
                  have hf12' : ∀ k, blkOf a12 k → k < w12.heap.size := ho12.lt
                  clear HB hk12 hf12 hKc hKB hout hkr hkd ho12
                  go_wp2_with (at_builtin; refine wpl_append rfl _ _ 27 rfl 5 1 1 Tryd.underlying27 Tryd.info8s (by omega) a cap (32 * i) _ rfl hout12 _ 32 c12 (byteV D) rfl (hr12.src hn12) (by unfold maxLen; omega) (by omega) ?_)
                  intro a6 cap6 w6 ho6 hk6 hf6 _
                  rw [byteV_append, ← HON.out] at ho6
                  have hG6 : DerGo wR gr root info (i + 1) a6 cap6 a12 32 c12 w6 := by
                    refine ⟨ho6, ?_, hkR12.step hk6 (fun k hk => .inr (hfr k hk)), fun k hk => ?_, fun k hk hk' => ?_⟩
                    · rw [HDD.out]
                      exact ⟨hr12.keepF hk6 (fun _ k hk hk' => hna k hk hk'), hn12⟩
                    · rcases hf6 k hk with h | h
                      · exact hfr k h
                      · rw [h]; exact hkR12.size
                    · rcases hf6 k hk' with h | h
                      · exact hna k hk h
                      · have := hf12' k hk; omega
                  clear ho6 hk6 hf6 hout12 hr12 hkR12 hn12 hna hf12'
                  go_wp2_with fail
                  go_roundw
                  case rel => first | exact ⟨i + 1, a6, cap6, _, _, _, by omega, by rw [show 32 * (i + 1) = 32 * i + 32 by omega], rfl, by go_num, hG6⟩ | ((repeat apply Exists.intro); exact ⟨⟨i + 1, a6, cap6, _, _, _, by omega, by rw [show 32 * (i + 1) = 32 * i + 32 by omega], rfl, by go_num, hG6⟩, rfl⟩)
                  case measure => simp [intOf]; omega
                · skip
                  refine step_allocK rfl 36 rfl Z hzv ?_
                  intro g10 w10 hg10 h10 qk
                  try (have hs10 : IsNot _ _ g10 := fun k hk e => by have := hoc.lt k hk; omega)
                  have hg10' : v0.heap.size ≤ g10 := by have := hKB.size; omega
                  clear hg10
                  refine (fun hHeld => hK _ _ hHeld ?_) (trivial)
                  clear hK
                  try simp only [Act.put, List.setIfInBounds_toArray, List.set_cons_zero, List.set_cons_succ]
                  replace hKB := hKB.trans qk
                  replace hoc := hoc.keep0 qk
                  refine onlyL (i := 9) rfl (by kernel_rfl) (fun K hK => ?_)
                  go_simp
                  refine (refMac_walk (cap := 32) ((hpr.keep0 hKB).row8 hpb hpl (by omega)) (hoc.row (areB_wf HMB.out)) (fun h => by have h1 := hoc.nil h; have h2 := hoc.le; exact ⟨h1, by omega⟩) (by omega) (by have := HIM.out; omega)).mono ?_
                  rintro e w9 ⟨rfl, qk⟩
                  rw [HXE.out]
                  clear hoc hfc
                  try clear hs10
                  refine (fun hHeld => hK _ _ hHeld ?_) (trivial)
                  clear hK
                  try simp only [Act.put, List.setIfInBounds_toArray, List.set_cons_zero, List.set_cons_succ]
                  replace hKB := hKB.trans qk
                  replace h10 := h10.keep0 qk
                  refine onlyL (i := 11) rfl (by kernel_rfl) (fun K hK => ?_)
                  refine step_store rfl 36 _ _ rfl g10 rfl (byteV D) rfl h10 (by rw [hDv, HZ32.out]) (by rw [hDv]; exact Tryd.infoH) (byteV_one _) ?_
                  intro w11 hb11 hk11 hs11
                  clear hs11
                  replace hKB := hKB.step hk11 (fun i hi => .inr (by rw [show i = g10 from hi]; exact hg10'))
                  refine (fun hHeld => hK _ _ hHeld ?_) (trivial)
                  clear hK
                  try simp only [Act.put, List.setIfInBounds_toArray, List.set_cons_zero, List.set_cons_succ]
                  refine wpAnyH_done (by kernel_rfl) ?_ _
                  clear hpr hls hin hHeld
                  have HSZ := Lib.hid (show wr.heap.size ≤ w11.heap.size from (hkd.trans hKB).size)
                  have HLO := Lib.hid hout.lt
                  have HB := Lib.hid (refBytes_walk (cap := 32) (hb11.row8 hsb hst (by omega)) (by omega))
                  clear hb11
                  go_wp2_with fail
                  refine HB.out.mono ?_
                  rintro e w12 ⟨a12, c12, rfl, ho12, hk12, hf12⟩
                  rw [hst] at ho12 ⊢
                  have hKc := (hkd.trans hKB).trans hk12
                  have hout12 := hout.keep0 hKc
                  have hkR12 := hkr.trans hKc
                  have hr12 := ho12.row (areB_wf hsb)
                  have hn12 : a12 = none → c12 = 0 ∧ 32 = 0 := fun h => by have := ho12.nilB h; omega
                  have hna : ∀ k, blkOf a12 k → ¬ blkOf a k := fun k hk hk' => by have h1 := hf12 k hk; have h2 := HLO.out k hk'; have h3 := HSZ.out; omega
                  have hf12' : ∀ k, blkOf a12 k → k < w12.heap.size := ho12.lt
                  clear HB hk12 hf12 hKc hKB hout hkr hkd ho12
                  go_wp2_with (at_builtin; refine wpl_append rfl _ _ 27 rfl 5 1 1 Tryd.underlying27 Tryd.info8s (by omega) a cap (32 * i) _ rfl hout12 _ 32 c12 (byteV D) rfl (hr12.src hn12) (by unfold maxLen; omega) (by omega) ?_)
                  intro a6 cap6 w6 ho6 hk6 hf6 _
                  rw [byteV_append, ← HON.out] at ho6
                  have hG6 : DerGo wR gr root info (i + 1) a6 cap6 a12 32 c12 w6 := by
                    refine ⟨ho6, ?_, hkR12.step hk6 (fun k hk => .inr (hfr k hk)), fun k hk => ?_, fun k hk hk' => ?_⟩
                    · rw [HDD.out]
                      exact ⟨hr12.keepF hk6 (fun _ k hk hk' => hna k hk hk'), hn12⟩
                    · rcases hf6 k hk with h | h
                      · exact hfr k h
                      · rw [h]; exact hkR12.size
                    · rcases hf6 k hk' with h | h
                      · exact hna k hk h
                      · have := hf12' k hk; omega
                  clear ho6 hk6 hf6 hout12 hr12 hkR12 hn12 hna hf12'
                  go_wp2_with fail
                  go_roundw
                  case rel => first | exact ⟨i + 1, a6, cap6, _, _, _, by omega, by rw [show 32 * (i + 1) = 32 * i + 32 by omega], rfl, by go_num, hG6⟩ | ((repeat apply Exists.intro); exact ⟨⟨i + 1, a6, cap6, _, _, _, by omega, by rw [show 32 * (i + 1) = 32 * i + 32 by omega], rfl, by go_num, hG6⟩, rfl⟩)
                  case measure => simp [intOf]; omega
              · skip
                refine step_allocK rfl 36 rfl Z hzv ?_
                intro g10 w10 hg10 h10 qk
                try (have hs10 : IsNot _ _ g10 := fun k hk e => by have := hoc.lt k hk; omega)
                have hg10' : v0.heap.size ≤ g10 := by have := hKB.size; omega
                clear hg10
                refine (fun hHeld => hK _ _ hHeld ?_) (trivial)
                clear hK
                try simp only [Act.put, List.setIfInBounds_toArray, List.set_cons_zero, List.set_cons_succ]
                replace hKB := hKB.trans qk
                replace hoc := hoc.keep0 qk
                replace h7 := h7.keep0 qk
                refine onlyL (i := 8) rfl (by kernel_rfl) (fun K hK => ?_)
                refine step_appendM rfl _ _ 27 rfl 5 Tryd.underlying27 Tryd.info8s _ _ _ _ rfl hoc (some ⟨g7, 0, none⟩) 1 1 [(i : Int) + 1] rfl (Src.one h7 rfl) (by have := HIM.out; omega) ?_
                intro xa8 xc8 w8 hoA hkA hfA hzA
                clear hzA
                have hszc := hKB.size
                replace hKB := hKB.step hkA (fun i hi => .inr (hfc i hi))
                replace hfc : ∀ k, midOf xa8 xc8 k → v0.heap.size ≤ k := fun k hk => (hfA k hk).elim (fun h => hfc k h) (fun h => Nat.le_trans hszc h)
                try (have hs7' : IsNot xa8 xc8 g7 := fun k hk e => (hfA k hk).elim (fun h => hs7 k h e) (fun h => by have := h7.lt; omega))
                try (replace h7 := h7.keep hkA (fun e => hs7 g7 e rfl))
                try (replace hs7 := hs7'; clear hs7')
                try (have hs10' : IsNot xa8 xc8 g10 := fun k hk e => (hfA k hk).elim (fun h => hs10 k h e) (fun h => by have := h10.lt; omega))
                try (replace h10 := h10.keep hkA (fun e => hs10 g10 e rfl))
                try (replace hs10 := hs10'; clear hs10')
                replace hoc := hoA
                clear hoA hkA hfA hszc
                clear h7 hs7
                refine (fun hHeld => hK _ _ hHeld ?_) (trivial)
                clear hK
                try simp only [Act.put, List.setIfInBounds_toArray, List.set_cons_zero, List.set_cons_succ]
                refine onlyL (i := 9) rfl (by kernel_rfl) (fun K hK => ?_)
                go_simp
                refine (refMac_walk (cap := 32) ((hpr.keep0 hKB).row8 hpb hpl (by omega)) (hoc.row (areB_wf HMB.out)) (fun h => by have h1 := hoc.nil h; have h2 := hoc.le; exact ⟨h1, by omega⟩) (by omega) (by have := HIM.out; omega)).mono ?_
                rintro e w9 ⟨rfl, qk⟩
                rw [HXE.out]
                clear hoc hfc
                try clear hs10
                refine (fun hHeld => hK _ _ hHeld ?_) (trivial)
                clear hK
                try simp only [Act.put, List.setIfInBounds_toArray, List.set_cons_zero, List.set_cons_succ]
                replace hKB := hKB.trans qk
                replace h10 := h10.keep0 qk
                refine onlyL (i := 11) rfl (by kernel_rfl) (fun K hK => ?_)
                refine step_store rfl 36 _ _ rfl g10 rfl (byteV D) rfl h10 (by rw [hDv, HZ32.out]) (by rw [hDv]; exact Tryd.infoH) (byteV_one _) ?_
                intro w11 hb11 hk11 hs11
                clear hs11
                replace hKB := hKB.step hk11 (fun i hi => .inr (by rw [show i = g10 from hi]; exact hg10'))
                refine (fun hHeld => hK _ _ hHeld ?_) (trivial)
                clear hK
                try simp only [Act.put, List.setIfInBounds_toArray, List.set_cons_zero, List.set_cons_succ]
                refine wpAnyH_done (by kernel_rfl) ?_ _
                clear hpr hls hin hHeld
                have HSZ := Lib.hid (show wr.heap.size ≤ w11.heap.size from (hkd.trans hKB).size)
                have HLO := Lib.hid hout.lt
                have HB := Lib.hid (refBytes_walk (cap := 32) (hb11.row8 hsb hst (by omega)) (by omega))
                clear hb11
                go_wp2_with fail
                refine HB.out.mono ?_
                rintro e w12 ⟨a12, c12, rfl, ho12, hk12, hf12⟩
                rw [hst] at ho12 ⊢
                have hKc := (hkd.trans hKB).trans hk12
                have hout12 := hout.keep0 hKc
                have hkR12 := hkr.trans hKc
                have hr12 := ho12.row (areB_wf hsb)
                have hn12 : a12 = none → c12 = 0 ∧ 32 = 0 := fun h => by have := ho12.nilB h; omega
                have hna : ∀ k, blkOf a12 k → ¬ blkOf a k := fun k hk hk' => by have h1 := hf12 k hk; have h2 := HLO.out k hk'; have h3 := HSZ.out; omega
                have hf12' : ∀ k, blkOf a12 k → k < w12.heap.size := ho12.lt
                clear HB hk12 hf12 hKc hKB hout hkr hkd ho12
                go_wp2_with (at_builtin; refine wpl_append rfl _ _ 27 rfl 5 1 1 Tryd.underlying27 Tryd.info8s (by omega) a cap (32 * i) _ rfl hout12 _ 32 c12 (byteV D) rfl (hr12.src hn12) (by unfold maxLen; omega) (by omega) ?_)
                intro a6 cap6 w6 ho6 hk6 hf6 _
                rw [byteV_append, ← HON.out] at ho6
                have hG6 : DerGo wR gr root info (i + 1) a6 cap6 a12 32 c12 w6 := by
                  refine ⟨ho6, ?_, hkR12.step hk6 (fun k hk => .inr (hfr k hk)), fun k hk => ?_, fun k hk hk' => ?_⟩
                  · rw [HDD.out]
                    exact ⟨hr12.keepF hk6 (fun _ k hk hk' => hna k hk hk'), hn12⟩
                  · rcases hf6 k hk with h | h
                    · exact hfr k h
                    · rw [h]; exact hkR12.size
                  · rcases hf6 k hk' with h | h
                    · exact hna k hk h
                    · have := hf12' k hk; omega
                clear ho6 hk6 hf6 hout12 hr12 hkR12 hn12 hna hf12'
                go_wp2_with fail
                go_roundw
                case rel => first | exact ⟨i + 1, a6, cap6, _, _, _, by omega, by rw [show 32 * (i + 1) = 32 * i + 32 by omega], rfl, by go_num, hG6⟩ | ((repeat apply Exists.intro); exact ⟨⟨i + 1, a6, cap6, _, _, _, by omega, by rw [show 32 * (i + 1) = 32 * i + 32 by omega], rfl, by go_num, hG6⟩, rfl⟩)
                case measure => simp [intOf]; omega
            · skip
              refine step_allocK rfl 36 rfl Z hzv ?_
              intro g10 w10 hg10 h10 qk
              try (have hs10 : IsNot _ _ g10 := fun k hk e => by have := hoc.lt k hk; omega)
              have hg10' : v0.heap.size ≤ g10 := by have := hKB.size; omega
              clear hg10
              refine (fun hHeld => hK _ _ hHeld ?_) (trivial)
              clear hK
              try simp only [Act.put, List.setIfInBounds_toArray, List.set_cons_zero, List.set_cons_succ]
              replace hKB := hKB.trans qk
              replace hoc := hoc.keep0 qk
              replace h7 := h7.keep0 qk
              refine onlyL (i := 4) rfl (by kernel_rfl) (fun K hK => ?_)
              refine step_appendM rfl _ _ 27 rfl 5 Tryd.underlying27 Tryd.info8s _ _ _ _ rfl hoc ia im ic info rfl ((hin.keep hKB).1.src (hin.keep hKB).2) (by have := HIM.out; omega) ?_
              intro xa4 xc4 w4 hoA hkA hfA hzA
              clear hzA
              have hszc := hKB.size
              replace hKB := hKB.step hkA (fun i hi => .inr (hfc i hi))
              replace hfc : ∀ k, midOf xa4 xc4 k → v0.heap.size ≤ k := fun k hk => (hfA k hk).elim (fun h => hfc k h) (fun h => Nat.le_trans hszc h)
              try (have hs7' : IsNot xa4 xc4 g7 := fun k hk e => (hfA k hk).elim (fun h => hs7 k h e) (fun h => by have := h7.lt; omega))
              try (replace h7 := h7.keep hkA (fun e => hs7 g7 e rfl))
              try (replace hs7 := hs7'; clear hs7')
              try (have hs10' : IsNot xa4 xc4 g10 := fun k hk e => (hfA k hk).elim (fun h => hs10 k h e) (fun h => by have := h10.lt; omega))
              try (replace h10 := h10.keep hkA (fun e => hs10 g10 e rfl))
              try (replace hs10 := hs10'; clear hs10')
              replace hoc := hoA
              clear hoA hkA hfA hszc
              refine (fun hHeld => hK _ _ hHeld ?_) (trivial)
              clear hK
              try simp only [Act.put, List.setIfInBounds_toArray, List.set_cons_zero, List.set_cons_succ]
              refine onlyL (i := 8) rfl (by kernel_rfl) (fun K hK => ?_)
              refine step_appendM rfl _ _ 27 rfl 5 Tryd.underlying27 Tryd.info8s _ _ _ _ rfl hoc (some ⟨g7, 0, none⟩) 1 1 [(i : Int) + 1] rfl (Src.one h7 rfl) (by have := HIM.out; omega) ?_
              intro xa8 xc8 w8 hoA hkA hfA hzA
              clear hzA
              have hszc := hKB.size
              replace hKB := hKB.step hkA (fun i hi => .inr (hfc i hi))
              replace hfc : ∀ k, midOf xa8 xc8 k → v0.heap.size ≤ k := fun k hk => (hfA k hk).elim (fun h => hfc k h) (fun h => Nat.le_trans hszc h)
              try (have hs7' : IsNot xa8 xc8 g7 := fun k hk e => (hfA k hk).elim (fun h => hs7 k h e) (fun h => by have := h7.lt; omega))
              try (replace h7 := h7.keep hkA (fun e => hs7 g7 e rfl))
              try (replace hs7 := hs7'; clear hs7')
              try (have hs10' : IsNot xa8 xc8 g10 := fun k hk e => (hfA k hk).elim (fun h => hs10 k h e) (fun h => by have := h10.lt; omega))
              try (replace h10 := h10.keep hkA (fun e => hs10 g10 e rfl))
              try (replace hs10 := hs10'; clear hs10')
              replace hoc := hoA
              clear hoA hkA hfA hszc
              clear h7 hs7
              refine (fun hHeld => hK _ _ hHeld ?_) (trivial)
              clear hK
              try simp only [Act.put, List.setIfInBounds_toArray, List.set_cons_zero, List.set_cons_succ]
              refine onlyL (i := 9) rfl (by kernel_rfl) (fun K hK => ?_)
              go_simp
              refine (refMac_walk (cap := 32) ((hpr.keep0 hKB).row8 hpb hpl (by omega)) (hoc.row (areB_wf HMB.out)) (fun h => by have h1 := hoc.nil h; have h2 := hoc.le; exact ⟨h1, by omega⟩) (by omega) (by have := HIM.out; omega)).mono ?_
              rintro e w9 ⟨rfl, qk⟩
              rw [HXE.out]
              clear hoc hfc
              try clear hs10
              refine (fun hHeld => hK _ _ hHeld ?_) (trivial)
              clear hK
              try simp only [Act.put, List.setIfInBounds_toArray, List.set_cons_zero, List.set_cons_succ]
              replace hKB := hKB.trans qk
              replace h10 := h10.keep0 qk
              refine onlyL (i := 11) rfl (by kernel_rfl) (fun K hK => ?_)
              refine step_store rfl 36 _ _ rfl g10 rfl (byteV D) rfl h10 (by rw [hDv, HZ32.out]) (by rw [hDv]; exact Tryd.infoH) (byteV_one _) ?_
              intro w11 hb11 hk11 hs11
              clear hs11
              replace hKB := hKB.step hk11 (fun i hi => .inr (by rw [show i = g10 from hi]; exact hg10'))
              refine (fun hHeld => hK _ _ hHeld ?_) (trivial)
              clear hK
              try simp only [Act.put, List.setIfInBounds_toArray, List.set_cons_zero, List.set_cons_succ]
              refine wpAnyH_done (by kernel_rfl) ?_ _
              clear hpr hls hin hHeld
              have HSZ := Lib.hid (show wr.heap.size ≤ w11.heap.size from (hkd.trans hKB).size)
              have HLO := Lib.hid hout.lt
              have HB := Lib.hid (refBytes_walk (cap := 32) (hb11.row8 hsb hst (by omega)) (by omega))
              clear hb11
              go_wp2_with fail
              refine HB.out.mono ?_
              rintro e w12 ⟨a12, c12, rfl, ho12, hk12, hf12⟩
              rw [hst] at ho12 ⊢
              have hKc := (hkd.trans hKB).trans hk12
              have hout12 := hout.keep0 hKc
              have hkR12 := hkr.trans hKc
              have hr12 := ho12.row (areB_wf hsb)
              have hn12 : a12 = none → c12 = 0 ∧ 32 = 0 := fun h => by have := ho12.nilB h; omega
              have hna : ∀ k, blkOf a12 k → ¬ blkOf a k := fun k hk hk' => by have h1 := hf12 k hk; have h2 := HLO.out k hk'; have h3 := HSZ.out; omega
              have hf12' : ∀ k, blkOf a12 k → k < w12.heap.size := ho12.lt
              clear HB hk12 hf12 hKc hKB hout hkr hkd ho12
              go_wp2_with (at_builtin; refine wpl_append rfl _ _ 27 rfl 5 1 1 Tryd.underlying27 Tryd.info8s (by omega) a cap (32 * i) _ rfl hout12 _ 32 c12 (byteV D) rfl (hr12.src hn12) (by unfold maxLen; omega) (by omega) ?_)
              intro a6 cap6 w6 ho6 hk6 hf6 _
              rw [byteV_append, ← HON.out] at ho6
              have hG6 : DerGo wR gr root info (i + 1) a6 cap6 a12 32 c12 w6 := by
                refine ⟨ho6, ?_, hkR12.step hk6 (fun k hk => .inr (hfr k hk)), fun k hk => ?_, fun k hk hk' => ?_⟩
                · rw [HDD.out]
                  exact ⟨hr12.keepF hk6 (fun _ k hk hk' => hna k hk hk'), hn12⟩
                · rcases hf6 k hk with h | h
                  · exact hfr k h
                  · rw [h]; exact hkR12.size
                · rcases hf6 k hk' with h | h
                  · exact hna k hk h
                  · have := hf12' k hk; omega
              clear ho6 hk6 hf6 hout12 hr12 hkR12 hn12 hna hf12'
              go_wp2_with fail
              go_roundw
              case rel => first | exact ⟨i + 1, a6, cap6, _, _, _, by omega, by rw [show 32 * (i + 1) = 32 * i + 32 by omega], rfl, by go_num, hG6⟩ | ((repeat apply Exists.intro); exact ⟨⟨i + 1, a6, cap6, _, _, _, by omega, by rw [show 32 * (i + 1) = 32 * i + 32 by omega], rfl, by go_num, hG6⟩, rfl⟩)
              case measure => simp [intOf]; omega
          · skip
            refine step_allocK rfl 36 rfl Z hzv ?_
            intro g10 w10 hg10 h10 qk
            try (have hs10 : IsNot _ _ g10 := fun k hk e => by have := hoc.lt k hk; omega)
            have hg10' : v0.heap.size ≤ g10 := by have := hKB.size; omega
            clear hg10
            refine (fun hHeld => hK _ _ hHeld ?_) (trivial)
            clear hK
            try simp only [Act.put, List.setIfInBounds_toArray, List.set_cons_zero, List.set_cons_succ]
            replace hKB := hKB.trans qk
            replace hoc := hoc.keep0 qk
            refine bothL (i := 4) (j := 7) rfl rfl (by kernel_rfl) (fun K hK => ?_) (fun K hK => ?_)
            · skip
              refine step_appendM rfl _ _ 27 rfl 5 Tryd.underlying27 Tryd.info8s _ _ _ _ rfl hoc ia im ic info rfl ((hin.keep hKB).1.src (hin.keep hKB).2) (by have := HIM.out; omega) ?_
              intro xa4 xc4 w4 hoA hkA hfA hzA
              clear hzA
              have hszc := hKB.size
              replace hKB := hKB.step hkA (fun i hi => .inr (hfc i hi))
              replace hfc : ∀ k, midOf xa4 xc4 k → v0.heap.size ≤ k := fun k hk => (hfA k hk).elim (fun h => hfc k h) (fun h => Nat.le_trans hszc h)
              try (have hs7' : IsNot xa4 xc4 g7 := fun k hk e => (hfA k hk).elim (fun h => hs7 k h e) (fun h => by have := h7.lt; omega))
              try (replace h7 := h7.keep hkA (fun e => hs7 g7 e rfl))
              try (replace hs7 := hs7'; clear hs7')
              try (have hs10' : IsNot xa4 xc4 g10 := fun k hk e => (hfA k hk).elim (fun h => hs10 k h e) (fun h => by have := h10.lt; omega))
              try (replace h10 := h10.keep hkA (fun e => hs10 g10 e rfl))
              try (replace hs10 := hs10'; clear hs10')
              replace hoc := hoA
              clear hoA hkA hfA hszc
              refine (fun hHeld => hK _ _ hHeld ?_) (trivial)
              clear hK
              try simp only [Act.put, List.setIfInBounds_toArray, List.set_cons_zero, List.set_cons_succ]
              refine onlyL (i := 7) rfl (by kernel_rfl) (fun K hK => ?_)
              refine step_bsK rfl _ 5 1 _ rfl [.int .u8 ((i : Int) + 1)] Tryd.underlying27 Tryd.bs8 rfl (by decide) (by decide) (by simp [Act.eval]) (by simp [Value.cells]) ?_
              intro g7 w7 hg7 h7 qk
              try (have hs7 : IsNot _ _ g7 := fun k hk e => by have := hoc.lt k hk; omega)
              clear hg7
              refine (fun hHeld => hK _ _ hHeld ?_) (trivial)
              clear hK
              try simp only [Act.put, List.setIfInBounds_toArray, List.set_cons_zero, List.set_cons_succ]
              replace hKB := hKB.trans qk
              replace hoc := hoc.keep0 qk
              replace h10 := h10.keep0 qk
              refine onlyL (i := 8) rfl (by kernel_rfl) (fun K hK => ?_)
              refine step_appendM rfl _ _ 27 rfl 5 Tryd.underlying27 Tryd.info8s _ _ _ _ rfl hoc (some ⟨g7, 0, none⟩) 1 1 [(i : Int) + 1] rfl (Src.one h7 rfl) (by have := HIM.out; omega) ?_
              intro xa8 xc8 w8 hoA hkA hfA hzA
              clear hzA
              have hszc := hKB.size
              replace hKB := hKB.step hkA (fun i hi => .inr (hfc i hi))
              replace hfc : ∀ k, midOf xa8 xc8 k → v0.heap.size ≤ k := fun k hk => (hfA k hk).elim (fun h => hfc k h) (fun h => Nat.le_trans hszc h)
              try (have hs7' : IsNot xa8 xc8 g7 := fun k hk e => (hfA k hk).elim (fun h => hs7 k h e) (fun h => by have := h7.lt; omega))
              try (replace h7 := h7.keep hkA (fun e => hs7 g7 e rfl))
              try (replace hs7 := hs7'; clear hs7')
              try (have hs10' : IsNot xa8 xc8 g10 := fun k hk e => (hfA k hk).elim (fun h => hs10 k h e) (fun h => by have := h10.lt; omega))
              try (replace h10 := h10.keep hkA (fun e => hs10 g10 e rfl))
              try (replace hs10 := hs10'; clear hs10')
              replace hoc := hoA
              clear hoA hkA hfA hszc
              clear h7 hs7
              refine (fun hHeld => hK _ _ hHeld ?_) (trivial)
              clear hK
              try simp only [Act.put, List.setIfInBounds_toArray, List.set_cons_zero, List.set_cons_succ]
              refine onlyL (i := 9) rfl (by kernel_rfl) (fun K hK => ?_)
              go_simp
              refine (refMac_walk (cap := 32) ((hpr.keep0 hKB).row8 hpb hpl (by omega)) (hoc.row (areB_wf HMB.out)) (fun h => by have h1 := hoc.nil h; have h2 := hoc.le; exact ⟨h1, by omega⟩) (by omega) (by have := HIM.out; omega)).mono ?_
              rintro e w9 ⟨rfl, qk⟩
              rw [HXE.out]
              clear hoc hfc
              try clear hs10
              refine (fun hHeld => hK _ _ hHeld ?_) (trivial)
              clear hK
              try simp only [Act.put, List.setIfInBounds_toArray, List.set_cons_zero, List.set_cons_succ]
              replace hKB := hKB.trans qk
              replace h10 := h10.keep0 qk
              refine onlyL (i := 11) rfl (by kernel_rfl) (fun K hK => ?_)
              refine step_store rfl 36 _ _ rfl g10 rfl (byteV D) rfl h10 (by rw [hDv, HZ32.out]) (by rw [hDv]; exact Tryd.infoH) (byteV_one _) ?_
              intro w11 hb11 hk11 hs11
              clear hs11
              replace hKB := hKB.step hk11 (fun i hi => .inr (by rw [show i = g10 from hi]; exact hg10'))
              refine (fun hHeld => hK _ _ hHeld ?_) (trivial)
              clear hK
              try simp only [Act.put, List.setIfInBounds_toArray, List.set_cons_zero, List.set_cons_succ]
              refine wpAnyH_done (by kernel_rfl) ?_ _
              clear hpr hls hin hHeld
              have HSZ := Lib.hid (show wr.heap.size ≤ w11.heap.size from (hkd.trans hKB).size)
              have HLO := Lib.hid hout.lt
              have HB := Lib.hid (refBytes_walk (cap := 32) (hb11.row8 hsb hst (by omega)) (by omega))
              clear hb11
              go_wp2_with fail
              refine HB.out.mono ?_
              rintro e w12 ⟨a12, c12, rfl, ho12, hk12, hf12⟩
              rw [hst] at ho12 ⊢
              have hKc := (hkd.trans hKB).trans hk12
              have hout12 := hout.keep0 hKc
              have hkR12 := hkr.trans hKc
              have hr12 := ho12.row (areB_wf hsb)
              have hn12 : a12 = none → c12 = 0 ∧ 32 = 0 := fun h => by have := ho12.nilB h; omega
              have hna : ∀ k, blkOf a12 k → ¬ blkOf a k := fun k hk hk' => by have h1 := hf12 k hk; have h2 := HLO.out k hk'; have h3 := HSZ.out; omega
              have hf12' : ∀ k, blkOf a12 k → k < w12.heap.size := ho12.lt
              clear HB hk12 hf12 hKc hKB hout hkr hkd ho12
              go_wp2_with (at_builtin; refine wpl_append rfl _ _ 27 rfl 5 1 1 Tryd.underlying27 Tryd.info8s (by omega) a cap (32 * i) _ rfl hout12 _ 32 c12 (byteV D) rfl (hr12.src hn12) (by unfold maxLen; omega) (by omega) ?_)
              intro a6 cap6 w6 ho6 hk6 hf6 _
              rw [byteV_append, ← HON.out] at ho6
              have hG6 : DerGo wR gr root info (i + 1) a6 cap6 a12 32 c12 w6 := by
                refine ⟨ho6, ?_, hkR12.step hk6 (fun k hk => .inr (hfr k hk)), fun k hk => ?_, fun k hk hk' => ?_⟩
                · rw [HDD.out]
                  exact ⟨hr12.keepF hk6 (fun _ k hk hk' => hna k hk hk'), hn12⟩
                · rcases hf6 k hk with h | h
                  · exact hfr k h
                  · rw [h]; exact hkR12.size
                · rcases hf6 k hk' with h | h
                  · exact hna k hk h
                  · have := hf12' k hk; omega
              clear ho6 hk6 hf6 hout12 hr12 hkR12 hn12 hna hf12'
              go_wp2_with fail
              go_roundw
              case rel => first | exact ⟨i + 1, a6, cap6, _, _, _, by omega, by rw [show 32 * (i + 1) = 32 * i + 32 by omega], rfl, by go_num, hG6⟩ | ((repeat apply Exists.intro); exact ⟨⟨i + 1, a6, cap6, _, _, _, by omega, by rw [show 32 * (i + 1) = 32 * i + 32 by omega], rfl, by go_num, hG6⟩, rfl⟩)
              case measure => simp [intOf]; omega
            · skip
              refine step_bsK rfl _ 5 1 _ rfl [.int .u8 ((i : Int) + 1)] Tryd.underlying27 Tryd.bs8 rfl (by decide) (by decide) (by simp [Act.eval]) (by simp [Value.cells]) ?_
              intro g7 w7 hg7 h7 qk
              try (have hs7 : IsNot _ _ g7 := fun k hk e => by have := hoc.lt k hk; omega)
              clear hg7
              refine (fun hHeld => hK _ _ hHeld ?_) (trivial)
              clear hK
              try simp only [Act.put, List.setIfInBounds_toArray, List.set_cons_zero, List.set_cons_succ]
              replace hKB := hKB.trans qk
              replace hoc := hoc.keep0 qk
              replace h10 := h10.keep0 qk
              refine onlyL (i := 4) rfl (by kernel_rfl) (fun K hK => ?_)
              refine step_appendM rfl _ _ 27 rfl 5 Tryd.underlying27 Tryd.info8s _ _ _ _ rfl hoc ia im ic info rfl ((hin.keep hKB).1.src (hin.keep hKB).2) (by have := HIM.out; omega) ?_
              intro xa4 xc4 w4 hoA hkA hfA hzA
              clear hzA
              have hszc := hKB.size
              replace hKB := hKB.step hkA (fun i hi => .inr (hfc i hi))
              replace hfc : ∀ k, midOf xa4 xc4 k → v0.heap.size ≤ k := fun k hk => (hfA k hk).elim (fun h => hfc k h) (fun h => Nat.le_trans hszc h)
              try (have hs7' : IsNot xa4 xc4 g7 := fun k hk e => (hfA k hk).elim (fun h => hs7 k h e) (fun h => by have := h7.lt; omega))
              try (replace h7 := h7.keep hkA (fun e => hs7 g7 e rfl))
              try (replace hs7 := hs7'; clear hs7')
              try (have hs10' : IsNot xa4 xc4 g10 := fun k hk e => (hfA k hk).elim (fun h => hs10 k h e) (fun h => by have := h10.lt; omega))
              try (replace h10 := h10.keep hkA (fun e => hs10 g10 e rfl))
              try (replace hs10 := hs10'; clear hs10')
              replace hoc := hoA
              clear hoA hkA hfA hszc
              refine (fun hHeld => hK _ _ hHeld ?_) (trivial)
              clear hK
              try simp only [Act.put, List.setIfInBounds_toArray, List.set_cons_zero, List.set_cons_succ]
              refine onlyL (i := 8) rfl (by kernel_rfl) (fun K hK => ?_)
              refine step_appendM rfl _ _ 27 rfl 5 Tryd.underlying27 Tryd.info8s _ _ _ _ rfl hoc (some ⟨g7, 0, none⟩) 1 1 [(i : Int) + 1] rfl (Src.one h7 rfl) (by have := HIM.out; omega) ?_
              intro xa8 xc8 w8 hoA hkA hfA hzA
              clear hzA
              have hszc := hKB.size
              replace hKB := hKB.step hkA (fun i hi => .inr (hfc i hi))
              replace hfc : ∀ k, midOf xa8 xc8 k → v0.heap.size ≤ k := fun k hk => (hfA k hk).elim (fun h => hfc k h) (fun h => Nat.le_trans hszc h)
              try (have hs7' : IsNot xa8 xc8 g7 := fun k hk e => (hfA k hk).elim (fun h => hs7 k h e) (fun h => by have := h7.lt; omega))
              try (replace h7 := h7.keep hkA (fun e => hs7 g7 e rfl))
              try (replace hs7 := hs7'; clear hs7')
              try (have hs10' : IsNot xa8 xc8 g10 := fun k hk e => (hfA k hk).elim (fun h => hs10 k h e) (fun h => by have := h10.lt; omega))
              try (replace h10 := h10.keep hkA (fun e => hs10 g10 e rfl))
              try (replace hs10 := hs10'; clear hs10')
              replace hoc := hoA
              clear hoA hkA hfA hszc
              clear h7 hs7
              refine (fun hHeld => hK _ _ hHeld ?_) (trivial)
              clear hK
              try simp only [Act.put, List.setIfInBounds_toArray, List.set_cons_zero, List.set_cons_succ]
              refine onlyL (i := 9) rfl (by kernel_rfl) (fun K hK => ?_)
              go_simp
              refine (refMac_walk (cap := 32) ((hpr.keep0 hKB).row8 hpb hpl (by omega)) (hoc.row (areB_wf HMB.out)) (fun h => by have h1 := hoc.nil h; have h2 := hoc.le; exact ⟨h1, by omega⟩) (by omega) (by have := HIM.out; omega)).mono ?_
              rintro e w9 ⟨rfl, qk⟩
              rw [HXE.out]
              clear hoc hfc
              try clear hs10
              refine (fun hHeld => hK _ _ hHeld ?_) (trivial)
              clear hK
              try simp only [Act.put, List.setIfInBounds_toArray, List.set_cons_zero, List.set_cons_succ]
              replace hKB := hKB.trans qk
              replace h10 := h10.keep0 qk
              refine onlyL (i := 11) rfl (by kernel_rfl) (fun K hK => ?_)
              refine step_store rfl 36 _ _ rfl g10 rfl (byteV D) rfl h10 (by rw [hDv, HZ32.out]) (by rw [hDv]; exact Tryd.infoH) (byteV_one _) ?_
              intro w11 hb11 hk11 hs11
              clear hs11
              replace hKB := hKB.step hk11 (fun i hi => .inr (by rw [show i = g10 from hi]; exact hg10'))
              refine (fun hHeld => hK _ _ hHeld ?_) (trivial)
              clear hK
              try simp only [Act.put, List.setIfInBounds_toArray, List.set_cons_zero, List.set_cons_succ]
              refine wpAnyH_done (by kernel_rfl) ?_ _
              clear hpr hls hin hHeld
              have HSZ := Lib.hid (show wr.heap.size ≤ w11.heap.size from (hkd.trans hKB).size)
              have HLO := Lib.hid hout.lt
              have HB := Lib.hid (refBytes_walk (cap := 32) (hb11.row8 hsb hst (by omega)) (by omega))
              clear hb11
              go_wp2_with fail
              refine HB.out.mono ?_
              rintro e w12 ⟨a12, c12, rfl, ho12, hk12, hf12⟩
              rw [hst] at ho12 ⊢
              have hKc := (hkd.trans hKB).trans hk12
              have hout12 := hout.keep0 hKc
              have hkR12 := hkr.trans hKc
              have hr12 := ho12.row (areB_wf hsb)
              have hn12 : a12 = none → c12 = 0 ∧ 32 = 0 := fun h => by have := ho12.nilB h; omega
              have hna : ∀ k, blkOf a12 k → ¬ blkOf a k := fun k hk hk' => by have h1 := hf12 k hk; have h2 := HLO.out k hk'; have h3 := HSZ.out; omega
              have hf12' : ∀ k, blkOf a12 k → k < w12.heap.size := ho12.lt
              clear HB hk12 hf12 hKc hKB hout hkr hkd ho12
              go_wp2_with (at_builtin; refine wpl_append rfl _ _ 27 rfl 5 1 1 Tryd.underlying27 Tryd.info8s (by omega) a cap (32 * i) _ rfl hout12 _ 32 c12 (byteV D) rfl (hr12.src hn12) (by unfold maxLen; omega) (by omega) ?_)
              intro a6 cap6 w6 ho6 hk6 hf6 _
              rw [byteV_append, ← HON.out] at ho6
              have hG6 : DerGo wR gr root info (i + 1) a6 cap6 a12 32 c12 w6 := by
                refine ⟨ho6, ?_, hkR12.step hk6 (fun k hk => .inr (hfr k hk)), fun k hk => ?_, fun k hk hk' => ?_⟩
                · rw [HDD.out]
                  exact ⟨hr12.keepF hk6 (fun _ k hk hk' => hna k hk hk'), hn12⟩
                · rcases hf6 k hk with h | h
                  · exact hfr k h
                  · rw [h]; exact hkR12.size
                · rcases hf6 k hk' with h | h
                  · exact hna k hk h
                  · have := hf12' k hk; omega
              clear ho6 hk6 hf6 hout12 hr12 hkR12 hn12 hna hf12'
              go_wp2_with fail
              go_roundw
              case rel => first | exact ⟨i + 1, a6, cap6, _, _, _, by omega, by rw [show 32 * (i + 1) = 32 * i + 32 by omega], rfl, by go_num, hG6⟩ | ((repeat apply Exists.intro); exact ⟨⟨i + 1, a6, cap6, _, _, _, by omega, by rw [show 32 * (i + 1) = 32 * i + 32 by omega], rfl, by go_num, hG6⟩, rfl⟩)
              case measure => simp [intOf]; omega
        · skip
          refine step_bsK rfl _ 5 1 _ rfl [.int .u8 ((i : Int) + 1)] Tryd.underlying27 Tryd.bs8 rfl (by decide) (by decide) (by simp [Act.eval]) (by simp [Value.cells]) ?_
          intro g7 w7 hg7 h7 qk
          try (have hs7 : IsNot _ _ g7 := fun k hk e => by have := hoc.lt k hk; omega)
          clear hg7
          refine (fun hHeld => hK _ _ hHeld ?_) (trivial)
          clear hK
          try simp only [Act.put, List.setIfInBounds_toArray, List.set_cons_zero, List.set_cons_succ]
          replace hKB := hKB.trans qk
          refine bothL (i := 2) (j := 10) rfl rfl (by kernel_rfl) (fun K hK => ?_) (fun K hK => ?_)
          · skip
            go_simp
            refine (refBytes_walk (len := ln) (cap := lc) ((hls.keep hKB).1) (by omega)).mono ?_
            rintro e w2 ⟨a2, c2, rfl, ho2, qk, hf2⟩
            have hoc := ho2.mid
            have hfc : ∀ k, midOf a2 c2 k → v0.heap.size ≤ k := fun k hk => Nat.le_trans hKB.size (hf2 k hk.2)
            try (have hs7 : IsNot a2 c2 g7 := fun k hk e => by have := hf2 k hk.2; have := h7.lt; omega)
            try (have hs10 : IsNot a2 c2 g10 := fun k hk e => by have := hf2 k hk.2; have := h10.lt; omega)
            clear ho2 hf2
            refine (fun hHeld => hK _ _ hHeld ?_) (trivial)
            clear hK
            try simp only [Act.put, List.setIfInBounds_toArray, List.set_cons_zero, List.set_cons_succ]
            replace hKB := hKB.trans qk
            replace h7 := h7.keep0 qk
            refine bothL (i := 4) (j := 10) rfl rfl (by kernel_rfl) (fun K hK => ?_) (fun K hK => ?_)
            · skip
              refine step_appendM rfl _ _ 27 rfl 5 Tryd.underlying27 Tryd.info8s _ _ _ _ rfl hoc ia im ic info rfl ((hin.keep hKB).1.src (hin.keep hKB).2) (by have := HIM.out; omega) ?_
              intro xa4 xc4 w4 hoA hkA hfA hzA
              clear hzA
              have hszc := hKB.size
              replace hKB := hKB.step hkA (fun i hi => .inr (hfc i hi))
              replace hfc : ∀ k, midOf xa4 xc4 k → v0.heap.size ≤ k := fun k hk => (hfA k hk).elim (fun h => hfc k h) (fun h => Nat.le_trans hszc h)
              try (have hs7' : IsNot xa4 xc4 g7 := fun k hk e => (hfA k hk).elim (fun h => hs7 k h e) (fun h => by have := h7.lt; omega))
              try (replace h7 := h7.keep hkA (fun e => hs7 g7 e rfl))
              try (replace hs7 := hs7'; clear hs7')
              try (have hs10' : IsNot xa4 xc4 g10 := fun k hk e => (hfA k hk).elim (fun h => hs10 k h e) (fun h => by have := h10.lt; omega))
              try (replace h10 := h10.keep hkA (fun e => hs10 g10 e rfl))
              try (replace hs10 := hs10'; clear hs10')
              replace hoc := hoA
              clear hoA hkA hfA hszc
              refine (fun hHeld => hK _ _ hHeld ?_) (trivial)
              clear hK
              try simp only [Act.put, List.setIfInBounds_toArray, List.set_cons_zero, List.set_cons_succ]
              refine bothL (i := 8) (j := 10) rfl rfl (by kernel_rfl) (fun K hK => ?_) (fun K hK => ?_)
              · skip
                refine step_appendM rfl _ _ 27 rfl 5 Tryd.underlying27 Tryd.info8s _ _ _ _ rfl hoc (some ⟨g7, 0, none⟩) 1 1 [(i : Int) + 1] rfl (Src.one h7 rfl) (by have := HIM.out; omega) ?_
                intro xa8 xc8 w8 hoA hkA hfA hzA
                clear hzA
                have hszc := hKB.size
                replace hKB := hKB.step hkA (fun i hi => .inr (hfc i hi))
                replace hfc : ∀ k, midOf xa8 xc8 k → v0.heap.size ≤ k := fun k hk => (hfA k hk).elim (fun h => hfc k h) (fun h => Nat.le_trans hszc h)
                try (have hs7' : IsNot xa8 xc8 g7 := fun k hk e => (hfA k hk).elim (fun h => hs7 k h e) (fun h => by have := h7.lt; omega))
                try (replace h7 := h7.keep hkA (fun e => hs7 g7 e rfl))
                try (replace hs7 := hs7'; clear hs7')
                try (have hs10' : IsNot xa8 xc8 g10 := fun k hk e => (hfA k hk).elim (fun h => hs10 k h e) (fun h => by have := h10.lt; omega))
                try (replace h10 := h10.keep hkA (fun e => hs10 g10 e rfl))
                try (replace hs10 := hs10'; clear hs10')
                replace hoc := hoA
                clear hoA hkA hfA hszc
                clear h7 hs7
                refine (fun hHeld => hK _ _ hHeld ?_) (trivial)
                clear hK
                try simp only [Act.put, List.setIfInBounds_toArray, List.set_cons_zero, List.set_cons_succ]
                refine bothL (i := 9) (j := 10) rfl rfl (by kernel_rfl) (fun K hK => ?_) (fun K hK => ?_)
                · skip
                  go_simp
                  refine (refMac_walk (cap := 32) ((hpr.keep0 hKB).row8 hpb hpl (by omega)) (hoc.row (areB_wf HMB.out)) (fun h => by have h1 := hoc.nil h; have h2 := hoc.le; exact ⟨h1, by omega⟩) (by omega) (by have := HIM.out; omega)).mono ?_
                  rintro e w9 ⟨rfl, qk⟩
                  rw [HXE.out]
                  clear hoc hfc
                  try clear hs10
                  refine (fun hHeld => hK _ _ hHeld ?_) (trivial)
                  clear hK
                  try simp only [Act.put, List.setIfInBounds_toArray, List.set_cons_zero, List.set_cons_succ]
                  replace hKB := hKB.trans qk
                  refine onlyL (i := 10) rfl (by kernel_rfl) (fun K hK => ?_)
                  refine step_allocK rfl 36 rfl Z hzv ?_
                  intro g10 w10 hg10 h10 qk
                  try (have hs10 : IsNot _ _ g10 := fun k hk e => by have := hoc.lt k hk; omega)
                  have hg10' : v0.heap.size ≤ g10 := by have := hKB.size; omega
                  clear hg10
                  refine (fun hHeld => hK _ _ hHeld ?_) (trivial)
                  clear hK
                  try simp only [Act.put, List.setIfInBounds_toArray, List.set_cons_zero, List.set_cons_succ]
                  replace hKB := hKB.trans qk
                  refine onlyL (i := 11) rfl (by kernel_rfl) (fun K hK => ?_)
                  refine step_store rfl 36 _ _ rfl g10 rfl (byteV D) rfl h10 (by rw [hDv, HZ32.out]) (by rw [hDv]; exact Tryd.infoH) (byteV_one _) ?_
                  intro w11 hb11 hk11 hs11
                  clear hs11
                  replace hKB := hKB.step hk11 (fun i hi => .inr (by rw [show i = g10 from hi]; exact hg10'))
                  refine (fun hHeld => hK _ _ hHeld ?_) (trivial)
                  clear hK
                  try simp only [Act.put, List.setIfInBounds_toArray, List.set_cons_zero, List.set_cons_succ]
                  refine wpAnyH_done (by kernel_rfl) ?_ _
                  clear hpr hls hin hHeld
                  have HSZ := Lib.hid (show wr.heap.size ≤ w11.heap.size from (hkd.trans hKB).size)
                  have HLO := Lib.hid hout.lt
                  have HB := Lib.hid (refBytes_walk (cap := 32) (hb11.row8 hsb hst (by omega)) (by omega))
                  clear hb11
                  go_wp2_with fail
                  refine HB.out.mono ?_
                  rintro e w12 ⟨a12, c12, rfl, ho12, hk12, hf12⟩
                  rw [hst] at ho12 ⊢
                  have hKc := (hkd.trans hKB).trans hk12
                  have hout12 := hout.keep0 hKc
                  have hkR12 := hkr.trans hKc
                  have hr12 := ho12.row (areB_wf hsb)
                  have hn12 : a12 = none → c12 = 0 ∧ 32 = 0 := fun h => by have := ho12.nilB h; omega
                  have hna : ∀ k, blkOf a12 k → ¬ blkOf a k := fun k hk hk' => by have h1 := hf12 k hk; have h2 := HLO.out k hk'; have h3 := HSZ.out; omega
                  have hf12' : ∀ k, blkOf a12 k → k < w12.heap.size := ho12.lt
                  clear HB hk12 hf12 hKc hKB hout hkr hkd ho12
                  go_wp2_with (at_builtin; refine wpl_append rfl _ _ 27 rfl 5 1 1 Tryd.underlying27 Tryd.info8s (by omega) a cap (32 * i) _ rfl hout12 _ 32 c12 (byteV D) rfl (hr12.src hn12) (by unfold maxLen; omega) (by omega) ?_)
                  intro a6 cap6 w6 ho6 hk6 hf6 _
                  rw [byteV_append, ← HON.out] at ho6
                  have hG6 : DerGo wR gr root info (i + 1) a6 cap6 a12 32 c12 w6 := by
                    refine ⟨ho6, ?_, hkR12.step hk6 (fun k hk => .inr (hfr k hk)), fun k hk => ?_, fun k hk hk' => ?_⟩
                    · rw [HDD.out]
                      exact ⟨hr12.keepF hk6 (fun _ k hk hk' => hna k hk hk'), hn12⟩
                    · rcases hf6 k hk with h | h
                      · exact hfr k h
                      · rw [h]; exact hkR12.size
                    · rcases hf6 k hk' with h | h
                      · exact hna k hk h
                      · have := hf12' k hk; omega
                  clear ho6 hk6 hf6 hout12 hr12 hkR12 hn12 hna hf12'
                  go_wp2_with fail
                  go_roundw
                  case rel => first | exact ⟨i + 1, a6, cap6, _, _, _, by omega, by rw [show 32 * (i + 1) = 32 * i + 32 by omega], rfl, by go_num, hG6⟩ | ((repeat apply Exists.intro); exact ⟨⟨i + 1, a6, cap6, _, _, _, by omega, by rw [show 32 * (i + 1) = 32 * i + 32 by omega], rfl, by go_num, hG6⟩, rfl⟩)
                  case measure => simp [intOf]; omega
                · skip
                  refine step_allocK rfl 36 rfl Z hzv ?_
                  intro g10 w10 hg10 h10 qk
                  try (have hs10 : IsNot _ _ g10 := fun k hk e => by have := hoc.lt k hk; omega)
                  have hg10' : v0.heap.size ≤ g10 := by have := hKB.size; omega
                  clear hg10
                  refine (fun hHeld => hK _ _ hHeld ?_) (trivial)
                  clear hK
                  try simp only [Act.put, List.setIfInBounds_toArray, List.set_cons_zero, List.set_cons_succ]
                  replace hKB := hKB.trans qk
                  replace hoc := hoc.keep0 qk
                  refine onlyL (i := 9) rfl (by kernel_rfl) (fun K hK => ?_)
                  go_simp
                  refine (refMac_walk (cap := 32) ((hpr.keep0 hKB).row8 hpb hpl (by omega)) (hoc.row (areB_wf HMB.out)) (fun h => by have h1 := hoc.nil h; have h2 := hoc.le; exact ⟨h1, by omega⟩) (by omega) (by have := HIM.out; omega)).mono ?_
                  rintro e w9 ⟨rfl, qk⟩
                  rw [HXE.out]
                  clear hoc hfc
                  try clear hs10
                  refine (fun hHeld => hK _ _ hHeld ?_) (trivial)
                  clear hK
                  try simp only [Act.put, List.setIfInBounds_toArray, List.set_cons_zero, List.set_cons_succ]
                  replace hKB := hKB.trans qk
                  replace h10 := h10.keep0 qk
                  refine onlyL (i := 11) rfl (by kernel_rfl) (fun K hK => ?_)
                  refine step_store rfl 36 _ _ rfl g10 rfl (byteV D) rfl h10 (by rw [hDv, HZ32.out]) (by rw [hDv]; exact Tryd.infoH) (byteV_one _) ?_
                  intro w11 hb11 hk11 hs11
                  clear hs11
                  replace hKB := hKB.step hk11 (fun i hi => .inr (by rw [show i = g10 from hi]; exact hg10'))
                  refine (fun hHeld => hK _ _ hHeld ?_) (trivial)
                  clear hK
                  try simp only [Act.put, List.setIfInBounds_toArray, List.set_cons_zero, List.set_cons_succ]
                  refine wpAnyH_done (by kernel_rfl) ?_ _
                  clear hpr hls hin hHeld
                  have HSZ := Lib.hid (show wr.heap.size ≤ w11.heap.size from (hkd.trans hKB).size)
                  have HLO := Lib.hid hout.lt
                  have HB := Lib.hid (refBytes_walk (cap := 32) (hb11.row8 hsb hst (by omega)) (by omega))
                  clear hb11
                  go_wp2_with fail
                  refine HB.out.mono ?_
                  rintro e w12 ⟨a12, c12, rfl, ho12, hk12, hf12⟩
                  rw [hst] at ho12 ⊢
                  have hKc := (hkd.trans hKB).trans hk12
                  have hout12 := hout.keep0 hKc
                  have hkR12 := hkr.trans hKc
                  have hr12 := ho12.row (areB_wf hsb)
                  have hn12 : a12 = none → c12 = 0 ∧ 32 = 0 := fun h => by have := ho12.nilB h; omega
                  have hna : ∀ k, blkOf a12 k → ¬ blkOf a k := fun k hk hk' => by have h1 := hf12 k hk; have h2 := HLO.out k hk'; have h3 := HSZ.out; omega
                  have hf12' : ∀ k, blkOf a12 k → k < w12.heap.size := ho12.lt
                  clear HB hk12 hf12 hKc hKB hout hkr hkd ho12
                  go_wp2_with (at_builtin; refine wpl_append rfl _ _ 27 rfl 5 1 1 Tryd.underlying27 Tryd.info8s (by omega) a cap (32 * i) _ rfl hout12 _ 32 c12 (byteV D) rfl (hr12.src hn12) (by unfold maxLen; omega) (by omega) ?_)
                  intro a6 cap6 w6 ho6 hk6 hf6 _
                  rw [byteV_append, ← HON.out] at ho6
                  have hG6 : DerGo wR gr root info (i + 1) a6 cap6 a12 32 c12 w6 := by
                    refine ⟨ho6, ?_, hkR12.step hk6 (fun k hk => .inr (hfr k hk)), fun k hk => ?_, fun k hk hk' => ?_⟩
                    · rw [HDD.out]
                      exact ⟨hr12.keepF hk6 (fun _ k hk hk' => hna k hk hk'), hn12⟩
                    · rcases hf6 k hk with h | h
                      · exact hfr k h
                      · rw [h]; exact hkR12.size
                    · rcases hf6 k hk' with h | h
                      · exact hna k hk h
                      · have := hf12' k hk; omega
                  clear ho6 hk6 hf6 hout12 hr12 hkR12 hn12 hna hf12'
                  go_wp2_with fail
                  go_roundw
                  case rel => first | exact ⟨i + 1, a6, cap6, _, _, _, by omega, by rw [show 32 * (i + 1) = 32 * i + 32 by omega], rfl, by go_num, hG6⟩ | ((repeat apply Exists.intro); exact ⟨⟨i + 1, a6, cap6, _, _, _, by omega, by rw [show 32 * (i + 1) = 32 * i + 32 by omega], rfl, by go_num, hG6⟩, rfl⟩)
                  case measure => simp [intOf]; omega
              · skip
                refine step_allocK rfl 36 rfl Z hzv ?_
                intro g10 w10 hg10 h10 qk
                try (have hs10 : IsNot _ _ g10 := fun k hk e => by have := hoc.lt k hk; omega)
                have hg10' : v0.heap.size ≤ g10 := by have := hKB.size; omega
                clear hg10
                refine (fun hHeld => hK _ _ hHeld ?_) (trivial)
                clear hK
                try simp only [Act.put, List.setIfInBounds_toArray, List.set_cons_zero, List.set_cons_succ]
                replace hKB := hKB.trans qk
                replace h7 := h7.keep0 qk
                replace hoc := hoc.keep0 qk
                refine onlyL (i := 8) rfl (by kernel_rfl) (fun K hK => ?_)
                refine step_appendM rfl _ _ 27 rfl 5 Tryd.underlying27 Tryd.info8s _ _ _ _ rfl hoc (some ⟨g7, 0, none⟩) 1 1 [(i : Int) + 1] rfl (Src.one h7 rfl) (by have := HIM.out; omega) ?_
                intro xa8 xc8 w8 hoA hkA hfA hzA
                clear hzA
                have hszc := hKB.size
                replace hKB := hKB.step hkA (fun i hi => .inr (hfc i hi))
                replace hfc : ∀ k, midOf xa8 xc8 k → v0.heap.size ≤ k := fun k hk => (hfA k hk).elim (fun h => hfc k h) (fun h => Nat.le_trans hszc h)
                try (have hs7' : IsNot xa8 xc8 g7 := fun k hk e => (hfA k hk).elim (fun h => hs7 k h e) (fun h => by have := h7.lt; omega))
                try (replace h7 := h7.keep hkA (fun e => hs7 g7 e rfl))
                try (replace hs7 := hs7'; clear hs7')
                try (have hs10' : IsNot xa8 xc8 g10 := fun k hk e => (hfA k hk).elim (fun h => hs10 k h e) (fun h => by have := h10.lt; omega))
                try (replace h10 := h10.keep hkA (fun e => hs10 g10 e rfl))
                try (replace hs10 := hs10'; clear hs10')
                replace hoc := hoA
                clear hoA hkA hfA hszc
                clear h7 hs7
                refine (fun hHeld => hK _ _ hHeld ?_) (trivial)
                clear hK
                try simp only [Act.put, List.setIfInBounds_toArray, List.set_cons_zero, List.set_cons_succ]
                refine onlyL (i := 9) rfl (by kernel_rfl) (fun K hK => ?_)
                go_simp
                refine (refMac_walk (cap := 32) ((hpr.keep0 hKB).row8 hpb hpl (by omega)) (hoc.row (areB_wf HMB.out)) (fun h => by have h1 := hoc.nil h; have h2 := hoc.le; exact ⟨h1, by omega⟩) (by omega) (by have := HIM.out; omega)).mono ?_
                rintro e w9 ⟨rfl, qk⟩
                rw [HXE.out]
                clear hoc hfc
                try clear hs10
                refine (fun hHeld => hK _ _ hHeld ?_) (trivial)
                clear hK
                try simp only [Act.put, List.setIfInBounds_toArray, List.set_cons_zero, List.set_cons_succ]
                replace hKB := hKB.trans qk
                replace h10 := h10.keep0 qk
                refine onlyL (i := 11) rfl (by kernel_rfl) (fun K hK => ?_)
                refine step_store rfl 36 _ _ rfl g10 rfl (byteV D) rfl h10 (by rw [hDv, HZ32.out]) (by rw [hDv]; exact Tryd.infoH) (byteV_one _) ?_
                intro w11 hb11 hk11 hs11
                clear hs11
                replace hKB := hKB.step hk11 (fun i hi => .inr (by rw [show i = g10 from hi]; exact hg10'))
                refine (fun hHeld => hK _ _ hHeld ?_) (trivial)
                clear hK
                try simp only [Act.put, List.setIfInBounds_toArray, List.set_cons_zero, List.set_cons_succ]
                refine wpAnyH_done (by kernel_rfl) ?_ _
                clear hpr hls hin hHeld
                have HSZ := Lib.hid (show wr.heap.size ≤ w11.heap.size from (hkd.trans hKB).size)
                have HLO := Lib.hid hout.lt
                have HB := Lib.hid (refBytes_walk (cap := 32) (hb11.row8 hsb hst (by omega)) (by omega))
                clear hb11
                go_wp2_with fail
                refine HB.out.mono ?_
                rintro e w12 ⟨a12, c12, rfl, ho12, hk12, hf12⟩
                rw [hst] at ho12 ⊢
                have hKc := (hkd.trans hKB).trans hk12
                have hout12 := hout.keep0 hKc
                have hkR12 := hkr.trans hKc
                have hr12 := ho12.row (areB_wf hsb)
                have hn12 : a12 = none → c12 = 0 ∧ 32 = 0 := fun h => by have := ho12.nilB h; omega
                have hna : ∀ k, blkOf a12 k → ¬ blkOf a k := fun k hk hk' => by have h1 := hf12 k hk; have h2 := HLO.out k hk'; have h3 := HSZ.out; omega
                have hf12' : ∀ k, blkOf a12 k → k < w12.heap.size := ho12.lt
                clear HB hk12 hf12 hKc hKB hout hkr hkd ho12
                go_wp2_with (at_builtin; refine wpl_append rfl _ _ 27 rfl 5 1 1 Tryd.underlying27 Tryd.info8s (by omega) a cap (32 * i) _ rfl hout12 _ 32 c12 (byteV D) rfl (hr12.src hn12) (by unfold maxLen; omega) (by omega) ?_)
                intro a6 cap6 w6 ho6 hk6 hf6 _
                rw [byteV_append, ← HON.out] at ho6
                have hG6 : DerGo wR gr root info (i + 1) a6 cap6 a12 32 c12 w6 := by
                  refine ⟨ho6, ?_, hkR12.step hk6 (fun k hk => .inr (hfr k hk)), fun k hk => ?_, fun k hk hk' => ?_⟩
                  · rw [HDD.out]
                    exact ⟨hr12.keepF hk6 (fun _ k hk hk' => hna k hk hk'), hn12⟩
                  · rcases hf6 k hk with h | h
                    · exact hfr k h
                    · rw [h]; exact hkR12.size
                  · rcases hf6 k hk' with h | h
                    · exact hna k hk h
                    · have := hf12' k hk; omega
                clear ho6 hk6 hf6 hout12 hr12 hkR12 hn12 hna hf12'
                go_wp2_with fail
                go_roundw
                case rel => first | exact ⟨i + 1, a6, cap6, _, _, _, by omega, by rw [show 32 * (i + 1) = 32 * i + 32 by omega], rfl, by go_num, hG6⟩ | ((repeat apply Exists.intro); exact ⟨⟨i + 1, a6, cap6, _, _, _, by omega, by rw [show 32 * (i + 1) = 32 * i + 32 by omega], rfl, by go_num, hG6⟩, rfl⟩)
                case measure => simp [intOf]; omega
            · skip
              refine step_allocK rfl 36 rfl Z hzv ?_
              intro g10 w10 hg10 h10 qk
              try (have hs10 : IsNot _ _ g10 := fun k hk e => by have := hoc.lt k hk; omega)
              have hg10' : v0.heap.size ≤ g10 := by have := hKB.size; omega
              clear hg10
              refine (fun hHeld => hK _ _ hHeld ?_) (trivial)
              clear hK
              try simp only [Act.put, List.setIfInBounds_toArray, List.set_cons_zero, List.set_cons_succ]
              replace hKB := hKB.trans qk
              replace h7 := h7.keep0 qk
              replace hoc := hoc.keep0 qk
              refine onlyL (i := 4) rfl (by kernel_rfl) (fun K hK => ?_)
              refine step_appendM rfl _ _ 27 rfl 5 Tryd.underlying27 Tryd.info8s _ _ _ _ rfl hoc ia im ic info rfl ((hin.keep hKB).1.src (hin.keep hKB).2) (by have := HIM.out; omega) ?_
              intro xa4 xc4 w4 hoA hkA hfA hzA
              clear hzA
              have hszc := hKB.size
              replace hKB := hKB.step hkA (fun i hi => .inr (hfc i hi))
              replace hfc : ∀ k, midOf xa4 xc4 k → v0.heap.size ≤ k := fun k hk => (hfA k hk).elim (fun h => hfc k h) (fun h => Nat.le_trans hszc h)
              try (have hs7' : IsNot xa4 xc4 g7 := fun k hk e => (hfA k hk).elim (fun h => hs7 k h e) (fun h => by have := h7.lt; omega))
              try (replace h7 := h7.keep hkA (fun e => hs7 g7 e rfl))
              try (replace hs7 := hs7'; clear hs7')
              try (have hs10' : IsNot xa4 xc4 g10 := fun k hk e => (hfA k hk).elim (fun h => hs10 k h e) (fun h => by have := h10.lt; omega))
              try (replace h10 := h10.keep hkA (fun e => hs10 g10 e rfl))
              try (replace hs10 := hs10'; clear hs10')
              replace hoc := hoA
              clear hoA hkA hfA hszc
              refine (fun hHeld => hK _ _ hHeld ?_) (trivial)
              clear hK
              try simp only [Act.put, List.setIfInBounds_toArray, List.set_cons_zero, List.set_cons_succ]
              refine onlyL (i := 8) rfl (by kernel_rfl) (fun K hK => ?_)
              refine step_appendM rfl _ _ 27 rfl 5 Tryd.underlying27 Tryd.info8s _ _ _ _ rfl hoc (some ⟨g7, 0, none⟩) 1 1 [(i : Int) + 1] rfl (Src.one h7 rfl) (by have := HIM.out; omega) ?_
              intro xa8 xc8 w8 hoA hkA hfA hzA
              clear hzA
              have hszc := hKB.size
              replace hKB := hKB.step hkA (fun i hi => .inr (hfc i hi))
              replace hfc : ∀ k, midOf xa8 xc8 k → v0.heap.size ≤ k := fun k hk => (hfA k hk).elim (fun h => hfc k h) (fun h => Nat.le_trans hszc h)
              try (have hs7' : IsNot xa8 xc8 g7 := fun k hk e => (hfA k hk).elim (fun h => hs7 k h e) (fun h => by have := h7.lt; omega))
              try (replace h7 := h7.keep hkA (fun e => hs7 g7 e rfl))
              try (replace hs7 := hs7'; clear hs7')
              try (have hs10' : IsNot xa8 xc8 g10 := fun k hk e => (hfA k hk).elim (fun h => hs10 k h e) (fun h => by have := h10.lt; omega))
              try (replace h10 := h10.keep hkA (fun e => hs10 g10 e rfl))
              try (replace hs10 := hs10'; clear hs10')
              replace hoc := hoA
              clear hoA hkA hfA hszc
              clear h7 hs7
              refine (fun hHeld => hK _ _ hHeld ?_) (trivial)
              clear hK
              try simp only [Act.put, List.setIfInBounds_toArray, List.set_cons_zero, List.set_cons_succ]
              refine onlyL (i := 9) rfl (by kernel_rfl) (fun K hK => ?_)
              go_simp
              refine (refMac_walk (cap := 32) ((hpr.keep0 hKB).row8 hpb hpl (by omega)) (hoc.row (areB_wf HMB.out)) (fun h => by have h1 := hoc.nil h; have h2 := hoc.le; exact ⟨h1, by omega⟩) (by omega) (by have := HIM.out; omega)).mono ?_
              rintro e w9 ⟨rfl, qk⟩
              rw [HXE.out]
              clear hoc hfc
              try clear hs10
              refine (fun hHeld => hK _ _ hHeld ?_) (trivial)
              clear hK
              try simp only [Act.put, List.setIfInBounds_toArray, List.set_cons_zero, List.set_cons_succ]
              replace hKB := hKB.trans qk
              replace h10 := h10.keep0 qk
              refine onlyL (i := 11) rfl (by kernel_rfl) (fun K hK => ?_)
              refine step_store rfl 36 _ _ rfl g10 rfl (byteV D) rfl h10 (by rw [hDv, HZ32.out]) (by rw [hDv]; exact Tryd.infoH) (byteV_one _) ?_
              intro w11 hb11 hk11 hs11
              clear hs11
              replace hKB := hKB.step hk11 (fun i hi => .inr (by rw [show i = g10 from hi]; exact hg10'))
              refine (fun hHeld => hK _ _ hHeld ?_) (trivial)
              clear hK
              try simp only [Act.put, List.setIfInBounds_toArray, List.set_cons_zero, List.set_cons_succ]
              refine wpAnyH_done (by kernel_rfl) ?_ _
              clear hpr hls hin hHeld
              have HSZ := Lib.hid (show wr.heap.size ≤ w11.heap.size from (hkd.trans hKB).size)
              have HLO := Lib.hid hout.lt
              have HB := Lib.hid (refBytes_walk (cap := 32) (hb11.row8 hsb hst (by omega)) (by omega))
              clear hb11
              go_wp2_with fail
              refine HB.out.mono ?_
              rintro e w12 ⟨a12, c12, rfl, ho12, hk12, hf12⟩
              rw [hst] at ho12 ⊢
              have hKc := (hkd.trans hKB).trans hk12
              have hout12 := hout.keep0 hKc
              have hkR12 := hkr.trans hKc
              have hr12 := ho12.row (areB_wf hsb)
              have hn12 : a12 = none → c12 = 0 ∧ 32 = 0 := fun h => by have := ho12.nilB h; omega
              have hna : ∀ k, blkOf a12 k → ¬ blkOf a k := fun k hk hk' => by have h1 := hf12 k hk; have h2 := HLO.out k hk'; have h3 := HSZ.out; omega
              have hf12' : ∀ k, blkOf a12 k → k < w12.heap.size := ho12.lt
              clear HB hk12 hf12 hKc hKB hout hkr hkd ho12
              go_wp2_with (at_builtin; refine wpl_append rfl _ _ 27 rfl 5 1 1 Tryd.underlying27 Tryd.info8s (by omega) a cap (32 * i) _ rfl hout12 _ 32 c12 (byteV D) rfl (hr12.src hn12) (by unfold maxLen; omega) (by omega) ?_)
              intro a6 cap6 w6 ho6 hk6 hf6 _
              rw [byteV_append, ← HON.out] at ho6
              have hG6 : DerGo wR gr root info (i + 1) a6 cap6 a12 32 c12 w6 := by
                refine ⟨ho6, ?_, hkR12.step hk6 (fun k hk => .inr (hfr k hk)), fun k hk => ?_, fun k hk hk' => ?_⟩
                · rw [HDD.out]
                  exact ⟨hr12.keepF hk6 (fun _ k hk hk' => hna k hk hk'), hn12⟩
                · rcases hf6 k hk with h | h
                  · exact hfr k h
                  · rw [h]; exact hkR12.size
                · rcases hf6 k hk' with h | h
                  · exact hna k hk h
                  · have := hf12' k hk; omega
              clear ho6 hk6 hf6 hout12 hr12 hkR12 hn12 hna hf12'
              go_wp2_with fail
              go_roundw
              case rel => first | exact ⟨i + 1, a6, cap6, _, _, _, by omega, by rw [show 32 * (i + 1) = 32 * i + 32 by omega], rfl, by go_num, hG6⟩ | ((repeat apply Exists.intro); exact ⟨⟨i + 1, a6, cap6, _, _, _, by omega, by rw [show 32 * (i + 1) = 32 * i + 32 by omega], rfl, by go_num, hG6⟩, rfl⟩)
              case measure => simp [intOf]; omega
          · skip
            refine step_allocK rfl 36 rfl Z hzv ?_
            intro g10 w10 hg10 h10 qk
            try (have hs10 : IsNot _ _ g10 := fun k hk e => by have := hoc.lt k hk; omega)
            have hg10' : v0.heap.size ≤ g10 := by have := hKB.size; omega
            clear hg10
            refine (fun hHeld => hK _ _ hHeld ?_) (trivial)
            clear hK
            try simp only [Act.put, List.setIfInBounds_toArray, List.set_cons_zero, List.set_cons_succ]
            replace hKB := hKB.trans qk
            replace h7 := h7.keep0 qk
            refine onlyL (i := 2) rfl (by kernel_rfl) (fun K hK => ?_)
            go_simp
            refine (refBytes_walk (len := ln) (cap := lc) ((hls.keep hKB).1) (by omega)).mono ?_
            rintro e w2 ⟨a2, c2, rfl, ho2, qk, hf2⟩
            have hoc := ho2.mid
            have hfc : ∀ k, midOf a2 c2 k → v0.heap.size ≤ k := fun k hk => Nat.le_trans hKB.size (hf2 k hk.2)
            try (have hs7 : IsNot a2 c2 g7 := fun k hk e => by have := hf2 k hk.2; have := h7.lt; omega)
            try (have hs10 : IsNot a2 c2 g10 := fun k hk e => by have := hf2 k hk.2; have := h10.lt; omega)
            clear ho2 hf2
            refine (fun hHeld => hK _ _ hHeld ?_) (trivial)
            clear hK
            try simp only [Act.put, List.setIfInBounds_toArray, List.set_cons_zero, List.set_cons_succ]
            replace hKB := hKB.trans qk
            replace h7 := h7.keep0 qk
            replace h10 := h10.keep0 qk
            refine onlyL (i := 4) rfl (by kernel_rfl) (fun K hK => ?_)
            refine step_appendM rfl _ _ 27 rfl 5 Tryd.underlying27 Tryd.info8s _ _ _ _ rfl hoc ia im ic info rfl ((hin.keep hKB).1.src (hin.keep hKB).2) (by have := HIM.out; omega) ?_
            intro xa4 xc4 w4 hoA hkA hfA hzA
            clear hzA
            have hszc := hKB.size
            replace hKB := hKB.step hkA (fun i hi => .inr (hfc i hi))
            replace hfc : ∀ k, midOf xa4 xc4 k → v0.heap.size ≤ k := fun k hk => (hfA k hk).elim (fun h => hfc k h) (fun h => Nat.le_trans hszc h)
            try (have hs7' : IsNot xa4 xc4 g7 := fun k hk e => (hfA k hk).elim (fun h => hs7 k h e) (fun h => by have := h7.lt; omega))
            try (replace h7 := h7.keep hkA (fun e => hs7 g7 e rfl))
            try (replace hs7 := hs7'; clear hs7')
            try (have hs10' : IsNot xa4 xc4 g10 := fun k hk e => (hfA k hk).elim (fun h => hs10 k h e) (fun h => by have := h10.lt; omega))
            try (replace h10 := h10.keep hkA (fun e => hs10 g10 e rfl))
            try (replace hs10 := hs10'; clear hs10')
            replace hoc := hoA
            clear hoA hkA hfA hszc
            refine (fun hHeld => hK _ _ hHeld ?_) (trivial)
            clear hK
            try simp only [Act.put, List.setIfInBounds_toArray, List.set_cons_zero, List.set_cons_succ]
            refine onlyL (i := 8) rfl (by kernel_rfl) (fun K hK => ?_)
            refine step_appendM rfl _ _ 27 rfl 5 Tryd.underlying27 Tryd.info8s _ _ _ _ rfl hoc (some ⟨g7, 0, none⟩) 1 1 [(i : Int) + 1] rfl (Src.one h7 rfl) (by have := HIM.out; omega) ?_
            intro xa8 xc8 w8 hoA hkA hfA hzA
            clear hzA
            have hszc := hKB.size
            replace hKB := hKB.step hkA (fun i hi => .inr (hfc i hi))
            replace hfc : ∀ k, midOf xa8 xc8 k → v0.heap.size ≤ k := fun k hk => (hfA k hk).elim (fun h => hfc k h) (fun h => Nat.le_trans hszc h)
            try (have hs7' : IsNot xa8 xc8 g7 := fun k hk e => (hfA k hk).elim (fun h => hs7 k h e) (fun h => by have := h7.lt; omega))
            try (replace h7 := h7.keep hkA (fun e => hs7 g7 e rfl))
            try (replace hs7 := hs7'; clear hs7')
            try (have hs10' : IsNot xa8 xc8 g10 := fun k hk e => (hfA k hk).elim (fun h => hs10 k h e) (fun h => by have := h10.lt; omega))
            try (replace h10 := h10.keep hkA (fun e => hs10 g10 e rfl))
            try (replace hs10 := hs10'; clear hs10')
            replace hoc := hoA
            clear hoA hkA hfA hszc
            clear h7 hs7
            refine (fun hHeld => hK _ _ hHeld ?_) (trivial)
            clear hK
            try simp only [Act.put, List.setIfInBounds_toArray, List.set_cons_zero, List.set_cons_succ]
            refine onlyL (i := 9) rfl (by kernel_rfl) (fun K hK => ?_)
            go_simp
            refine (refMac_walk (cap := 32) ((hpr.keep0 hKB).row8 hpb hpl (by omega)) (hoc.row (areB_wf HMB.out)) (fun h => by have h1 := hoc.nil h; have h2 := hoc.le; exact ⟨h1, by omega⟩) (by omega) (by have := HIM.out; omega)).mono ?_
            rintro e w9 ⟨rfl, qk⟩
            rw [HXE.out]
            clear hoc hfc
            try clear hs10
            refine (fun hHeld => hK _ _ hHeld ?_) (trivial)
            clear hK
            try simp only [Act.put, List.setIfInBounds_toArray, List.set_cons_zero, List.set_cons_succ]
            replace hKB := hKB.trans qk
            replace h10 := h10.keep0 qk
            refine onlyL (i := 11) rfl (by kernel_rfl) (fun K hK => ?_)
            refine step_store rfl 36 _ _ rfl g10 rfl (byteV D) rfl h10 (by rw [hDv, HZ32.out]) (by rw [hDv]; exact Tryd.infoH) (byteV_one _) ?_
            intro w11 hb11 hk11 hs11
            clear hs11
            replace hKB := hKB.step hk11 (fun i hi => .inr (by rw [show i = g10 from hi]; exact hg10'))
            refine (fun hHeld => hK _ _ hHeld ?_) (trivial)
            clear hK
            try simp only [Act.put, List.setIfInBounds_toArray, List.set_cons_zero, List.set_cons_succ]
            refine wpAnyH_done (by kernel_rfl) ?_ _
            clear hpr hls hin hHeld
            have HSZ := Lib.hid (show wr.heap.size ≤ w11.heap.size from (hkd.trans hKB).size)
            have HLO := Lib.hid hout.lt
            have HB := Lib.hid (refBytes_walk (cap := 32) (hb11.row8 hsb hst (by omega)) (by omega))
            clear hb11
            go_wp2_with fail
            refine HB.out.mono ?_
            rintro e w12 ⟨a12, c12, rfl, ho12, hk12, hf12⟩
            rw [hst] at ho12 ⊢
            have hKc := (hkd.trans hKB).trans hk12
            have hout12 := hout.keep0 hKc
            have hkR12 := hkr.trans hKc
            have hr12 := ho12.row (areB_wf hsb)
            have hn12 : a12 = none → c12 = 0 ∧ 32 = 0 := fun h => by have := ho12.nilB h; omega
            have hna : ∀ k, blkOf a12 k → ¬ blkOf a k := fun k hk hk' => by have h1 := hf12 k hk; have h2 := HLO.out k hk'; have h3 := HSZ.out; omega
            have hf12' : ∀ k, blkOf a12 k → k < w12.heap.size := ho12.lt
            clear HB hk12 hf12 hKc hKB hout hkr hkd ho12
            go_wp2_with (at_builtin; refine wpl_append rfl _ _ 27 rfl 5 1 1 Tryd.underlying27 Tryd.info8s (by omega) a cap (32 * i) _ rfl hout12 _ 32 c12 (byteV D) rfl (hr12.src hn12) (by unfold maxLen; omega) (by omega) ?_)
            intro a6 cap6 w6 ho6 hk6 hf6 _
            rw [byteV_append, ← HON.out] at ho6
            have hG6 : DerGo wR gr root info (i + 1) a6 cap6 a12 32 c12 w6 := by
              refine ⟨ho6, ?_, hkR12.step hk6 (fun k hk => .inr (hfr k hk)), fun k hk => ?_, fun k hk hk' => ?_⟩
              · rw [HDD.out]
                exact ⟨hr12.keepF hk6 (fun _ k hk hk' => hna k hk hk'), hn12⟩
              · rcases hf6 k hk with h | h
                · exact hfr k h
                · rw [h]; exact hkR12.size
              · rcases hf6 k hk' with h | h
                · exact hna k hk h
                · have := hf12' k hk; omega
            clear ho6 hk6 hf6 hout12 hr12 hkR12 hn12 hna hf12'
            go_wp2_with fail
            go_roundw
            case rel => first | exact ⟨i + 1, a6, cap6, _, _, _, by omega, by rw [show 32 * (i + 1) = 32 * i + 32 by omega], rfl, by go_num, hG6⟩ | ((repeat apply Exists.intro); exact ⟨⟨i + 1, a6, cap6, _, _, _, by omega, by rw [show 32 * (i + 1) = 32 * i + 32 by omega], rfl, by go_num, hG6⟩, rfl⟩)
            case measure => simp [intOf]; omega
        · skip
          refine step_allocK rfl 36 rfl Z hzv ?_
          intro g10 w10 hg10 h10 qk
          try (have hs10 : IsNot _ _ g10 := fun k hk e => by have := hoc.lt k hk; omega)
          have hg10' : v0.heap.size ≤ g10 := by have := hKB.size; omega
          clear hg10
          refine (fun hHeld => hK _ _ hHeld ?_) (trivial)
          clear hK
          try simp only [Act.put, List.setIfInBounds_toArray, List.set_cons_zero, List.set_cons_succ]
          replace hKB := hKB.trans qk
          refine bothL (i := 2) (j := 7) rfl rfl (by kernel_rfl) (fun K hK => ?_) (fun K hK => ?_)
          · skip
            go_simp
            refine (refBytes_walk (len := ln) (cap := lc) ((hls.keep hKB).1) (by omega)).mono ?_
            rintro e w2 ⟨a2, c2, rfl, ho2, qk, hf2⟩
            have hoc := ho2.mid
            have hfc : ∀ k, midOf a2 c2 k → v0.heap.size ≤ k := fun k hk => Nat.le_trans hKB.size (hf2 k hk.2)
            try (have hs7 : IsNot a2 c2 g7 := fun k hk e => by have := hf2 k hk.2; have := h7.lt; omega)
            try (have hs10 : IsNot a2 c2 g10 := fun k hk e => by have := hf2 k hk.2; have := h10.lt; omega)
            clear ho2 hf2
            refine (fun hHeld => hK _ _ hHeld ?_) (trivial)
            clear hK
            try simp only [Act.put, List.setIfInBounds_toArray, List.set_cons_zero, List.set_cons_succ]
            replace hKB := hKB.trans qk
            replace h10 := h10.keep0 qk
            refine bothL (i := 4) (j := 7) rfl rfl (by kernel_rfl) (fun K hK => ?_) (fun K hK => ?_)
            · skip
              refine step_appendM rfl _ _ 27 rfl 5 Tryd.underlying27 Tryd.info8s _ _ _ _ rfl hoc ia im ic info rfl ((hin.keep hKB).1.src (hin.keep hKB).2) (by have := HIM.out; omega) ?_
              intro xa4 xc4 w4 hoA hkA hfA hzA
              clear hzA
              have hszc := hKB.size
              replace hKB := hKB.step hkA (fun i hi => .inr (hfc i hi))
              replace hfc : ∀ k, midOf xa4 xc4 k → v0.heap.size ≤ k := fun k hk => (hfA k hk).elim (fun h => hfc k h) (fun h => Nat.le_trans hszc h)
              try (have hs7' : IsNot xa4 xc4 g7 := fun k hk e => (hfA k hk).elim (fun h => hs7 k h e) (fun h => by have := h7.lt; omega))
              try (replace h7 := h7.keep hkA (fun e => hs7 g7 e rfl))
              try (replace hs7 := hs7'; clear hs7')
              try (have hs10' : IsNot xa4 xc4 g10 := fun k hk e => (hfA k hk).elim (fun h => hs10 k h e) (fun h => by have := h10.lt; omega))
              try (replace h10 := h10.keep hkA (fun e => hs10 g10 e rfl))
              try (replace hs10 := hs10'; clear hs10')
              replace hoc := hoA
              clear hoA hkA hfA hszc
              refine (fun hHeld => hK _ _ hHeld ?_) (trivial)
              clear hK
              try simp only [Act.put, List.setIfInBounds_toArray, List.set_cons_zero, List.set_cons_succ]
              refine onlyL (i := 7) rfl (by kernel_rfl) (fun K hK => ?_)
              refine step_bsK rfl _ 5 1 _ rfl [.int .u8 ((i : Int) + 1)] Tryd.underlying27 Tryd.bs8 rfl (by decide) (by decide) (by simp [Act.eval]) (by simp [Value.cells]) ?_
              intro g7 w7 hg7 h7 qk
              try (have hs7 : IsNot _ _ g7 := fun k hk e => by have := hoc.lt k hk; omega)
              clear hg7
              refine (fun hHeld => hK _ _ hHeld ?_) (trivial)
              clear hK
              try simp only [Act.put, List.setIfInBounds_toArray, List.set_cons_zero, List.set_cons_succ]
              replace hKB := hKB.trans qk
              replace h10 := h10.keep0 qk
              replace hoc := hoc.keep0 qk
              refine onlyL (i := 8) rfl (by kernel_rfl) (fun K hK => ?_)
              refine step_appendM rfl _ _ 27 rfl 5 Tryd.underlying27 Tryd.info8s _ _ _ _ rfl hoc (some ⟨g7, 0, none⟩) 1 1 [(i : Int) + 1] rfl (Src.one h7 rfl) (by have := HIM.out; omega) ?_
              intro xa8 xc8 w8 hoA hkA hfA hzA
              clear hzA
              have hszc := hKB.size
              replace hKB := hKB.step hkA (fun i hi => .inr (hfc i hi))
              replace hfc : ∀ k, midOf xa8 xc8 k → v0.heap.size ≤ k := fun k hk => (hfA k hk).elim (fun h => hfc k h) (fun h => Nat.le_trans hszc h)
              try (have hs7' : IsNot xa8 xc8 g7 := fun k hk e => (hfA k hk).elim (fun h => hs7 k h e) (fun h => by have := h7.lt; omega))
              try (replace h7 := h7.keep hkA (fun e => hs7 g7 e rfl))
              try (replace hs7 := hs7'; clear hs7')
              try (have hs10' : IsNot xa8 xc8 g10 := fun k hk e => (hfA k hk).elim (fun h => hs10 k h e) (fun h => by have := h10.lt; omega))
              try (replace h10 := h10.keep hkA (fun e => hs10 g10 e rfl))
              try (replace hs10 := hs10'; clear hs10')
              replace hoc := hoA
              clear hoA hkA hfA hszc
              clear h7 hs7
              refine (fun hHeld => hK _ _ hHeld ?_) (trivial)
              clear hK
              try simp only [Act.put, List.setIfInBounds_toArray, List.set_cons_zero, List.set_cons_succ]
              refine onlyL (i := 9) rfl (by kernel_rfl) (fun K hK => ?_)
              go_simp
              refine (refMac_walk (cap := 32) ((hpr.keep0 hKB).row8 hpb hpl (by omega)) (hoc.row (areB_wf HMB.out)) (fun h => by have h1 := hoc.nil h; have h2 := hoc.le; exact ⟨h1, by omega⟩) (by omega) (by have := HIM.out; omega)).mono ?_
              rintro e w9 ⟨rfl, qk⟩
              rw [HXE.out]
              clear hoc hfc
              try clear hs10
              refine (fun hHeld => hK _ _ hHeld ?_) (trivial)
              clear hK
              try simp only [Act.put, List.setIfInBounds_toArray, List.set_cons_zero, List.set_cons_succ]
              replace hKB := hKB.trans qk
              replace h10 := h10.keep0 qk
              refine onlyL (i := 11) rfl (by kernel_rfl) (fun K hK => ?_)
              refine step_store rfl 36 _ _ rfl g10 rfl (byteV D) rfl h10 (by rw [hDv, HZ32.out]) (by rw [hDv]; exact Tryd.infoH) (byteV_one _) ?_
              intro w11 hb11 hk11 hs11
              clear hs11
              replace hKB := hKB.step hk11 (fun i hi => .inr (by rw [show i = g10 from hi]; exact hg10'))
              refine (fun hHeld => hK _ _ hHeld ?_) (trivial)
              clear hK
              try simp only [Act.put, List.setIfInBounds_toArray, List.set_cons_zero, List.set_cons_succ]
              refine wpAnyH_done (by kernel_rfl) ?_ _
              clear hpr hls hin hHeld
              have HSZ := Lib.hid (show wr.heap.size ≤ w11.heap.size from (hkd.trans hKB).size)
              have HLO := Lib.hid hout.lt
              have HB := Lib.hid (refBytes_walk (cap := 32) (hb11.row8 hsb hst (by omega)) (by omega))
              clear hb11
              go_wp2_with fail
              refine HB.out.mono ?_
              rintro e w12 ⟨a12, c12, rfl, ho12, hk12, hf12⟩
              rw [hst] at ho12 ⊢
              have hKc := (hkd.trans hKB).trans hk12
              have hout12 := hout.keep0 hKc
              have hkR12 := hkr.trans hKc
              have hr12 := ho12.row (areB_wf hsb)
              have hn12 : a12 = none → c12 = 0 ∧ 32 = 0 := fun h => by have := ho12.nilB h; omega
              have hna : ∀ k, blkOf a12 k → ¬ blkOf a k := fun k hk hk' => by have h1 := hf12 k hk; have h2 := HLO.out k hk'; have h3 := HSZ.out; omega
              have hf12' : ∀ k, blkOf a12 k → k < w12.heap.size := ho12.lt
              clear HB hk12 hf12 hKc hKB hout hkr hkd ho12
              go_wp2_with (at_builtin; refine wpl_append rfl _ _ 27 rfl 5 1 1 Tryd.underlying27 Tryd.info8s (by omega) a cap (32 * i) _ rfl hout12 _ 32 c12 (byteV D) rfl (hr12.src hn12) (by unfold maxLen; omega) (by omega) ?_)
              intro a6 cap6 w6 ho6 hk6 hf6 _
              rw [byteV_append, ← HON.out] at ho6
              have hG6 : DerGo wR gr root info (i + 1) a6 cap6 a12 32 c12 w6 := by
                refine ⟨ho6, ?_, hkR12.step hk6 (fun k hk => .inr (hfr k hk)), fun k hk => ?_, fun k hk hk' => ?_⟩
                · rw [HDD.out]
                  exact ⟨hr12.keepF hk6 (fun _ k hk hk' => hna k hk hk'), hn12⟩
                · rcases hf6 k hk with h | h
                  · exact hfr k h
                  · rw [h]; exact hkR12.size
                · rcases hf6 k hk' with h | h
                  · exact hna k hk h
                  · have := hf12' k hk; omega
              clear ho6 hk6 hf6 hout12 hr12 hkR12 hn12 hna hf12'
              go_wp2_with fail
              go_roundw
              case rel => first | exact ⟨i + 1, a6, cap6, _, _, _, by omega, by rw [show 32 * (i + 1) = 32 * i + 32 by omega], rfl, by go_num, hG6⟩ | ((repeat apply Exists.intro); exact ⟨⟨i + 1, a6, cap6, _, _, _, by omega, by rw [show 32 * (i + 1) = 32 * i + 32 by omega], rfl, by go_num, hG6⟩, rfl⟩)
              case measure => simp [intOf]; omega
            · skip
              refine step_bsK rfl _ 5 1 _ rfl [.int .u8 ((i : Int) + 1)] Tryd.underlying27 Tryd.bs8 rfl (by decide) (by decide) (by simp [Act.eval]) (by simp [Value.cells]) ?_
              intro g7 w7 hg7 h7 qk
              try (have hs7 : IsNot _ _ g7 := fun k hk e => by have := hoc.lt k hk; omega)
              clear hg7
              refine (fun hHeld => hK _ _ hHeld ?_) (trivial)
              clear hK
              try simp only [Act.put, List.setIfInBounds_toArray, List.set_cons_zero, List.set_cons_succ]
              replace hKB := hKB.trans qk
              replace h10 := h10.keep0 qk
              replace hoc := hoc.keep0 qk
              refine onlyL (i := 4) rfl (by kernel_rfl) (fun K hK => ?_)
              refine step_appendM rfl _ _ 27 rfl 5 Tryd.underlying27 Tryd.info8s _ _ _ _ rfl hoc ia im ic info rfl ((hin.keep hKB).1.src (hin.keep hKB).2) (by have := HIM.out; omega) ?_
              intro xa4 xc4 w4 hoA hkA hfA hzA
              clear hzA
              have hszc := hKB.size
              replace hKB := hKB.step hkA (fun i hi => .inr (hfc i hi))
              replace hfc : ∀ k, midOf xa4 xc4 k → v0.heap.size ≤ k := fun k hk => (hfA k hk).elim (fun h => hfc k h) (fun h => Nat.le_trans hszc h)
              try (have hs7' : IsNot xa4 xc4 g7 := fun k hk e => (hfA k hk).elim (fun h => hs7 k h e) (fun h => by have := h7.lt; omega))
              try (replace h7 := h7.keep hkA (fun e => hs7 g7 e rfl))
              try (replace hs7 := hs7'; clear hs7')
              try (have hs10' : IsNot xa4 xc4 g10 := fun k hk e => (hfA k hk).elim (fun h => hs10 k h e) (fun h => by have := h10.lt; omega))
              try (replace h10 := h10.keep hkA (fun e => hs10 g10 e rfl))
              try (replace hs10 := hs10'; clear hs10')
              replace hoc := hoA
              clear hoA hkA hfA hszc
              refine (fun hHeld => hK _ _ hHeld ?_) (trivial)
              clear hK
              try simp only [Act.put, List.setIfInBounds_toArray, List.set_cons_zero, List.set_cons_succ]
              refine onlyL (i := 8) rfl (by kernel_rfl) (fun K hK => ?_)
              refine step_appendM rfl _ _ 27 rfl 5 Tryd.underlying27 Tryd.info8s _ _ _ _ rfl hoc (some ⟨g7, 0, none⟩) 1 1 [(i : Int) + 1] rfl (Src.one h7 rfl) (by have := HIM.out; omega) ?_
              intro xa8 xc8 w8 hoA hkA hfA hzA
              clear hzA
              have hszc := hKB.size
              replace hKB := hKB.step hkA (fun i hi => .inr (hfc i hi))
              replace hfc : ∀ k, midOf xa8 xc8 k → v0.heap.size ≤ k := fun k hk => (hfA k hk).elim (fun h => hfc k h) (fun h => Nat.le_trans hszc h)
              try (have hs7' : IsNot xa8 xc8 g7 := fun k hk e => (hfA k hk).elim (fun h => hs7 k h e) (fun h => by have := h7.lt; omega))
              try (replace h7 := h7.keep hkA (fun e => hs7 g7 e rfl))
              try (replace hs7 := hs7'; clear hs7')
              try (have hs10' : IsNot xa8 xc8 g10 := fun k hk e => (hfA k hk).elim (fun h => hs10 k h e) (fun h => by have := h10.lt; omega))
              try (replace h10 := h10.keep hkA (fun e => hs10 g10 e rfl))
              try (replace hs10 := hs10'; clear hs10')
              replace hoc := hoA
              clear hoA hkA hfA hszc
              clear h7 hs7
              refine (fun hHeld => hK _ _ hHeld ?_) (trivial)
              clear hK
              try simp only [Act.put, List.setIfInBounds_toArray, List.set_cons_zero, List.set_cons_succ]
              refine onlyL (i := 9) rfl (by kernel_rfl) (fun K hK => ?_)
              go_simp
              refine (refMac_walk (cap := 32) ((hpr.keep0 hKB).row8 hpb hpl (by omega)) (hoc.row (areB_wf HMB.out)) (fun h => by have h1 := hoc.nil h; have h2 := hoc.le; exact ⟨h1, by omega⟩) (by omega) (by have := HIM.out; omega)).mono ?_
              rintro e w9 ⟨rfl, qk⟩
              rw [HXE.out]
              clear hoc hfc
              try clear hs10
              refine (fun hHeld => hK _ _ hHeld ?_) (trivial)
              clear hK
              try simp only [Act.put, List.setIfInBounds_toArray, List.set_cons_zero, List.set_cons_succ]
              replace hKB := hKB.trans qk
              replace h10 := h10.keep0 qk
              refine onlyL (i := 11) rfl (by kernel_rfl) (fun K hK => ?_)
              refine step_store rfl 36 _ _ rfl g10 rfl (byteV D) rfl h10 (by rw [hDv, HZ32.out]) (by rw [hDv]; exact Tryd.infoH) (byteV_one _) ?_
              intro w11 hb11 hk11 hs11
              clear hs11
              replace hKB := hKB.step hk11 (fun i hi => .inr (by rw [show i = g10 from hi]; exact hg10'))
              refine (fun hHeld => hK _ _ hHeld ?_) (trivial)
              clear hK
              try simp only [Act.put, List.setIfInBounds_toArray, List.set_cons_zero, List.set_cons_succ]
              refine wpAnyH_done (by kernel_rfl) ?_ _
              clear hpr hls hin hHeld
              have HSZ := Lib.hid (show wr.heap.size ≤ w11.heap.size from (hkd.trans hKB).size)
              have HLO := Lib.hid hout.lt
              have HB := Lib.hid (refBytes_walk (cap := 32) (hb11.row8 hsb hst (by omega)) (by omega))
              clear hb11
              go_wp2_with fail
              refine HB.out.mono ?_
              rintro e w12 ⟨a12, c12, rfl, ho12, hk12, hf12⟩
              rw [hst] at ho12 ⊢
              have hKc := (hkd.trans hKB).trans hk12
              have hout12 := hout.keep0 hKc
              have hkR12 := hkr.trans hKc
              have hr12 := ho12.row (areB_wf hsb)
              have hn12 : a12 = none → c12 = 0 ∧ 32 = 0 := fun h => by have := ho12.nilB h; omega
              have hna : ∀ k, blkOf a12 k → ¬ blkOf a k := fun k hk hk' => by have h1 := hf12 k hk; have h2 := HLO.out k hk'; have h3 := HSZ.out; omega
              have hf12' : ∀ k, blkOf a12 k → k < w12.heap.size := ho12.lt
              clear HB hk12 hf12 hKc hKB hout hkr hkd ho12
              go_wp2_with (at_builtin; refine wpl_append rfl _ _ 27 rfl 5 1 1 Tryd.underlying27 Tryd.info8s (by omega) a cap (32 * i) _ rfl hout12 _ 32 c12 (byteV D) rfl (hr12.src hn12) (by unfold maxLen; omega) (by omega) ?_)
              intro a6 cap6 w6 ho6 hk6 hf6 _
              rw [byteV_append, ← HON.out] at ho6
              have hG6 : DerGo wR gr root info (i + 1) a6 cap6 a12 32 c12 w6 := by
                refine ⟨ho6, ?_, hkR12.step hk6 (fun k hk => .inr (hfr k hk)), fun k hk => ?_, fun k hk hk' => ?_⟩
                · rw [HDD.out]
                  exact ⟨hr12.keepF hk6 (fun _ k hk hk' => hna k hk hk'), hn12⟩
                · rcases hf6 k hk with h | h
                  · exact hfr k h
                  · rw [h]; exact hkR12.size
                · rcases hf6 k hk' with h | h
                  · exact hna k hk h
                  · have := hf12' k hk; omega
              clear ho6 hk6 hf6 hout12 hr12 hkR12 hn12 hna hf12'
              go_wp2_with fail
              go_roundw
              case rel => first | exact ⟨i + 1, a6, cap6, _, _, _, by omega, by rw [show 32 * (i + 1) = 32 * i + 32 by omega], rfl, by go_num, hG6⟩ | ((repeat apply Exists.intro); exact ⟨⟨i + 1, a6, cap6, _, _, _, by omega, by rw [show 32 * (i + 1) = 32 * i + 32 by omega], rfl, by go_num, hG6⟩, rfl⟩)
              case measure => simp [intOf]; omega
          · skip
            refine step_bsK rfl _ 5 1 _ rfl [.int .u8 ((i : Int) + 1)] Tryd.underlying27 Tryd.bs8 rfl (by decide) (by decide) (by simp [Act.eval]) (by simp [Value.cells]) ?_
            intro g7 w7 hg7 h7 qk
            try (have hs7 : IsNot _ _ g7 := fun k hk e => by have := hoc.lt k hk; omega)
            clear hg7
            refine (fun hHeld => hK _ _ hHeld ?_) (trivial)
            clear hK
            try simp only [Act.put, List.setIfInBounds_toArray, List.set_cons_zero, List.set_cons_succ]
            replace hKB := hKB.trans qk
            replace h10 := h10.keep0 qk
            refine onlyL (i := 2) rfl (by kernel_rfl) (fun K hK => ?_)
            go_simp
            refine (refBytes_walk (len := ln) (cap := lc) ((hls.keep hKB).1) (by omega)).mono ?_
            rintro e w2 ⟨a2, c2, rfl, ho2, qk, hf2⟩
            have hoc := ho2.mid
            have hfc : ∀ k, midOf a2 c2 k → v0.heap.size ≤ k := fun k hk => Nat.le_trans hKB.size (hf2 k hk.2)
            try (have hs7 : IsNot a2 c2 g7 := fun k hk e => by have := hf2 k hk.2; have := h7.lt; omega)
            try (have hs10 : IsNot a2 c2 g10 := fun k hk e => by have := hf2 k hk.2; have := h10.lt; omega)
            clear ho2 hf2
            refine (fun hHeld => hK _ _ hHeld ?_) (trivial)
            clear hK
            try simp only [Act.put, List.setIfInBounds_toArray, List.set_cons_zero, List.set_cons_succ]
            replace hKB := hKB.trans qk
            replace h10 := h10.keep0 qk
            replace h7 := h7.keep0 qk
            refine onlyL (i := 4) rfl (by kernel_rfl) (fun K hK => ?_)
            refine step_appendM rfl _ _ 27 rfl 5 Tryd.underlying27 Tryd.info8s _ _ _ _ rfl hoc ia im ic info rfl ((hin.keep hKB).1.src (hin.keep hKB).2) (by have := HIM.out; omega) ?_
            intro xa4 xc4 w4 hoA hkA hfA hzA
            clear hzA
            have hszc := hKB.size
            replace hKB := hKB.step hkA (fun i hi => .inr (hfc i hi))
            replace hfc : ∀ k, midOf xa4 xc4 k → v0.heap.size ≤ k := fun k hk => (hfA k hk).elim (fun h => hfc k h) (fun h => Nat.le_trans hszc h)
            try (have hs7' : IsNot xa4 xc4 g7 := fun k hk e => (hfA k hk).elim (fun h => hs7 k h e) (fun h => by have := h7.lt; omega))
            try (replace h7 := h7.keep hkA (fun e => hs7 g7 e rfl))
            try (replace hs7 := hs7'; clear hs7')
            try (have hs10' : IsNot xa4 xc4 g10 := fun k hk e => (hfA k hk).elim (fun h => hs10 k h e) (fun h => by have := h10.lt; omega))
            try (replace h10 := h10.keep hkA (fun e => hs10 g10 e rfl))
            try (replace hs10 := hs10'; clear hs10')
            replace hoc := hoA
            clear hoA hkA hfA hszc
            refine (fun hHeld => hK _ _ hHeld ?_) (trivial)
            clear hK
            try simp only [Act.put, List.setIfInBounds_toArray, List.set_cons_zero, List.set_cons_succ]
            refine onlyL (i := 8) rfl (by kernel_rfl) (fun K hK => ?_)
            refine step_appendM rfl _ _ 27 rfl 5 Tryd.underlying27 Tryd.info8s _ _ _ _ rfl hoc (some ⟨g7, 0, none⟩) 1 1 [(i : Int) + 1] rfl (Src.one h7 rfl) (by have := HIM.out; omega) ?_
            intro xa8 xc8 w8 hoA hkA hfA hzA
            clear hzA
            have hszc := hKB.size
            replace hKB := hKB.step hkA (fun i hi => .inr (hfc i hi))
            replace hfc : ∀ k, midOf xa8 xc8 k → v0.heap.size ≤ k := fun k hk => (hfA k hk).elim (fun h => hfc k h) (fun h => Nat.le_trans hszc h)
            try (have hs7' : IsNot xa8 xc8 g7 := fun k hk e => (hfA k hk).elim (fun h => hs7 k h e) (fun h => by have := h7.lt; omega))
            try (replace h7 := h7.keep hkA (fun e => hs7 g7 e rfl))
            try (replace hs7 := hs7'; clear hs7')
            try (have hs10' : IsNot xa8 xc8 g10 := fun k hk e => (hfA k hk).elim (fun h => hs10 k h e) (fun h => by have := h10.lt; omega))
            try (replace h10 := h10.keep hkA (fun e => hs10 g10 e rfl))
            try (replace hs10 := hs10'; clear hs10')
            replace hoc := hoA
            clear hoA hkA hfA hszc
            clear h7 hs7
            refine (fun hHeld => hK _ _ hHeld ?_) (trivial)
            clear hK
            try simp only [Act.put, List.setIfInBounds_toArray, List.set_cons_zero, List.set_cons_succ]
            refine onlyL (i := 9) rfl (by kernel_rfl) (fun K hK => ?_)
            go_simp
            refine (refMac_walk (cap := 32) ((hpr.keep0 hKB).row8 hpb hpl (by omega)) (hoc.row (areB_wf HMB.out)) (fun h => by have h1 := hoc.nil h; have h2 := hoc.le; exact ⟨h1, by omega⟩) (by omega) (by have := HIM.out; omega)).mono ?_
            rintro e w9 ⟨rfl, qk⟩
            rw [HXE.out]
            clear hoc hfc
            try clear hs10
            refine (fun hHeld => hK _ _ hHeld ?_) (trivial)
            clear hK
            try simp only [Act.put, List.setIfInBounds_toArray, List.set_cons_zero, List.set_cons_succ]
            replace hKB := hKB.trans qk
            replace h10 := h10.keep0 qk
            refine onlyL (i := 11) rfl (by kernel_rfl) (fun K hK => ?_)
            refine step_store rfl 36 _ _ rfl g10 rfl (byteV D) rfl h10 (by rw [hDv, HZ32.out]) (by rw [hDv]; exact Tryd.infoH) (byteV_one _) ?_
            intro w11 hb11 hk11 hs11
            clear hs11
            replace hKB := hKB.step hk11 (fun i hi => .inr (by rw [show i = g10 from hi]; exact hg10'))
            refine (fun hHeld => hK _ _ hHeld ?_) (trivial)
            clear hK
            try simp only [Act.put, List.setIfInBounds_toArray, List.set_cons_zero, List.set_cons_succ]
            refine wpAnyH_done (by kernel_rfl) ?_ _
            clear hpr hls hin hHeld
            have HSZ := Lib.hid (show wr.heap.size ≤ w11.heap.size from (hkd.trans hKB).size)
            have HLO := Lib.hid hout.lt
            have HB := Lib.hid (refBytes_walk (cap := 32) (hb11.row8 hsb hst (by omega)) (by omega))
            clear hb11
            go_wp2_with fail
            refine HB.out.mono ?_
            rintro e w12 ⟨a12, c12, rfl, ho12, hk12, hf12⟩
            rw [hst] at ho12 ⊢
            have hKc := (hkd.trans hKB).trans hk12
            have hout12 := hout.keep0 hKc
            have hkR12 := hkr.trans hKc
            have hr12 := ho12.row (areB_wf hsb)
            have hn12 : a12 = none → c12 = 0 ∧ 32 = 0 := fun h => by have := ho12.nilB h; omega
            have hna : ∀ k, blkOf a12 k → ¬ blkOf a k := fun k hk hk' => by have h1 := hf12 k hk; have h2 := HLO.out k hk'; have h3 := HSZ.out; omega
            have hf12' : ∀ k, blkOf a12 k → k < w12.heap.size := ho12.lt
            clear HB hk12 hf12 hKc hKB hout hkr hkd ho12
            go_wp2_with (at_builtin; refine wpl_append rfl _ _ 27 rfl 5 1 1 Tryd.underlying27 Tryd.info8s (by omega) a cap (32 * i) _ rfl hout12 _ 32 c12 (byteV D) rfl (hr12.src hn12) (by unfold maxLen; omega) (by omega) ?_)
            intro a6 cap6 w6 ho6 hk6 hf6 _
            rw [byteV_append, ← HON.out] at ho6
            have hG6 : DerGo wR gr root info (i + 1) a6 cap6 a12 32 c12 w6 := by
              refine ⟨ho6, ?_, hkR12.step hk6 (fun k hk => .inr (hfr k hk)), fun k hk => ?_, fun k hk hk' => ?_⟩
              · rw [HDD.out]
                exact ⟨hr12.keepF hk6 (fun _ k hk hk' => hna k hk hk'), hn12⟩
              · rcases hf6 k hk with h | h
                · exact hfr k h
                · rw [h]; exact hkR12.size
              · rcases hf6 k hk' with h | h
                · exact hna k hk h
                · have := hf12' k hk; omega
            clear ho6 hk6 hf6 hout12 hr12 hkR12 hn12 hna hf12'
            go_wp2_with fail
            go_roundw
            case rel => first | exact ⟨i + 1, a6, cap6, _, _, _, by omega, by rw [show 32 * (i + 1) = 32 * i + 32 by omega], rfl, by go_num, hG6⟩ | ((repeat apply Exists.intro); exact ⟨⟨i + 1, a6, cap6, _, _, _, by omega, by rw [show 32 * (i + 1) = 32 * i + 32 by omega], rfl, by go_num, hG6⟩, rfl⟩)
            case measure => simp [intOf]; omega
      · have hlen := outL_len root info i
        have hnc : n ≤ cap := by have := hout.2.1; omega
        have hii : i = (n + 31) / 32 := by omega
        have hrow : Row .u8 wr a n ((outL root info i).take n) := (hout.mid.head (areB_wf (outL_bytes root info i)) n (by omega))
        rw [hii, ← HD.out] at hrow
        have hncI : (n : Int) ≤ cap := by omega
        have HR := Lib.hid (And.intro hrow (And.intro (hKR.trans hkr) hnc))
        clear hrow hlen hout hlast hii hGo hfr hap
        go_wp2_with fail
        all_goals
          go_ret2
          exact ⟨_, cap, rfl, by first | exact HR.out.1 | (simpa using HR.out.1), HR.out.2.1, HR.out.2.2⟩
end Go.Proofs.YtnkahfpinkgimaaDoor
