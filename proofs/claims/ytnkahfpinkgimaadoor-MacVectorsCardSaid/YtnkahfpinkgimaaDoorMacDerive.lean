/-
  mac.Derive, where so many bytes can be derived.
-/
import Derived.Test.YtnkahfpinkgimaaDoorMacSum
namespace Go.Proofs.YtnkahfpinkgimaaDoor
set_option linter.unusedSimpArgs false
set_option linter.unusedVariables false
open Go.RowKit

/-- A slice of bytes of the program's own, new since w, and no error. -/
def DerPost (w : World) (l : List Int) (e : Ending) (w' : World) : Prop :=
  ∃ a cap, e = .returned (.tuple #[.slice a l.length cap, .nilIface]) ∧ Own w' 5 1 a cap l.length (byteV l) ∧ Keeps Nil w w' ∧ (∀ k, blkOf a k → w.heap.size ≤ k)
/-- What the loop holds: i digests are strung together. -/
structure DerGo (wR : World) (gr : Nat) (root info : List Int) (i : Nat) (a : Option Addr) (cap : Nat) (la : Option Addr) (ln lc : Nat) (wr : World) : Prop where
  out : Own wr 5 1 a cap (32 * i) (byteV (outL root info i))
  last : PieceOk wr (la, ln, lc, stepL root info i)
  keep : Keeps Nil wR wr
  fresh : ∀ k, blkOf a k → wR.heap.size ≤ k
  apart : ∀ k, blkOf la k → ¬ blkOf a k
theorem PieceOk.keepF {S : Nat → Prop} {w w' : World} {x : Piece} (h : PieceOk w x) (hk : Keeps S w w') (hn : ∀ b, blkOf x.1 b → ¬ S b) : PieceOk w' x := ⟨h.1.keepF hk (fun _ => hn), h.2⟩
theorem byteV_append (l r : List Int) : byteV l ++ byteV r = byteV (l ++ r) := by simp [byteV]

set_option maxRecDepth 20000 in
set_option maxHeartbeats 3200000 in
theorem derive_walk {w : World} {sa ka ia : Option Addr} {sn sc kn kc im ic : Nat} {salt key info : List Int} (hs : PieceOk w (sa, sn, sc, salt)) (hk : PieceOk w (ka, kn, kc, key)) (hi : PieceOk w (ia, im, ic, info)) (bs : sn ≤ 1000) (bk : kn ≤ 1000) (bi : im ≤ 1000) {n : Nat} (hn : n ≤ 8160) :
    Calls Tryd.prog 17 #[.slice sa sn sc, .slice ka kn kc, .slice ia im ic, .int .i64 n] w (DerPost w (deriveL salt key info n)) := by
  have hzv := Tryd.zeroH32
  have HZ32 := Lib.hid (show (byteV z32).length = 32 by rw [byteV_len, z32_len])
  generalize byteV z32 = Z at *
  have hka := (Keeps.refl Nil w).alloc (.cells [Value.slice ka kn kc].toArray 27)
  have hsl : salt.length = sn := hs.1.llen
  have hkl : key.length = kn := hk.1.llen
  have hil : info.length = im := hi.1.llen
  have HM := Lib.hid (macSum_walk (n := sn) (cap := sc) (cl := 1) (hs.1.keep hka) hs.2 (ManyB.one' (c := kc) (Blk.new w [Value.slice ka kn kc] 27) (hk.keep hka)) (by omega) (by simp; omega))
  have HI := Lib.hid hi
  have HIL := Lib.hid hil
  clear hs hk hi hsl hkl hil
  go_enter Tryd.func17, Tryd.ntmps17
  go_wp2_with fail
  refine HM.out.mono ?_
  rintro e w1 ⟨rfl, hk1⟩
  rw [show [key].flatten = key by simp]
  have hK1 := hka.trans hk1
  have hb := Blk.new w1 Z 36
  have hka := (Keeps.refl Nil w1).alloc (.cells Z.toArray 36)
  have hrl := macL_len salt key
  have hrb := macL_bytes salt key
  have HD := Lib.hid (show deriveL salt key info n = (outL (macL salt key) info ((n + 31) / 32)).take n from rfl)
  clear HM hk1
  generalize macL salt key = root at *
  have hrv : (byteV root).length = 32 := by rw [byteV_len, hrl]
  go_wp2_with (refine wpl_store rfl 36 _ _ rfl w1.heap.size rfl (byteV root) rfl hb (by rw [hrv, HZ32.out]) (by rw [hrv]; exact Tryd.infoH) (byteV_one root) ?_)
  intro wR hbR hkR hsR
  have hKR : Keeps Nil w wR := (hK1.trans hka).step hkR (fun i hi => .inr (by rw [show i = w1.heap.size from hi]; exact hK1.size))
  have hiR := HI.out.keep hKR
  have hlR := hbR.lt
  clear hb hka hkR hsR hK1
  generalize w1.heap.size = gr at *
  have HG := Lib.hid (show DerGo wR gr root info 0 none 0 none 0 0 wR from ⟨Own.nil _ _ _, PieceOk.none _, Keeps.refl _ _, fun k hk => (blkOf_none k hk).elim, fun k hk => (blkOf_none k hk).elim⟩)
  go_wp2_with fail
  go_loopw [11, 12, 13] (fun o l v wr => ∃ (i : Nat) (a : Option Addr) (cap : Nat) (la : Option Addr) (ln lc : Nat), 32 * i < n + 32 ∧ o = .slice a (32 * i) cap ∧ l = .slice la ln lc ∧ v = .int .i64 ((i + 1 : Nat) : Int) ∧ Hid (DerGo wR gr root info i a cap la ln lc wr)) (fun _ _ v _ => 300 - (intOf v).toNat)
  case atStart => exact ⟨0, none, 0, none, 0, 0, by omega, rfl, rfl, rfl, HG.out⟩
  case round =>
    obtain ⟨i, a, cap, la, ln, lc, hi, rfl, rfl, rfl, hGo⟩ := hrel
    clear HG
    obtain ⟨hout, hlast, hkr, hfr, hap⟩ := hGo.out
    by_cases hin : 32 * i < n
    · have hx : 0 ≤ ((i + 1 : Nat) : Int) ∧ ((i + 1 : Nat) : Int) < 256 := by omega
      have hq1 := (Keeps.refl Nil wr).alloc (.cells [Value.int .u8 ((i : Int) + 1)].toArray 5)
      have hn1 := Blk.new wr [Value.int .u8 ((i : Int) + 1)] 5
      have hs1 : (wr.alloc (.cells [Value.int .u8 ((i : Int) + 1)].toArray 5)).heap.size = wr.heap.size + 1 := size_alloc' _ _
      generalize hw1 : wr.alloc (.cells [Value.int .u8 ((i : Int) + 1)].toArray 5) = wx at *
      have hq2 := (Keeps.refl Nil wx).alloc (.cells [Value.slice la ln lc, Value.slice ia im ic, Value.slice (some ⟨wr.heap.size, 0, none⟩) 1 1].toArray 27)
      have hn2 := Blk.new' wx [Value.slice la ln lc, Value.slice ia im ic, Value.slice (some ⟨wr.heap.size, 0, none⟩) 1 1] 27 hs1.symm
      have hq := hq1.trans hq2
      have hp3 : PieceOk (wx.alloc (.cells [Value.slice la ln lc, Value.slice ia im ic, Value.slice (some ⟨wr.heap.size, 0, none⟩) 1 1].toArray 27)) (some ⟨wr.heap.size, 0, none⟩, 1, 1, [((i + 1 : Nat) : Int)]) :=
        PieceOk.some (Blk.row8 (T := 5) (l := [((i + 1 : Nat) : Int)]) (by simpa [byteV] using hn1.keep0 hq2) (fun x hx' => by rw [List.mem_singleton.1 hx']; exact hx) rfl (by omega))
      have hM := ManyB.three hn2 (hlast.keep hq) ((hiR.keep hkr).keep hq) hp3
      have hlle : (stepL root info i).length ≤ 32 := stepL_le root info i
      have HM := Lib.hid (macSum_walk (cap := 32) (cl := 3) (((hbR.keep0 hkr).keep0 hq).row8 hrb hrl (by omega)) (fun h => by cases h) hM (by omega) (by have := HIL.out; simp; omega))
      rw [show [stepL root info i, info, [((i + 1 : Nat) : Int)]].flatten = stepL root info i ++ info ++ [((i + 1 : Nat) : Int) % 256] by rw [Int.emod_eq_of_lt hx.1 hx.2]; simp, ← stepL_succ] at HM
      rw [← hw1] at HM hq
      have hon := outL_succ root info i
      have hst := stepL_len root info i
      have hsb := stepL_bytes root info (i + 1)
      have HON := Lib.hid hon
      have hdd : stepL root info (i + 1) = stepL root info (i + 1) := rfl
      clear hq1 hn1 hs1 hq2 hn2 hp3 hM hlle hx hon hlast hw1
      generalize hDD : stepL root info (i + 1) = D at *
      have HDD := Lib.hid hDD
      clear hDD hdd
      have hDv : (byteV D).length = 32 := by rw [byteV_len, hst]
      go_wp2_with fail
      refine HM.out.mono ?_
      rintro e w4 ⟨rfl, hk4⟩
      have hK4 := hq.trans hk4
      have hout4 := hout.keep0 hK4
      have hb := Blk.new w4 Z 36
      have hka := (Keeps.refl Nil w4).alloc (.cells Z.toArray 36)
      have hol := hout4.lt
      clear HM hk4 hq hout
      go_wp2_with (first | (refine wpl_store rfl 36 _ _ rfl w4.heap.size rfl (byteV D) rfl hb (by rw [hDv, HZ32.out]) (by rw [hDv]; exact Tryd.infoH) (byteV_one D) ?_))
      intro w5 hb5 hk5 hs5
      have hk45 : Keeps (One w4.heap.size) w4 w5 := (hka.nil (S := One w4.heap.size)).step hk5 (fun i hi => .inl hi)
      have hout5 := hout4.keep hk45 (fun k hk e => by have h1 := hol k hk; have h2 : k = w4.heap.size := e; omega)
      have hrw5 := hb5.row8 hsb hst (by omega)
      have hkR5 : Keeps Nil wR w5 := (hkr.trans hK4).step hk45 (fun i hi => .inr (by rw [show i = w4.heap.size from hi]; exact (hkr.trans hK4).size))
      have hg5 := hb5.lt
      have hna : ∀ k, blkOf a k → k ≠ w4.heap.size := fun k hk e => by have h1 := hol k hk; omega
      clear hb hka hk5 hk45 hout4 hK4 hol hap
      generalize w4.heap.size = g5 at *
      go_wp2_with (at_builtin; refine wpl_append rfl _ _ 27 rfl 5 1 1 Tryd.underlying27 Tryd.info8s (by omega) a cap (32 * i) _ rfl hout5 _ 32 32 (byteV D) rfl (hrw5.src (fun h => by cases h)) (by unfold maxLen; omega) (by omega) ?_)
      intro a6 cap6 w6 ho6 hk6 hf6 _
      rw [byteV_append, ← HON.out] at ho6
      have hG6 : DerGo wR gr root info (i + 1) a6 cap6 (some ⟨g5, 0, none⟩) 32 32 w6 := by
        refine ⟨ho6, ?_, hkR5.step hk6 (fun k hk => .inr (hfr k hk)), fun k hk => ?_, fun k hk hk' => ?_⟩
        · rw [HDD.out]
          exact PieceOk.some (hrw5.keepF hk6 (fun _ k hk hk' => by rw [(blkOf_some _ _ _ _).1 hk] at hk'; exact hna _ hk' rfl))
        · rcases hf6 k hk with h | h
          · exact hfr k h
          · have := hkR5.size; omega
        · have hkg := (blkOf_some _ _ _ _).1 hk
          rcases hf6 k hk' with h | h
          · exact hna k h hkg
          · omega
      clear ho6 hk6 hf6 hout5 hrw5 hkR5 hb5
      go_wp2_with fail
      go_roundw
      case rel => first | exact ⟨i + 1, a6, cap6, _, _, _, by omega, by rw [show 32 * (i + 1) = 32 * i + 32 by omega], rfl, by go_num, hG6⟩ | ((repeat apply Exists.intro); exact ⟨⟨i + 1, a6, cap6, _, _, _, by omega, by rw [show 32 * (i + 1) = 32 * i + 32 by omega], rfl, by go_num, hG6⟩, rfl⟩)
      case measure => simp [intOf]; omega
    · have hlen := outL_len root info i
      have hnc : n ≤ cap := by have := hout.2.1; omega
      have hii : i = (n + 31) / 32 := by omega
      have hwf := outL_bytes root info i
      have hrow : Row .u8 wr a n ((outL root info i).take n) := (hout.mid.head (areB_wf hwf) n (by omega))
      have hnil : a = none → cap = 0 ∧ n = 0 := fun h => by
        obtain ⟨_, _, _, h4⟩ := hout
        rcases h4 with ⟨_, h5, h6⟩ | ⟨g, sp, h5, _⟩
        · omega
        · rw [h5] at h; cases h
      rw [hii, ← HD.out] at hrow
      have hcl := cloneB_walk (cap := cap) hrow hnil (by omega)
      have hdl := deriveL_len salt key info n
      have HC := Lib.hid hcl
      have hncI : (n : Int) ≤ cap := by omega
      clear hcl hrow hwf hlen hout hlast hii
      go_wp2_with fail
      refine HC.out.mono ?_
      rintro e w5 ⟨a5, c5, rfl, ho5, hk5, hf5⟩
      rw [hdl]
      go_wp2_with fail
      go_ret2
      exact ⟨a5, c5, by rw [hdl]; rfl, ho5, (hKR.trans hkr).trans hk5, fun k hk => Nat.le_trans (hKR.trans hkr).size (hf5 k hk)⟩
end Go.Proofs.YtnkahfpinkgimaaDoor
