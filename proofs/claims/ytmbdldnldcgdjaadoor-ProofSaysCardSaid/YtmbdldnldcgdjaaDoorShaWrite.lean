/-
  sha.Write.
-/
import Derived.Test.YtmbdldnldcgdjaaDoorShaHash
namespace Go.Proofs.YtmbdldnldcgdjaaDoor
set_option linter.unusedSimpArgs false
set_option linter.unusedVariables false
open Go.RowKit

/-- How much is left over. -/
def restLen (g : Nat) (w : World) : Nat := match w.cell? ⟨g, 8, none⟩ with
  | some (.slice _ n _) => n
  | _ => 0
theorem restLen_of {g n cap : Nat} {w : World} {a : Option Addr} (h : w.cell? ⟨g, 8, none⟩ = some (.slice a n cap)) : restLen g w = n := by simp [restLen, h]
theorem HashAt.c8 {w : World} {g cap q n : Nat} {a : Option Addr} {l : List Int} {t : Int} (h : HashAt w g a cap q n l t) : w.cell? ⟨g, 8, none⟩ = some (.slice a n cap) := h.obj.cell 8 (hashV_8 _ _ _ _ _ (blocks_len _ _))
theorem HashAt.c9 {w : World} {g cap q n : Nat} {a : Option Addr} {l : List Int} {t : Int} (h : HashAt w g a cap q n l t) : w.cell? ⟨g, 9, none⟩ = some (.int .u64 t) := h.obj.cell 9 (hashV_9 _ _ _ _ _ (blocks_len _ _))
def HashGo (w : World) (g : Nat) (a0 : Option Addr) (cap0 : Nat) (L : List Int) (t : Int) (wr : World) : Prop :=
  ∃ q n a cap, HashAt wr g a cap q n L t ∧ Keeps (hashOf g a0 cap0) w wr ∧ (∀ k, midOf a cap k → midOf a0 cap0 k ∨ w.heap.size ≤ k)
def WriteAt (g : Nat) (a0 : Option Addr) (cap0 : Nat) (L : List Int) (t : Int) (w : World) (e : Ending) (w' : World) : Prop :=
  e = .returned (.tuple #[]) ∧ ∃ a cap, HashAt w' g a cap (L.length / 64) (L.length % 64) L t ∧ Keeps (hashOf g a0 cap0) w w' ∧ (∀ k, midOf a cap k → midOf a0 cap0 k ∨ w.heap.size ≤ k)
def WritePost (g : Nat) (a0 : Option Addr) (cap0 : Nat) (L : List Int) (w : World) (e : Ending) (w' : World) : Prop :=
  e = .returned (.tuple #[]) ∧ ∃ a cap, IsHash w' g a cap L ∧ Keeps (hashOf g a0 cap0) w w' ∧ (∀ k, midOf a cap k → midOf a0 cap0 k ∨ w.heap.size ≤ k)

theorem hash_step {w wr w3 : World} {g cap0 q m m' cap2 cap' : Nat} {a0 a2 a' : Option Addr} {L : List Int} {t : Int} (hkr : Keeps (hashOf g a0 cap0) w wr) (H : HashAt wr g a2 cap2 q m L t) (hm : 64 ≤ m)
    (hb3 : Blk w3 g (wordV (blocks shaH0 L (q + 1)) ++ [.slice a2 m cap2, .int .u64 t]) 95) (hk3 : Keeps (One g) wr w3) (hr : MidB w3 5 a' cap' m' ((L.drop (64 * q)).drop 64)) (hof : ∀ k, midOf a' cap' k → midOf a2 cap2 k)
    (hfr : ∀ k, midOf a2 cap2 k → midOf a0 cap0 k ∨ w.heap.size ≤ k) (hm' : m' < m) (hrl : restLen g wr = m) :
    HashGo w g a0 cap0 L t (w3.setCell ⟨g, 8, none⟩ (.slice a' m' cap')) ∧ restLen g (w3.setCell ⟨g, 8, none⟩ (.slice a' m' cap')) < restLen g wr := by
  have hb4 : Blk (w3.setCell ⟨g, 8, none⟩ (.slice a' m' cap')) g (hashV (blocks shaH0 L (q + 1)) a' m' cap' t) 95 := by
    have := Blk.set (cs := hashV (blocks shaH0 L (q + 1)) a2 m cap2 t) hb3 8 (.slice a' m' cap')
    rwa [hashV_set8 _ _ _ _ _ _ _ _ (blocks_len _ _)] at this
  have hml := H.rest.len
  rw [List.length_drop] at hml
  have hk4 : Keeps (One g) w3 (w3.setCell ⟨g, 8, none⟩ (.slice a' m' cap')) := (Keeps.refl _ w3).setOne 8 _
  rw [List.drop_drop, show 64 * q + 64 = 64 * (q + 1) by omega] at hr
  refine ⟨⟨q + 1, m', a', cap', ⟨hb4, hr.keep hk4 (fun k hk e => H.far k (hof k hk) e), fun k hk => H.far k (hof k hk), H.most, H.wf, by have := H.qle; omega⟩, (hkr.step hk3 (fun i hi => .inl (.inl hi))).step hk4 (fun i hi => .inl (.inl hi)), fun k hk => hfr k (hof k hk)⟩, ?_⟩
  rw [hrl, restLen_of (hb4.cell 8 (hashV_8 _ _ _ _ _ (blocks_len _ _)))]
  exact hm'

set_option maxRecDepth 20000 in
set_option maxHeartbeats 3200000 in
theorem write_core {w : World} {g cap Q M : Nat} {a : Option Addr} {l l' : List Int} {t : Int} (h : HashAt w g a cap Q M l t) (ht0 : 0 ≤ t) (ht1 : t ≤ 1000000) {b : Option Addr} {n capb : Nat} (hrow : Row .u8 w b n l') (hnil : b = none → capb = 0 ∧ n = 0) (hfar : ∀ k, blkOf b k → 0 < n → k ≠ g) (hmost : l.length + n ≤ 1000000) :
    Calls Tryd.prog 45 #[.pointer (some ⟨g, 0, none⟩), .slice b n capb] w (WriteAt g a cap (l ++ l') (t + n) w) := by
  have hn := hrow.llen
  have c8 := HashAt.c8 h
  have c9 := HashAt.c9 h
  have z9 := h.obj.frozen 9
  have hs1 : Keeps (One g) w (w.setCell ⟨g, 9, none⟩ (.int .u64 (t + n))) := (Keeps.refl _ w).setOne 9 _
  have ho1 := h.obj.set 9 (.int .u64 (t + n))
  rw [hashV_set9 _ _ _ _ _ _ (blocks_len _ _)] at ho1
  have hm1 : MidB (w.setCell ⟨g, 9, none⟩ (.int .u64 (t + n))) 5 a cap M (l.drop (64 * Q)) := h.rest.keep hs1 (fun k hk e => h.far k hk e)
  have hsrc := (hrow.keepF hs1 (fun h0 k hk e => hfar k hk h0 e)).src hnil (cap := capb)
  have hfr := h.far
  have hlt := h.obj.lt
  have hq := h.qle
  have hL : (l ++ l').length = l.length + n := by rw [List.length_append, hn]
  have hwf : ∀ x ∈ l ++ l', (Lit.int .u8 x).wf = true := fun x hx => (List.mem_append.1 hx).elim (h.wf x) (hrow.wf x)
  have hbl : blocks shaH0 l Q = blocks shaH0 (l ++ l') Q := (blocks_append shaH0 l l' _ hq).symm
  have hdr : l.drop (64 * Q) ++ l' = (l ++ l').drop (64 * Q) := (List.drop_append_of_le_length hq).symm
  have hr : M ≤ 1000000 := by have h1 := h.rest.len; rw [List.length_drop] at h1; have h2 := h.most; omega
  rw [hbl] at ho1
  clear h hrow hn hbl
  have HX := Lib.hid (And.intro hL (And.intro hwf (And.intro hdr (And.intro hq hfr))))
  clear hL hwf hdr hq hfr hfar
  generalize hR : l.drop (64 * Q) = R at *
  generalize hLL : l ++ l' = L at *
  have HR := Lib.hid (And.intro hR hLL)
  clear hR hLL
  go_enter Tryd.func45, Tryd.ntmps45
  go_wp2_with (at_builtin; go_must (refine wpl_appendM rfl _ _ 65 rfl 5 Tryd.underlying65 Tryd.info8s a cap M R rfl hm1 b n capb l' rfl hsrc (by omega) ?_))
  intro a1 cap1 w1 hm2 hk2 hf2 hz2
  have hob := ho1.keep hk2 (fun hi => HX.out.2.2.2.2 g hi rfl)
  have z8 := hob.frozen 8
  have x8 : w1.cell? ⟨g, 8, none⟩ = some (.slice a M cap) := hob.cell 8 (hashV_8 _ _ _ _ _ (blocks_len _ _))
  have hk3 : Keeps (One g) w1 (w1.setCell ⟨g, 8, none⟩ (.slice a1 (M + n) cap1)) := (Keeps.refl _ w1).setOne 8 _
  have hfar1 : ∀ k, midOf a1 cap1 k → k ≠ g := fun k hk e => by
    rcases hf2 k hk with h' | h'
    · exact HX.out.2.2.2.2 k h' e
    · omega
  have hG : HashGo w g a cap L (t + n) (w1.setCell ⟨g, 8, none⟩ (.slice a1 (M + n) cap1)) := by
    refine ⟨Q, M + n, a1, cap1, ⟨?_, ?_, hfar1, by have := HX.out.1; omega, HX.out.2.1, by have h1 := HX.out.1; have h2 := HX.out.2.2.2.1; omega⟩, ?_, hf2⟩
    · have := hob.set 8 (.slice a1 (M + n) cap1)
      rw [hashV_set8 _ _ _ _ _ _ _ _ (blocks_len _ _)] at this
      exact this
    · rw [← HX.out.2.2.1]
      exact hm2.keep hk3 (fun k hk e => hfar1 k hk e)
    · exact ((hs1.mono (fun i hi => .inl hi)).step hk2 (fun i hi => .inl (.inr hi))).step hk3 (fun i hi => .inl (.inl hi))
  have HG := Lib.hid hG
  have hXL := HX.out.1
  clear hG ho1 hm1 hm2 hk2 hf2 hz2 hs1 hsrc c8 c9 z9 hob hk3 hfar1 hr
  go_wp2_with fail
  generalize w1.setCell ⟨g, 8, none⟩ (.slice a1 (M + n) cap1) = w2 at *
  have HXL := Lib.hid hXL
  clear hXL x8 z8
  generalize t + (n : Int) = tt at *
  go_loopw [23] (fun _ wr => HashGo w g a cap L tt wr) (fun _ wr => restLen g wr)
  case atStart => exact HG.out
  case round =>
    obtain ⟨q, m, a2, cap2, h, hkr, hfr⟩ := hrel
    clear HG
    have c8 := h.c8
    have z8 := h.obj.frozen 8
    have hle := h.rest.le
    have hml := h.rest.len
    rw [List.length_drop] at hml
    have HM := Lib.hid hml
    have hrl := restLen_of c8
    have HRL := Lib.hid hrl
    clear hml hrl
    by_cases h64 : 64 ≤ m
    · obtain ⟨gb, off, cs, rfl, hbb, hll, hcc⟩ := h.rest.lies (by omega)
      have hrow := h.rest.head (fun x hx => h.wf x (List.mem_of_mem_drop hx)) 64 h64
      have hmix := mix_walk hrow (cap := cap2) (by omega) h.obj (blocks_len _ _) (blocks_isW _ _)
      rw [← blocks_succ] at hmix
      have HMIX := Lib.hid hmix
      have H := Lib.hid h
      have hI1 : (64 : Int) ≤ m := by omega
      have hI2 : (64 : Int) ≤ cap2 := by omega
      have hI3 : (m : Int) ≤ cap2 := by omega
      have h64c : 64 ≤ cap2 := by omega
      have hge : decide ((64 : Int) ≤ m) = true := by simpa using hI1
      clear hmix h hrow hbb hcc hll
      go_wp2_with fail
      refine HMIX.out.mono ?_
      rintro e w3 ⟨rfl, hb3, hk3⟩
      have c83 : w3.cell? ⟨g, 8, none⟩ = some (.slice (some ⟨gb, off, none⟩) m cap2) := hb3.cell 8 (hashV_8 _ _ _ _ _ (blocks_len _ _))
      have z83 := hb3.frozen 8
      have hr3 := H.out.rest.keep hk3 (fun k hk e => H.out.far k hk e)
      clear c8 z8 HMIX
      by_cases hce : cap2 = 64
      · have hm64 : m = 64 := by omega
        subst hce hm64
        go_wp2_with fail
        exact hash_step hkr H.out (by omega) hb3 hk3 (hr3.tail0 rfl) (fun k hk => by have := hk.1; omega) hfr (by omega) HRL.out
      · go_wp2_with fail
        exact hash_step hkr H.out (by omega) hb3 hk3 (by have := hr3.tail 64 h64 (by omega); rwa [Addr.add_lit] at this) (fun k hk => ⟨by omega, _, rfl, by have := hk.2; rw [blkOf_some] at this; exact this.symm⟩) hfr (by omega) HRL.out
    · have hlt64 : m < 64 := by omega
      have hge : decide ((64 : Int) ≤ m) = false := by simp; omega
      have hqf := h.qle
      have hfin : HashAt wr g a2 cap2 (L.length / 64) (L.length % 64) L tt := by
        have e1 : L.length / 64 = q := by have := HM.out; omega
        have e2 : L.length % 64 = m := by have := HM.out; omega
        rw [e1, e2]; exact h
      clear h
      go_wp2_with fail
      go_end0
      exact ⟨rfl, a2, cap2, hfin, hkr, hfr⟩

theorem write_walk {w : World} {g cap : Nat} {a : Option Addr} {l l' : List Int} (h : IsHash w g a cap l) {b : Option Addr} {n capb : Nat} (hrow : Row .u8 w b n l') (hnil : b = none → capb = 0 ∧ n = 0) (hfar : ∀ k, blkOf b k → 0 < n → k ≠ g) (hmost : l.length + n ≤ 1000000) :
    Calls Tryd.prog 45 #[.pointer (some ⟨g, 0, none⟩), .slice b n capb] w (WritePost g a cap (l ++ l') w) :=
  (write_core h (by omega) (by omega) hrow hnil hfar hmost).mono fun e w' ⟨h1, a', cap', h2, h3⟩ => ⟨h1, a', cap', (by
    have : (l.length : Int) + n = ((l ++ l').length : Int) := by rw [List.length_append, hrow.llen]; omega
    rw [this] at h2; exact h2), h3⟩
end Go.Proofs.YtmbdldnldcgdjaaDoor
