/-
  head.Read: the function that reads.
-/
import Derived.Test.YtdkfhfflhglmaaaDoorHeadBytes
namespace Go.Proofs.YtdkfhfflhglmaaaDoor
set_option linter.unusedSimpArgs false
set_option linter.unusedVariables false
open Go.RowKit

def headQ (n : Nat) : Nat := if n < 32 then 0 else if n < 36 then 32 else 36
def HeadR (gh : Nat) (l : List Int) (o : Out) (w : World) : Prop :=
  if 40 ≤ l.length then o = .done 40 ∧ Blk w gh (headV (l.take 32) (num4 l 32) (num4 l 36)) 76 else o = .fell (headQ l.length) 2
theorem splice_head (k k' : List Int) (pn n : Int) (hk : k.length = 32) (hk' : k'.length = 32) : splice (headV k pn n) 0 (byteV k') = headV k' pn n := by
  simp [splice, headV, byteV, hk, hk']
theorem headV_set32 (k : List Int) (pn n x : Int) (hk : k.length = 32) : (headV k pn n).set 32 (.int .u32 x) = headV k x n := by
  simp [headV, List.set_append, hk]
theorem headV_set33 (k : List Int) (pn n x : Int) (hk : k.length = 32) : (headV k pn n).set 33 (.int .u32 x) = headV k pn x := by
  simp [headV, List.set_append, hk]
theorem Tryd.undKey : Tryd.prog.underlying 74 = some (.array 32 5) := Tryd.underlying74
theorem Tryd.infoKey : (Tryd.prog.info? 74).map (·.size) = some 32 := by kernel_rfl

set_option maxRecDepth 20000 in
set_option maxHeartbeats 3200000 in
theorem headIn_walk {w0 w : World} {p : Nat → Addr} (hE : Errs w0 p) (h0 : Keeps Nil w0 w) {gh gr cr : Nat} {ar : Option Addr} {l k : List Int} (hl2 : l.length ≤ 100000) (hk32 : k.length = 32)
    (hb : Blk w gh (headV k 0 0) 76) (hr : IsRd 102 w gr ar cr l 0 []) (hgr : w0.heap.size ≤ gr) (hgh : w0.heap.size ≤ gh) (hnh : ¬ wrOf gr ar gh) :
    Calls Tryd.prog 92 #[.pointer (some ⟨gr, 0, none⟩), .pointer (some ⟨gh, 0, none⟩)] w (ReadIn (One gh) p l gr (HeadR gh l) w) := by
  have hgr1 : gh ≠ gr := fun e => hnh (.inl e)
  have hE1 := hE.keep h0
  by_cases h32 : l.length < 32
  · have HR := Lib.hid (rdRaw_short hE1 hr 32 (by omega) (by omega))
    clear hr hE hE1 h0
    go_enter Tryd.func92, Tryd.ntmps92
    go_wp2_with fail
    refine HR.out.mono ?_
    rintro e w2 ⟨g, rfl, hbf, hge, hk⟩
    go_wp2
    refine ⟨rfl, .inr ⟨_, 2, g, by decide, rfl, hbf, hge, ?_⟩, hk.nil⟩
    unfold HeadR headQ
    rw [if_neg (by omega), if_pos h32]
  have HR := Lib.hid (rdRaw_ok hr 32 (by omega) hl2)
  have hcl := cutL_length l 0 32 (by omega)
  have hct : cutL l 0 32 = l.take 32 := by simp [cutL]
  rw [hct] at hcl HR
  clear hct
  go_enter Tryd.func92, Tryd.ntmps92
  go_wp2_with fail
  refine HR.out.mono ?_
  rintro e w2 ⟨a2, c2, rfl, ho2, hf2, h2, hk2⟩
  rw [hcl] at ho2 ⊢
  obtain ⟨b2, rfl, hb2, hr2⟩ := ho2.some (by omega)
  have hh2 := hb.keep hk2 hgr1
  have hs2 : w2.rangeAt b2 0 (byteV (l.take 32)) := hr2
  have hat : ∀ w, (Instr.arrayAt 74 (.slice (some ⟨b2, 0, none⟩) 32 c2)).run Tryd.prog w = .ok (.pointer (some ⟨b2, 0, none⟩)) w := fun w => by simp [Instr.arrayAt, run_underlying Tryd.undKey]
  go_wp2_with (first | (refine wpl_load_at rfl 74 _ rfl b2 0 rfl (byteV (l.take 32)) hs2 _ Tryd.undKey rfl (by rw [show (byteV (l.take 32)).length = 32 by simp [byteV]; omega]; exact Tryd.infoKey) ?_) | (refine wpl_store_at rfl 74 _ _ rfl gh 0 rfl (byteV (l.take 32)) rfl hh2 (by simp [byteV, headV]; omega) (by rw [show (byteV (l.take 32)).length = 32 by simp [byteV]; omega]; exact Tryd.infoKey) (fun v hv => by obtain ⟨x, _, rfl⟩ := List.mem_map.1 hv; rfl) ?_))
  intro w3 hb3 hk3 hs3
  rw [splice_head k (l.take 32) 0 0 hk32 hcl] at hb3
  have hkA : Keeps (Plus (One gh) gr) w w3 := (hk2.mono (fun i hi => .inr hi)).step hk3 (fun i hi => .inl (.inl hi))
  have hk03 : Keeps Nil w0 w3 := h0.step hkA (fun i hi => by
    rcases hi with hi | hi
    · exact .inr (by rw [show i = gh from hi]; exact hgh)
    · exact .inr (by rw [hi]; exact hgr))
  have h3 := h2.keep hk3 (fun k hk e => hnh (by rw [← show k = gh from e]; exact hk))
  have hE3 := hE.keep hk03
  rw [show 0 + 32 = 32 from rfl] at h3
  clear HR hr2 hs2 hat ho2 hf2 hb2 hh2 h2 hk2 hk3 hE1 hr
  generalize hkk : l.take 32 = kk at *
  have HKK := Lib.hid hkk
  clear hkk
  go_wp2_with fail
  by_cases h36 : l.length < 36
  · refine (rdU32_short hE3 h3 (by omega)).mono ?_
    rintro e w4 ⟨g, rfl, hbf, hge, hk4⟩
    go_wp2
    refine ⟨rfl, .inr ⟨_, 2, g, by decide, rfl, hbf, Nat.le_trans hkA.size hge, ?_⟩, hkA.step hk4 (fun _ h => h.elim)⟩
    unfold HeadR headQ
    rw [if_neg (by omega), if_neg h32, if_pos h36]
  refine (rdU32_ok h3 (by omega)).mono ?_
  rintro e w4 ⟨rfl, h4, hk4⟩
  have hb4 := hb3.keep hk4 hgr1
  have c4 := hb4.cell 32 (headV_pn kk 0 0 hcl)
  have z4 := hb4.frozen 32
  have hs4 : Keeps (One gh) w4 (w4.setCell ⟨gh, 32, none⟩ (.int .u32 (num4 l 32))) := (Keeps.refl _ _).setOne 32 _
  have hb5 := hb4.set 32 (.int .u32 (num4 l 32))
  rw [headV_set32 kk 0 0 _ hcl] at hb5
  have h5 := h4.keep hs4 (fun k hk e => hnh (by rw [← show k = gh from e]; exact hk))
  have hkB : Keeps (Plus (One gh) gr) w (w4.setCell ⟨gh, 32, none⟩ (.int .u32 (num4 l 32))) := (hkA.step hk4 (fun i hi => .inl (.inr hi))).step hs4 (fun i hi => .inl (.inl hi))
  have hk05 : Keeps Nil w0 (w4.setCell ⟨gh, 32, none⟩ (.int .u32 (num4 l 32))) := h0.step hkB (fun i hi => by
    rcases hi with hi | hi
    · exact .inr (by rw [show i = gh from hi]; exact hgh)
    · exact .inr (by rw [hi]; exact hgr))
  have hE5 := hE.keep hk05
  rw [show 32 + 4 = 36 from rfl] at h5
  clear h4 hk4 hb4 hs4 hkA hk03 hE3 h3 hb3
  go_wp2_with fail
  by_cases h40 : l.length < 40
  · refine (rdU32_short hE5 h5 (by omega)).mono ?_
    rintro e w6 ⟨g, rfl, hbf, hge, hk6⟩
    go_wp2
    refine ⟨rfl, .inr ⟨_, 2, g, by decide, rfl, hbf, Nat.le_trans hkB.size hge, ?_⟩, hkB.step hk6 (fun _ h => h.elim)⟩
    unfold HeadR headQ
    rw [if_neg (by omega), if_neg h32, if_neg h36]
  refine (rdU32_ok h5 (by omega)).mono ?_
  rintro e w6 ⟨rfl, h6, hk6⟩
  have hb6 := hb5.keep hk6 hgr1
  have c6 := hb6.cell 33 (headV_n kk (num4 l 32) 0 hcl)
  have z6 := hb6.frozen 33
  have hs6 : Keeps (One gh) w6 (w6.setCell ⟨gh, 33, none⟩ (.int .u32 (num4 l 36))) := (Keeps.refl _ _).setOne 33 _
  have hb7 := hb6.set 33 (.int .u32 (num4 l 36))
  rw [headV_set33 kk _ 0 _ hcl] at hb7
  have h7 := h6.keep hs6 (fun k hk e => hnh (by rw [← show k = gh from e]; exact hk))
  have hkC : Keeps (Plus (One gh) gr) w (w6.setCell ⟨gh, 33, none⟩ (.int .u32 (num4 l 36))) := (hkB.step hk6 (fun i hi => .inl (.inr hi))).step hs6 (fun i hi => .inl (.inl hi))
  clear h6 hk6 hb6 hs6 hkB hk05 hE5 h5 hb5 c4 z4
  go_wp2_with fail
  go_end0
  refine ⟨.inl ⟨40, _, _, rfl, h7, ?_⟩, hkC⟩
  unfold HeadR
  rw [if_pos (by omega)]
  exact ⟨rfl, HKK.out ▸ hb7⟩
end Go.Proofs.YtdkfhfflhglmaaaDoor
