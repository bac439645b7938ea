/-
  The law CodeReads: the function that reads, the given reader beside the document's.
-/
import Derived.Test.YtdkfhfflhglmaaaDoorCodeRefs
import Derived.Test.YtdkfhfflhglmaaaDoorInts
import Derived.Test.YtdkfhfflhglmaaaDoorVars
namespace Go.Proofs.YtdkfhfflhglmaaaDoor
open Go.RowKit

theorem sameL_refl (l : List Int) : sameL l l = true := by simp [sameL]
def S3 (a b c : Nat) : Nat → Prop := fun k => k = a ∨ k = b ∨ k = c
/-- How it ends: all was read, or both tell the same. -/
def ReadsR (gx gg gn : Nat) (a0 : Option Addr) (cap0 : Nat) (l : List Int) (len : Nat) (o : Out) (w : World) : Prop :=
  (∃ at_ : Nat, o = .done at_ ∧ IsRf w gx a0 cap0 l at_ 0 false 0 ∧ Has w [(gn, [.int .i64 len], 3), (gg, [.bool true], 4)]) ∨
  (∃ (q k i atx : Nat), k < 19 ∧ o = .fell q k ∧ IsRf w gx a0 cap0 l atx (101 + k) true q ∧ i < len ∧ Has w [(gn, [.int .i64 i], 3), (gg, [.bool true], 4)])

/-- Both readers and what is counted, in the middle. -/
structure Mid (w0 wb w : World) (gr gx gg gn : Nat) (ar : Option Addr) (cr : Nat) (a0 : Option Addr) (cap0 : Nat) (l : List Int) (at_ i : Nat) : Prop where
  rd : IsRd 102 w gr ar cr l at_ []
  rf : IsRf w gx a0 cap0 l at_ 0 false 0
  has : Has w [(gn, [.int .i64 i], 3), (gg, [.bool true], 4)]
  keep : Keeps (Plus (S3 gx gg gn) gr) wb w
  old : Keeps Nil w0 w
/-- What stands apart. -/
structure Apart (w0 : World) (base gr gx gg gn : Nat) (ar : Option Addr) (a0 : Option Addr) (n : Nat) : Prop where
  hold : ∀ k, wrOf gr ar k → base ≤ k
  lt : gx < base ∧ gg < base ∧ gn < base
  ge : w0.heap.size ≤ gx ∧ w0.heap.size ≤ gg ∧ w0.heap.size ≤ gn ∧ w0.heap.size ≤ base
  ne : gx ≠ gg ∧ gx ≠ gn ∧ gg ≠ gn
  row : 0 < n → ∀ b, blkOf a0 b → b < w0.heap.size
section
variable {w0 wb w w' : World} {base gr gx gg gn cr cap0 at_ i : Nat} {ar a0 : Option Addr} {l : List Int}
theorem Apart.rdr (h : Apart w0 base gr gx gg gn ar a0 l.length) : base ≤ gr := h.hold gr (.inl rfl)
theorem Mid.keep0 (h : Mid w0 wb w gr gx gg gn ar cr a0 cap0 l at_ i) (hk : Keeps Nil w w') : Mid w0 wb w' gr gx gg gn ar cr a0 cap0 l at_ i :=
  ⟨h.rd.keep0 hk, h.rf.keep0 hk, h.has.keep0 hk, h.keep.step hk (fun _ h => h.elim), h.old.trans hk⟩
/-- The document's reader has read. -/
theorem Mid.rfTo (h : Mid w0 wb w gr gx gg gn ar cr a0 cap0 l at_ i) (ha : Apart w0 base gr gx gg gn ar a0 l.length) (hk : Keeps (One gx) w w') :
    IsRd 102 w' gr ar cr l at_ [] ∧ Has w' [(gn, [.int .i64 i], 3), (gg, [.bool true], 4)] ∧ Keeps (Plus (S3 gx gg gn) gr) wb w' ∧ Keeps Nil w0 w' := by
  obtain ⟨l1, l2, l3⟩ := ha.lt
  obtain ⟨g1, g2, g3, g4⟩ := ha.ge
  obtain ⟨n1, n2, n3⟩ := ha.ne
  refine ⟨h.rd.keep hk (fun k hk e => by have := ha.hold k hk; have : k = gx := e; omega), h.has.keep hk (fun x hx e => ?_), h.keep.step hk (fun k hk => .inl (.inl (.inl hk))), h.old.step hk (fun k hk => .inr (by rw [show k = gx from hk]; exact g1))⟩
  simp only [List.mem_cons, List.not_mem_nil, or_false] at hx
  rcases hx with rfl | rfl
  · exact n2 e.symm
  · exact n1 e.symm
/-- The given reader has read. -/
theorem Mid.rdTo {at2 : Nat} {cc q : Int} {pp : Bool} (hr : IsRf w gx a0 cap0 l at2 cc pp q) (hh : Has w [(gn, [.int .i64 i], 3), (gg, [.bool true], 4)]) (hb : Keeps (Plus (S3 gx gg gn) gr) wb w) (ho : Keeps Nil w0 w) (ha : Apart w0 base gr gx gg gn ar a0 l.length) (hk : Keeps (One gr) w w') :
    IsRf w' gx a0 cap0 l at2 cc pp q ∧ Has w' [(gn, [.int .i64 i], 3), (gg, [.bool true], 4)] ∧ Keeps (Plus (S3 gx gg gn) gr) wb w' ∧ Keeps Nil w0 w' := by
  have hgr := ha.rdr
  obtain ⟨l1, l2, l3⟩ := ha.lt
  obtain ⟨g1, g2, g3, g4⟩ := ha.ge
  refine ⟨hr.keep hk (fun e => by have : gx = gr := e; omega) (fun h0 b hb e => by have := ha.row h0 b hb; have : b = gr := e; omega), hh.keep hk (fun x hx e => ?_), hb.step hk (fun k hk => .inl (.inr hk)), ho.step hk (fun k hk => .inr (by rw [show k = gr from hk]; omega))⟩
  simp only [List.mem_cons, List.not_mem_nil, or_false] at hx
  rcases hx with rfl | rfl
  · have : gn = gr := e; omega
  · have : gg = gr := e; omega
/-- One more is counted. -/
theorem Mid.count (h : Mid w0 wb w gr gx gg gn ar cr a0 cap0 l at_ i) (ha : Apart w0 base gr gx gg gn ar a0 l.length) : Mid w0 wb (w.setCell ⟨gn, 0, none⟩ (.int .i64 (i + 1 : Nat))) gr gx gg gn ar cr a0 cap0 l at_ (i + 1) := by
  obtain ⟨l1, l2, l3⟩ := ha.lt
  obtain ⟨g1, g2, g3, g4⟩ := ha.ge
  obtain ⟨n1, n2, n3⟩ := ha.ne
  have hk : Keeps (One gn) w (w.setCell ⟨gn, 0, none⟩ (.int .i64 (i + 1 : Nat))) := (Keeps.refl _ _).setOne 0 _
  exact ⟨h.rd.keep hk (fun k hk e => by have := ha.hold k hk; have : k = gn := e; omega), h.rf.keep hk (fun e => n2 e) (fun h0 b hb e => by have := ha.row h0 b hb; have : b = gn := e; omega), h.has.set 0 rfl 0 _, h.keep.step hk (fun k hk => .inl (.inl (.inr (.inr hk)))), h.old.step hk (fun k hk => .inr (by rw [show k = gn from hk]; exact g3))⟩
end

set_option maxRecDepth 100000 in
set_option maxHeartbeats 8000000 in
theorem codeReadsIn_walk {w0 w : World} {p : Nat → Addr} (hE : Errs w0 p) {base gr gx gg gn gp gl cr cap0 len capD : Nat} {ar a0 aD : Option Addr} {l : List Int} {z : Nat → Nat → Int} (hz : IsInts 2 w0 aD len z) (hlen : len ≤ 30) (hl2 : l.length ≤ 100)
    (ha : Apart w0 base gr gx gg gn ar a0 l.length) (hpn : ¬ Plus (S3 gx gg gn) gr gp) (hln : ¬ Plus (S3 gx gg gn) gr gl) (hpx0 : Blk w gp [.pointer (some ⟨gx, 0, none⟩)] 68) (hlx0 : Blk w gl [.slice aD len capD] 35)
    (hM0 : Mid w0 w w gr gx gg gn ar cr a0 cap0 l 0 0) :
    Calls Tryd.prog 50 #[.pointer (some ⟨gr, 0, none⟩), .pointer (some ⟨gl, 0, none⟩), .pointer (some ⟨gg, 0, none⟩), .pointer (some ⟨gp, 0, none⟩), .pointer (some ⟨gn, 0, none⟩)] w (ReadIn (S3 gx gg gn) p l gr (ReadsR gx gg gn a0 cap0 l len) w) := by
  have hpx : gp ≠ gx := fun e => hpn (.inl (.inl e))
  have hgl19 : ∀ k, k < 19 → gnums.getD k 0 ≠ gr := fun k hk => by have h1 : gnums.getD k 0 < w0.heap.size := World.block_lt_of_cell? w0 _ (hE.at_ k hk); have h2 := ha.rdr; have h3 := ha.ge; omega
  go_enter Tryd.func50, Tryd.ntmps50
  go_wp2_with fail
  go_loopw [6] (fun v wr => ∃ i at_ : Nat, i ≤ len ∧ v = .int .i64 i ∧ Hid (Mid w0 w wr gr gx gg gn ar cr a0 cap0 l at_ i)) (fun v _ => len - (intOf v).toNat)
  case atStart => exact ⟨0, 0, Nat.zero_le _, rfl, hM0⟩
  case round =>
    obtain ⟨i, at_, hi, rfl, hM⟩ := hrel
    have hM : Mid w0 w wr gr gx gg gn ar cr a0 cap0 l at_ i := hM
    clear hM0
    have cl : wr.cell? ⟨gl, 0, none⟩ = some (.slice aD len capD) := (hlx0.keep hM.keep hln).cell 0 rfl
    by_cases hlt : i < len
    · obtain ⟨b0, off0, rfl, hb0, hc0⟩ := hz.cell (by omega)
      have ck0 : w0.cell? ⟨b0, off0 + i * 2, none⟩ = some (.int .i64 (z i 0)) := hc0 i 0 hlt (by omega)
      have cn0 : w0.cell? ⟨b0, off0 + i * 2 + 1, none⟩ = some (.int .i64 (z i 1)) := hc0 i 1 hlt (by omega)
      have hwk := hz.wf i 0 hlt (by omega)
      have hwn := hz.wf i 1 hlt (by omega)
      generalize z i 0 = kd at *
      generalize z i 1 = nn at *
      clear hc0 hz
      have ck := hM.old.cell ck0 (fun h => h)
      have cn := hM.old.cell cn0 (fun h => h)
      have cp : wr.cell? ⟨gp, 0, none⟩ = some (.pointer (some ⟨gx, 0, none⟩)) := (hpx0.keep hM.keep hpn).cell 0 rfl
      have hpos := hM.rd.pos
      go_wp2_with fail
      refine (number_walk kd 5 _ hwk.1 hwk.2 (by omega) (by omega)).mono ?_
      rintro e wx ⟨rfl, rfl⟩
      obtain ⟨q, hq, hqm⟩ : ∃ q : Nat, q < 5 ∧ kd % 5 = q := ⟨(kd % 5).toNat, by omega, by omega⟩
      rw [hqm]
      clear ck hwk hqm ck0
      match q, hq with
      | 0, _ =>
        go_wp2_with fail
        by_cases hav : at_ + 1 ≤ l.length
        · refine (rfU8_ok hM.rf hav (by omega)).mono ?_
          rintro e wX ⟨rfl, hrfX, hkX⟩
          obtain ⟨hrdX, hhX, hbX, hoX⟩ := hM.rfTo ha hkX
          have cpX := hkX.cell cp (fun e => hpx (by rw [show gp = gx from e]))
          have EX := Lib.hid (hE.keep hoX)
          go_wp2_with fail
          refine (rdU8_ok hrdX hav).mono ?_
          rintro e wZ ⟨rfl, hrdZ, hkZ⟩
          obtain ⟨hrfZ, hhZ, hbZ, hoZ⟩ := Mid.rdTo hrfX hhX hbX hoX ha hkZ
          have hM2 : Mid w0 w wZ gr gx gg gn ar cr a0 cap0 l (at_ + 1) i := ⟨hrdZ, hrfZ, hhZ, hbZ, hoZ⟩
          have cpZ : wZ.cell? ⟨gp, 0, none⟩ = some (.pointer (some ⟨gx, 0, none⟩)) := (hpx0.keep hbZ hpn).cell 0 rfl
          have cxZ := hrfZ.obj.cell 1 (v := .int .i64 ((at_ + 1) : Nat)) rfl
          have HM2 := Lib.hid hM2
          clear hM2 hrfX hhX hbX hoX hrdX hkX cpX EX hrdZ hrfZ hhZ hbZ hoZ hM cp
          go_wp2_with fail
          generalize (at_ + 1) = at2 at *
          go_region_held3 (fun w' => w'.cell? ⟨gp, 0, none⟩ = some (.pointer (some ⟨gx, 0, none⟩)) ∧ w'.cell? ⟨gx, 1, none⟩ = some (.int .i64 at2)) (first | go_keep | exact ⟨hkB.cell cpZ (fun h => h), hkB.cell cxZ (fun h => h)⟩ | exact ⟨cpZ, cxZ⟩) (first | (go_at_call 56; refine (fine_walk (HM2.out.rf.keep0 (Keeps.refl Nil _).drew)).mono ?_; rintro e7 w7 ⟨rfl, hk7⟩; have hkB := (Keeps.refl Nil wZ).drew.trans hk7) | (go_at_call 57; refine (rdAt_walk (HM2.out.rd.keep0 hkB)).mono ?_; rintro e8 w8 ⟨rfl, rfl⟩))
          have hM3 := HM2.out.keep0 hkB
          have cn := (hM3.has.at 0 rfl).cell 0 (v := .int .i64 i) rfl
          have zn := (hM3.has.at 0 rfl).frozen 0
          have hM4 := hM3.count ha
          have HM4 := Lib.hid hM4
          clear cpZ cxZ hM3 hM4 HM2 hkB hk7
          go_wp2_with fail
          have hcast : ((i : Int) + 1) = ((i + 1 : Nat) : Int) := by omega
          rw [hcast]
          go_roundw
          case rel => first | exact ⟨i + 1, at2, by omega, rfl, HM4.out⟩ | ((repeat apply Exists.intro); exact ⟨⟨i + 1, at2, by omega, rfl, HM4.out⟩, rfl⟩)
          case measure => simp [intOf]; omega
        · refine (rfU8_short hM.rf (by omega)).mono ?_
          rintro e wX ⟨rfl, hrfX, hkX⟩
          obtain ⟨hrdX, hhX, hbX, hoX⟩ := hM.rfTo ha hkX
          have cpX := hkX.cell cp (fun e => hpx (by rw [show gp = gx from e]))
          have EX := Lib.hid (hE.keep hoX)
          go_wp2_with fail
          refine (rdU8_short EX.out hrdX (by omega)).mono ?_
          rintro e wZ ⟨g, rfl, hbf, hge, hkZ⟩
          go_wp2
          obtain ⟨hrfZ, hhZ, hbZ, hoZ⟩ := Mid.rdTo hrfX hhX hbX hoX ha hkZ.nil
          refine ⟨rfl, .inr ⟨_, 2, g, by decide, rfl, hbf, Nat.le_trans hbX.size hge, .inr ⟨at_, 2, i, _, by decide, rfl, hrfZ, hlt, hhZ⟩⟩, hbZ⟩
      | 1, _ =>
        go_wp2_with fail
        by_cases hav : at_ + 4 ≤ l.length
        · refine (rfU32_ok hM.rf hav (by omega)).mono ?_
          rintro e wX ⟨rfl, hrfX, hkX⟩
          obtain ⟨hrdX, hhX, hbX, hoX⟩ := hM.rfTo ha hkX
          have cpX := hkX.cell cp (fun e => hpx (by rw [show gp = gx from e]))
          have EX := Lib.hid (hE.keep hoX)
          go_wp2_with fail
          refine (rdU32_ok hrdX hav).mono ?_
          rintro e wZ ⟨rfl, hrdZ, hkZ⟩
          obtain ⟨hrfZ, hhZ, hbZ, hoZ⟩ := Mid.rdTo hrfX hhX hbX hoX ha hkZ
          have hM2 : Mid w0 w wZ gr gx gg gn ar cr a0 cap0 l (at_ + 4) i := ⟨hrdZ, hrfZ, hhZ, hbZ, hoZ⟩
          have cpZ : wZ.cell? ⟨gp, 0, none⟩ = some (.pointer (some ⟨gx, 0, none⟩)) := (hpx0.keep hbZ hpn).cell 0 rfl
          have cxZ := hrfZ.obj.cell 1 (v := .int .i64 ((at_ + 4) : Nat)) rfl
          have HM2 := Lib.hid hM2
          clear hM2 hrfX hhX hbX hoX hrdX hkX cpX EX hrdZ hrfZ hhZ hbZ hoZ hM cp
          go_wp2_with fail
          generalize (at_ + 4) = at2 at *
          go_region_held3 (fun w' => w'.cell? ⟨gp, 0, none⟩ = some (.pointer (some ⟨gx, 0, none⟩)) ∧ w'.cell? ⟨gx, 1, none⟩ = some (.int .i64 at2)) (first | go_keep | exact ⟨hkB.cell cpZ (fun h => h), hkB.cell cxZ (fun h => h)⟩ | exact ⟨cpZ, cxZ⟩) (first | (go_at_call 56; refine (fine_walk (HM2.out.rf.keep0 (Keeps.refl Nil _).drew)).mono ?_; rintro e7 w7 ⟨rfl, hk7⟩; have hkB := (Keeps.refl Nil wZ).drew.trans hk7) | (go_at_call 57; refine (rdAt_walk (HM2.out.rd.keep0 hkB)).mono ?_; rintro e8 w8 ⟨rfl, rfl⟩))
          have hM3 := HM2.out.keep0 hkB
          have cn := (hM3.has.at 0 rfl).cell 0 (v := .int .i64 i) rfl
          have zn := (hM3.has.at 0 rfl).frozen 0
          have hM4 := hM3.count ha
          have HM4 := Lib.hid hM4
          clear cpZ cxZ hM3 hM4 HM2 hkB hk7
          go_wp2_with fail
          have hcast : ((i : Int) + 1) = ((i + 1 : Nat) : Int) := by omega
          rw [hcast]
          go_roundw
          case rel => first | exact ⟨i + 1, at2, by omega, rfl, HM4.out⟩ | ((repeat apply Exists.intro); exact ⟨⟨i + 1, at2, by omega, rfl, HM4.out⟩, rfl⟩)
          case measure => simp [intOf]; omega
        · refine (rfU32_short hM.rf (by omega)).mono ?_
          rintro e wX ⟨rfl, hrfX, hkX⟩
          obtain ⟨hrdX, hhX, hbX, hoX⟩ := hM.rfTo ha hkX
          have cpX := hkX.cell cp (fun e => hpx (by rw [show gp = gx from e]))
          have EX := Lib.hid (hE.keep hoX)
          go_wp2_with fail
          refine (rdU32_short EX.out hrdX (by omega)).mono ?_
          rintro e wZ ⟨g, rfl, hbf, hge, hkZ⟩
          go_wp2
          obtain ⟨hrfZ, hhZ, hbZ, hoZ⟩ := Mid.rdTo hrfX hhX hbX hoX ha hkZ.nil
          refine ⟨rfl, .inr ⟨_, 2, g, by decide, rfl, hbf, Nat.le_trans hbX.size hge, .inr ⟨at_, 2, i, _, by decide, rfl, hrfZ, hlt, hhZ⟩⟩, hbZ⟩
      | 2, _ =>
        have hMd := hM.keep0 (Keeps.refl Nil wr).drew
        have HMd := Lib.hid hMd
        have hlx : gl ≠ gx := fun e => hln (.inl (.inl e))
        have hbx : b0 ≠ gx := by have := ha.ge; omega
        have cpd : wr.drew.cell? ⟨gp, 0, none⟩ = some (.pointer (some ⟨gx, 0, none⟩)) := (Keeps.refl Nil wr).drew.cell cp (fun h => h)
        have cld : wr.drew.cell? ⟨gl, 0, none⟩ = some (.slice (some ⟨b0, off0, none⟩) len capD) := (Keeps.refl Nil wr).drew.cell cl (fun h => h)
        have cnd : wr.drew.cell? ⟨b0, off0 + i * 2 + 1, none⟩ = some (.int .i64 nn) := (Keeps.refl Nil wr).drew.cell cn (fun h => h)
        by_cases hneg : nn < 0
        · have HNeg := Lib.hid hneg
          clear hneg
          go_wp2_with fail
          go_region_held3 (fun w' => w'.cell? ⟨gp, 0, none⟩ = some (.pointer (some ⟨gx, 0, none⟩)) ∧ w'.cell? ⟨gl, 0, none⟩ = some (.slice (some ⟨b0, off0, none⟩) len capD) ∧ w'.cell? ⟨b0, off0 + i * 2 + 1, none⟩ = some (.int .i64 nn)) (first | go_keep | exact ⟨hkX.cell cpd (fun e => hpx e), hkX.cell cld (fun e => hlx e), hkX.cell cnd (fun e => hbx e)⟩ | exact ⟨cp, cl, cn⟩) (first | (go_at_call 53; refine (rfRaw_neg HMd.out.rf nn HNeg.out).mono ?_; rintro e2 wX ⟨rfl, hrfX, hkX⟩))
          obtain ⟨hrdX, hhX, hbX, hoX⟩ := HMd.out.rfTo ha hkX
          have cpX := hkX.cell cpd (fun e => hpx e)
          have clX := hkX.cell cld (fun e => hlx e)
          have cnX := hkX.cell cnd (fun e => hbx e)
          have EX := Lib.hid (hE.keep hoX)
          clear cpd cld cnd cl cn
          go_wp2_with fail
          refine (rdRaw_neg EX.out hrdX nn HNeg.out).mono ?_
          rintro e wZ ⟨g, rfl, hbf, hge, hkZ⟩
          go_wp2
          obtain ⟨hrfZ, hhZ, hbZ, hoZ⟩ := Mid.rdTo hrfX hhX hbX hoX ha hkZ.nil
          refine ⟨rfl, .inr ⟨_, 1, g, by decide, rfl, hbf, Nat.le_trans hbX.size hge, .inr ⟨at_, 1, i, _, by decide, rfl, hrfZ, hlt, hhZ⟩⟩, hbZ⟩
        · obtain ⟨n, rfl⟩ := Int.eq_ofNat_of_zero_le (show 0 ≤ nn by omega)
          have hn63 : n ≤ 9223372036854775807 := by omega
          by_cases hav : at_ + n ≤ l.length
          · have hcl := cutL_length l at_ n hav
            have HCL := Lib.hid hcl
            have HW := Lib.hid (cutL_wf hMd.rd.row.wf at_ n)
            have HAv := Lib.hid hav
            clear hcl hav
            go_wp2_with fail
            go_region_held3 (fun w' => w'.cell? ⟨gp, 0, none⟩ = some (.pointer (some ⟨gx, 0, none⟩)) ∧ w'.cell? ⟨gl, 0, none⟩ = some (.slice (some ⟨b0, off0, none⟩) len capD) ∧ w'.cell? ⟨b0, off0 + i * 2 + 1, none⟩ = some (.int .i64 (n : Int))) (first | go_keep | exact ⟨hkX.cell cpd (fun e => hpx e), hkX.cell cld (fun e => hlx e), hkX.cell cnd (fun e => hbx e)⟩ | exact ⟨cp, cl, cn⟩) (first | (go_at_call 53; refine (rfRaw_ok HMd.out.rf n HAv.out (by omega)).mono ?_; rintro e2 wX ⟨aX, cX, rfl, hoX', hfX', hrfX, hkX⟩))
            obtain ⟨hrdX, hhX, hbX, hoX⟩ := HMd.out.rfTo ha hkX
            have cpX := hkX.cell cpd (fun e => hpx e)
            have clX := hkX.cell cld (fun e => hlx e)
            have cnX := hkX.cell cnd (fun e => hbx e)
            have EX := Lib.hid (hE.keep hoX)
            clear cpd cld cnd cl cn
            go_wp2_with fail
            refine (rdRaw_ok hrdX n HAv.out (by omega)).mono ?_
            rintro e wZ ⟨aZ, cZ, rfl, hoZ', hfZ', hrdZ, hkZ⟩
            have hgx1 := hrfX.obj.lt
            have hgr1 := hrdX.obj.lt
            have hX2 := hoX'.keep hkZ (fun k hk e => by have h7 := hfX' k hk; have h8 := HMd.out.rd.obj.lt; have h9 : k = gr := e; omega)
            obtain ⟨hrfZ, hhZ, hbZ, hoZ⟩ := Mid.rdTo hrfX hhX hbX hoX ha hkZ
            have HRA := Lib.hid (hoZ'.row HW.out)
            have HRB := Lib.hid (hX2.row HW.out)
            clear hoX' hX2 hoZ' hfX' hfZ' clX cnX
            generalize (cutL l at_ n).length = cl2 at *
            go_wp2_with fail
            refine (sameBytes_walk HRA.out HRB.out).mono ?_
            rintro e9 wY ⟨rfl, hd9⟩
            rw [sameL_refl]
            have hkY := hd9.keeps Nil
            have hrdY := hrdZ.keep0 hkY
            have hrfY := hrfZ.keep0 hkY
            have hhY := hhZ.keep0 hkY
            have hbY := hbZ.step hkY (fun _ h => h.elim)
            have hoY := hoZ.trans hkY
            clear hrdZ hrfZ hhZ hbZ hoZ hkZ
            have hrdZ := hrdY
            have hrfZ := hrfY
            have hhZ := hhY
            have hbZ := hbY
            have hoZ := hoY
            clear hrdY hrfY hhY hbY hoY hkY hd9 HRA HRB
            have hM2 : Mid w0 w wY gr gx gg gn ar cr a0 cap0 l (at_ + n) i := ⟨hrdZ, hrfZ, hhZ, hbZ, hoZ⟩
            have cpZ : wY.cell? ⟨gp, 0, none⟩ = some (.pointer (some ⟨gx, 0, none⟩)) := (hpx0.keep hbZ hpn).cell 0 rfl
            have cxZ := hrfZ.obj.cell 1 (v := .int .i64 ((at_ + n) : Nat)) rfl
            have HM2 := Lib.hid hM2
            clear hM2 hrfX hhX hbX hoX hrdX hkX cpX EX hrdZ hrfZ hhZ hbZ hoZ hM cp
            go_wp2_with fail
            generalize (at_ + n) = at2 at *
            go_region_held3 (fun w' => w'.cell? ⟨gp, 0, none⟩ = some (.pointer (some ⟨gx, 0, none⟩)) ∧ w'.cell? ⟨gx, 1, none⟩ = some (.int .i64 at2)) (first | go_keep | exact ⟨hkB.cell cpZ (fun h => h), hkB.cell cxZ (fun h => h)⟩ | exact ⟨cpZ, cxZ⟩) (first | (go_at_call 56; refine (fine_walk (HM2.out.rf.keep0 (Keeps.refl Nil _).drew)).mono ?_; rintro e7 w7 ⟨rfl, hk7⟩; have hkB := (Keeps.refl Nil wY).drew.trans hk7) | (go_at_call 57; refine (rdAt_walk (HM2.out.rd.keep0 hkB)).mono ?_; rintro e8 w8 ⟨rfl, rfl⟩))
            have hM3 := HM2.out.keep0 hkB
            have cn := (hM3.has.at 0 rfl).cell 0 (v := .int .i64 i) rfl
            have zn := (hM3.has.at 0 rfl).frozen 0
            have hM4 := hM3.count ha
            have HM4 := Lib.hid hM4
            clear cpZ cxZ hM3 hM4 HM2 hkB hk7
            go_wp2_with fail
            have hcast : ((i : Int) + 1) = ((i + 1 : Nat) : Int) := by omega
            rw [hcast]
            go_roundw
            case rel => first | exact ⟨i + 1, at2, by omega, rfl, HM4.out⟩ | ((repeat apply Exists.intro); exact ⟨⟨i + 1, at2, by omega, rfl, HM4.out⟩, rfl⟩)
            case measure => simp [intOf]; omega
          · have HAv := Lib.hid (show l.length < at_ + n by omega)
            clear hav
            go_wp2_with fail
            go_region_held3 (fun w' => w'.cell? ⟨gp, 0, none⟩ = some (.pointer (some ⟨gx, 0, none⟩)) ∧ w'.cell? ⟨gl, 0, none⟩ = some (.slice (some ⟨b0, off0, none⟩) len capD) ∧ w'.cell? ⟨b0, off0 + i * 2 + 1, none⟩ = some (.int .i64 (n : Int))) (first | go_keep | exact ⟨hkX.cell cpd (fun e => hpx e), hkX.cell cld (fun e => hlx e), hkX.cell cnd (fun e => hbx e)⟩ | exact ⟨cp, cl, cn⟩) (first | (go_at_call 53; refine (rfRaw_short HMd.out.rf n HAv.out hn63).mono ?_; rintro e2 wX ⟨rfl, hrfX, hkX⟩))
            obtain ⟨hrdX, hhX, hbX, hoX⟩ := HMd.out.rfTo ha hkX
            have cpX := hkX.cell cpd (fun e => hpx e)
            have clX := hkX.cell cld (fun e => hlx e)
            have cnX := hkX.cell cnd (fun e => hbx e)
            have EX := Lib.hid (hE.keep hoX)
            clear cpd cld cnd cl cn
            go_wp2_with fail
            refine (rdRaw_short EX.out hrdX n HAv.out hn63).mono ?_
            rintro e wZ ⟨g, rfl, hbf, hge, hkZ⟩
            go_wp2
            obtain ⟨hrfZ, hhZ, hbZ, hoZ⟩ := Mid.rdTo hrfX hhX hbX hoX ha hkZ.nil
            refine ⟨rfl, .inr ⟨_, 2, g, by decide, rfl, hbf, Nat.le_trans hbX.size hge, .inr ⟨at_, 2, i, _, by decide, rfl, hrfZ, hlt, hhZ⟩⟩, hbZ⟩
      | 3, _ =>
        have hMd := hM.keep0 (Keeps.refl Nil wr).drew
        have HMd := Lib.hid hMd
        have hlx : gl ≠ gx := fun e => hln (.inl (.inl e))
        have hbx : b0 ≠ gx := by have := ha.ge; omega
        have cpd : wr.drew.cell? ⟨gp, 0, none⟩ = some (.pointer (some ⟨gx, 0, none⟩)) := (Keeps.refl Nil wr).drew.cell cp (fun h => h)
        have cld : wr.drew.cell? ⟨gl, 0, none⟩ = some (.slice (some ⟨b0, off0, none⟩) len capD) := (Keeps.refl Nil wr).drew.cell cl (fun h => h)
        have cnd : wr.drew.cell? ⟨b0, off0 + i * 2 + 1, none⟩ = some (.int .i64 nn) := (Keeps.refl Nil wr).drew.cell cn (fun h => h)
        by_cases h4 : l.length < at_ + 4
        · have H4 := Lib.hid h4
          clear h4
          go_wp2_with fail
          go_region_held3 (fun w' => w'.cell? ⟨gp, 0, none⟩ = some (.pointer (some ⟨gx, 0, none⟩)) ∧ w'.cell? ⟨gl, 0, none⟩ = some (.slice (some ⟨b0, off0, none⟩) len capD) ∧ w'.cell? ⟨b0, off0 + i * 2 + 1, none⟩ = some (.int .i64 nn)) (first | go_keep | exact ⟨hkX.cell cpd (fun e => hpx e), hkX.cell cld (fun e => hlx e), hkX.cell cnd (fun e => hbx e)⟩ | exact ⟨cp, cl, cn⟩) (first | (go_at_call 54; refine (rfList_short4 HMd.out.rf nn H4.out).mono ?_; rintro e2 wX ⟨rfl, hrfX, hkX⟩))
          obtain ⟨hrdX, hhX, hbX, hoX⟩ := HMd.out.rfTo ha hkX
          have cpX := hkX.cell cpd (fun e => hpx e)
          have clX := hkX.cell cld (fun e => hlx e)
          have cnX := hkX.cell cnd (fun e => hbx e)
          have EX := Lib.hid (hE.keep hoX)
          clear cpd cld cnd cl cn
          go_wp2_with fail
          refine (rdList_short4 EX.out hrdX nn H4.out).mono ?_
          rintro e wZ ⟨g, rfl, hbf, hge, hkZ⟩
          go_wp2
          obtain ⟨hrfZ, hhZ, hbZ, hoZ⟩ := Mid.rdTo hrfX hhX hbX hoX ha hkZ.nil
          refine ⟨rfl, .inr ⟨_, 2, g, by decide, rfl, hbf, Nat.le_trans hbX.size hge, .inr ⟨at_, 2, i, _, by decide, rfl, hrfZ, hlt, hhZ⟩⟩, hbZ⟩
        have h4' : at_ + 4 ≤ l.length := by omega
        have hnb := num4_bounds hM.rd.row.bytes at_ h4'
        obtain ⟨n, hnn⟩ := Int.eq_ofNat_of_zero_le hnb.1
        have HN := Lib.hid (And.intro hnn h4')
        clear h4
        by_cases hmost : nn < (n : Int)
        · have HM := Lib.hid hmost
          clear hmost hnn hnb h4'
          go_wp2_with fail
          go_region_held3 (fun w' => w'.cell? ⟨gp, 0, none⟩ = some (.pointer (some ⟨gx, 0, none⟩)) ∧ w'.cell? ⟨gl, 0, none⟩ = some (.slice (some ⟨b0, off0, none⟩) len capD) ∧ w'.cell? ⟨b0, off0 + i * 2 + 1, none⟩ = some (.int .i64 nn)) (first | go_keep | exact ⟨hkX.cell cpd (fun e => hpx e), hkX.cell cld (fun e => hlx e), hkX.cell cnd (fun e => hbx e)⟩ | exact ⟨cp, cl, cn⟩) (first | (go_at_call 54; refine (rfList_range HMd.out.rf nn HN.out.2 (by omega) n HN.out.1 HM.out).mono ?_; rintro e2 wX ⟨rfl, hrfX, hkX⟩))
          obtain ⟨hrdX, hhX, hbX, hoX⟩ := HMd.out.rfTo ha hkX
          have cpX := hkX.cell cpd (fun e => hpx e)
          have clX := hkX.cell cld (fun e => hlx e)
          have cnX := hkX.cell cnd (fun e => hbx e)
          have EX := Lib.hid (hE.keep hoX)
          clear cpd cld cnd cl cn
          go_wp2_with fail
          refine (rdList_range EX.out hrdX hgl19 nn HN.out.2 n HN.out.1 HM.out).mono ?_
          rintro e wZ ⟨g, rfl, hbf, hge, hkZ⟩
          go_wp2
          obtain ⟨hrfZ, hhZ, hbZ, hoZ⟩ := Mid.rdTo hrfX hhX hbX hoX ha hkZ
          refine ⟨rfl, .inr ⟨_, 1, g, by decide, rfl, hbf, Nat.le_trans hbX.size hge, .inr ⟨at_, 1, i, _, by decide, rfl, hrfZ, hlt, hhZ⟩⟩, hbZ⟩
        have HM := Lib.hid (show (n : Int) ≤ nn by omega)
        by_cases hav : at_ + 4 + n ≤ l.length
        · have hcl := cutL_length l (at_ + 4) n hav
          have HCL := Lib.hid hcl
          have HW := Lib.hid (cutL_wf hM.rd.row.wf (at_ + 4) n)
          have HAv := Lib.hid hav
          clear hcl hav hmost hnn hnb h4'
          go_wp2_with fail
          go_region_held3 (fun w' => w'.cell? ⟨gp, 0, none⟩ = some (.pointer (some ⟨gx, 0, none⟩)) ∧ w'.cell? ⟨gl, 0, none⟩ = some (.slice (some ⟨b0, off0, none⟩) len capD) ∧ w'.cell? ⟨b0, off0 + i * 2 + 1, none⟩ = some (.int .i64 nn)) (first | go_keep | exact ⟨hkX.cell cpd (fun e => hpx e), hkX.cell cld (fun e => hlx e), hkX.cell cnd (fun e => hbx e)⟩ | exact ⟨cp, cl, cn⟩) (first | (go_at_call 54; refine (rfList_ok HMd.out.rf nn HN.out.2 (by omega) n HN.out.1 HM.out HAv.out).mono ?_; rintro e2 wX ⟨aX, cX, rfl, hoX', hfX', hrfX, hkX⟩))
          obtain ⟨hrdX, hhX, hbX, hoX⟩ := HMd.out.rfTo ha hkX
          have cpX := hkX.cell cpd (fun e => hpx e)
          have clX := hkX.cell cld (fun e => hlx e)
          have cnX := hkX.cell cnd (fun e => hbx e)
          have EX := Lib.hid (hE.keep hoX)
          clear cpd cld cnd cl cn
          go_wp2_with fail
          refine (rdList_ok hrdX nn HN.out.2 (by omega) n HN.out.1 HM.out HAv.out).mono ?_
          rintro e wZ ⟨aZ, cZ, rfl, hoZ', hfZ', hrdZ, hkZ⟩
          have hgx1 := hrfX.obj.lt
          have hgr1 := hrdX.obj.lt
          have hX2 := hoX'.keep hkZ (fun k hk e => by have h7 := hfX' k hk; have h8 := HMd.out.rd.obj.lt; have h9 : k = gr := e; omega)
          obtain ⟨hrfZ, hhZ, hbZ, hoZ⟩ := Mid.rdTo hrfX hhX hbX hoX ha hkZ
          have HRA := Lib.hid (hoZ'.row HW.out)
          have HRB := Lib.hid (hX2.row HW.out)
          clear hoX' hX2 hoZ' hfX' hfZ' clX cnX
          generalize (cutL l (at_ + 4) n).length = cl2 at *
          go_wp2_with fail
          refine (sameBytes_walk HRA.out HRB.out).mono ?_
          rintro e9 wY ⟨rfl, hd9⟩
          rw [sameL_refl]
          have hkY := hd9.keeps Nil
          have hrdY := hrdZ.keep0 hkY
          have hrfY := hrfZ.keep0 hkY
          have hhY := hhZ.keep0 hkY
          have hbY := hbZ.step hkY (fun _ h => h.elim)
          have hoY := hoZ.trans hkY
          clear hrdZ hrfZ hhZ hbZ hoZ hkZ
          have hrdZ := hrdY
          have hrfZ := hrfY
          have hhZ := hhY
          have hbZ := hbY
          have hoZ := hoY
          clear hrdY hrfY hhY hbY hoY hkY hd9 HRA HRB
          have hM2 : Mid w0 w wY gr gx gg gn ar cr a0 cap0 l (at_ + 4 + n) i := ⟨hrdZ, hrfZ, hhZ, hbZ, hoZ⟩
          have cpZ : wY.cell? ⟨gp, 0, none⟩ = some (.pointer (some ⟨gx, 0, none⟩)) := (hpx0.keep hbZ hpn).cell 0 rfl
          have cxZ := hrfZ.obj.cell 1 (v := .int .i64 ((at_ + 4 + n) : Nat)) rfl
          have HM2 := Lib.hid hM2
          clear hM2 hrfX hhX hbX hoX hrdX hkX cpX EX hrdZ hrfZ hhZ hbZ hoZ hM cp
          go_wp2_with fail
          generalize (at_ + 4 + n) = at2 at *
          go_region_held3 (fun w' => w'.cell? ⟨gp, 0, none⟩ = some (.pointer (some ⟨gx, 0, none⟩)) ∧ w'.cell? ⟨gx, 1, none⟩ = some (.int .i64 at2)) (first | go_keep | exact ⟨hkB.cell cpZ (fun h => h), hkB.cell cxZ (fun h => h)⟩ | exact ⟨cpZ, cxZ⟩) (first | (go_at_call 56; refine (fine_walk (HM2.out.rf.keep0 (Keeps.refl Nil _).drew)).mono ?_; rintro e7 w7 ⟨rfl, hk7⟩; have hkB := (Keeps.refl Nil wY).drew.trans hk7) | (go_at_call 57; refine (rdAt_walk (HM2.out.rd.keep0 hkB)).mono ?_; rintro e8 w8 ⟨rfl, rfl⟩))
          have hM3 := HM2.out.keep0 hkB
          have cn := (hM3.has.at 0 rfl).cell 0 (v := .int .i64 i) rfl
          have zn := (hM3.has.at 0 rfl).frozen 0
          have hM4 := hM3.count ha
          have HM4 := Lib.hid hM4
          clear cpZ cxZ hM3 hM4 HM2 hkB hk7
          go_wp2_with fail
          have hcast : ((i : Int) + 1) = ((i + 1 : Nat) : Int) := by omega
          rw [hcast]
          go_roundw
          case rel => first | exact ⟨i + 1, at2, by omega, rfl, HM4.out⟩ | ((repeat apply Exists.intro); exact ⟨⟨i + 1, at2, by omega, rfl, HM4.out⟩, rfl⟩)
          case measure => simp [intOf]; omega
        · have HAv := Lib.hid (show l.length < at_ + 4 + n by omega)
          clear hav hmost hnn hnb h4'
          go_wp2_with fail
          go_region_held3 (fun w' => w'.cell? ⟨gp, 0, none⟩ = some (.pointer (some ⟨gx, 0, none⟩)) ∧ w'.cell? ⟨gl, 0, none⟩ = some (.slice (some ⟨b0, off0, none⟩) len capD) ∧ w'.cell? ⟨b0, off0 + i * 2 + 1, none⟩ = some (.int .i64 nn)) (first | go_keep | exact ⟨hkX.cell cpd (fun e => hpx e), hkX.cell cld (fun e => hlx e), hkX.cell cnd (fun e => hbx e)⟩ | exact ⟨cp, cl, cn⟩) (first | (go_at_call 54; refine (rfList_short HMd.out.rf nn HN.out.2 (by omega) n HN.out.1 HM.out HAv.out).mono ?_; rintro e2 wX ⟨rfl, hrfX, hkX⟩))
          obtain ⟨hrdX, hhX, hbX, hoX⟩ := HMd.out.rfTo ha hkX
          have cpX := hkX.cell cpd (fun e => hpx e)
          have clX := hkX.cell cld (fun e => hlx e)
          have cnX := hkX.cell cnd (fun e => hbx e)
          have EX := Lib.hid (hE.keep hoX)
          clear cpd cld cnd cl cn
          go_wp2_with fail
          refine (rdList_short EX.out hrdX (fun w' hk' => hE.keep (hoX.step hk' (fun k hk => .inr (by rw [show k = gr from hk]; have := ha.rdr; have := ha.ge; omega)))) nn HN.out.2 n HN.out.1 HM.out HAv.out).mono ?_
          rintro e wZ ⟨g, rfl, hbf, hge, hkZ⟩
          go_wp2
          obtain ⟨hrfZ, hhZ, hbZ, hoZ⟩ := Mid.rdTo hrfX hhX hbX hoX ha hkZ
          refine ⟨rfl, .inr ⟨_, 2, g, by decide, rfl, hbf, Nat.le_trans hbX.size hge, .inr ⟨at_, 2, i, _, by decide, rfl, hrfZ, hlt, hhZ⟩⟩, hbZ⟩
      | 4, _ =>
        go_wp2_with fail
        by_cases hav : at_ + 1 ≤ l.length
        · by_cases hx1 : l.getD at_ 0 ≤ 1
          · have hf1 := rfBool_ok hM.rf hav (by omega) hx1
            generalize hbv : (l.getD at_ 0 == 1) = bv at hf1
            have HBV := Lib.hid hbv
            clear hbv
            refine hf1.mono ?_
            clear hf1
            rintro e wX ⟨rfl, hrfX, hkX⟩
            obtain ⟨hrdX, hhX, hbX, hoX⟩ := hM.rfTo ha hkX
            have cpX := hkX.cell cp (fun e => hpx (by rw [show gp = gx from e]))
            have EX := Lib.hid (hE.keep hoX)
            have hf2 := rdBool_ok hrdX hav hx1
            rw [HBV.out] at hf2
            have HF2 := Lib.hid hf2
            clear hf2 HBV hx1
            go_wp2_with fail
            refine HF2.out.mono ?_
            rintro e wZ ⟨rfl, hrdZ, hkZ⟩
            clear HF2
            obtain ⟨hrfZ, hhZ, hbZ, hoZ⟩ := Mid.rdTo hrfX hhX hbX hoX ha hkZ
            have hM2 : Mid w0 w wZ gr gx gg gn ar cr a0 cap0 l (at_ + 1) i := ⟨hrdZ, hrfZ, hhZ, hbZ, hoZ⟩
            have cpZ : wZ.cell? ⟨gp, 0, none⟩ = some (.pointer (some ⟨gx, 0, none⟩)) := (hpx0.keep hbZ hpn).cell 0 rfl
            have cxZ := hrfZ.obj.cell 1 (v := .int .i64 ((at_ + 1) : Nat)) rfl
            have HM2 := Lib.hid hM2
            clear hM2 hrfX hhX hbX hoX hrdX hkX cpX EX hrdZ hrfZ hhZ hbZ hoZ hM cp
            go_wp2_with fail
            generalize (at_ + 1) = at2 at *
            go_region_held3 (fun w' => w'.cell? ⟨gp, 0, none⟩ = some (.pointer (some ⟨gx, 0, none⟩)) ∧ w'.cell? ⟨gx, 1, none⟩ = some (.int .i64 at2)) (first | go_keep | exact ⟨hkB.cell cpZ (fun h => h), hkB.cell cxZ (fun h => h)⟩ | exact ⟨cpZ, cxZ⟩) (first | (go_at_call 56; refine (fine_walk (HM2.out.rf.keep0 (Keeps.refl Nil _).drew)).mono ?_; rintro e7 w7 ⟨rfl, hk7⟩; have hkB := (Keeps.refl Nil wZ).drew.trans hk7) | (go_at_call 57; refine (rdAt_walk (HM2.out.rd.keep0 hkB)).mono ?_; rintro e8 w8 ⟨rfl, rfl⟩))
            have hM3 := HM2.out.keep0 hkB
            have cn := (hM3.has.at 0 rfl).cell 0 (v := .int .i64 i) rfl
            have zn := (hM3.has.at 0 rfl).frozen 0
            have hM4 := hM3.count ha
            have HM4 := Lib.hid hM4
            clear cpZ cxZ hM3 hM4 HM2 hkB hk7
            go_wp2_with fail
            have hcast : ((i : Int) + 1) = ((i + 1 : Nat) : Int) := by omega
            rw [hcast]
            go_roundw
            case rel => first | exact ⟨i + 1, at2, by omega, rfl, HM4.out⟩ | ((repeat apply Exists.intro); exact ⟨⟨i + 1, at2, by omega, rfl, HM4.out⟩, rfl⟩)
            case measure => simp [intOf]; omega
          · refine (rfBool_form hM.rf hav (by omega) (by omega)).mono ?_
            rintro e wX ⟨rfl, hrfX, hkX⟩
            obtain ⟨hrdX, hhX, hbX, hoX⟩ := hM.rfTo ha hkX
            have cpX := hkX.cell cp (fun e => hpx (by rw [show gp = gx from e]))
            have EX := Lib.hid (hE.keep hoX)
            go_wp2_with fail
            refine (rdBool_form EX.out hrdX hgl19 hav (by omega)).mono ?_
            rintro e wZ ⟨g, rfl, hbf, hge, hkZ⟩
            go_wp2
            obtain ⟨hrfZ, hhZ, hbZ, hoZ⟩ := Mid.rdTo hrfX hhX hbX hoX ha hkZ
            refine ⟨rfl, .inr ⟨_, 4, g, by decide, rfl, hbf, Nat.le_trans hbX.size hge, .inr ⟨at_, 4, i, _, by decide, rfl, hrfZ, hlt, hhZ⟩⟩, hbZ⟩
        · refine (rfBool_short hM.rf (by omega)).mono ?_
          rintro e wX ⟨rfl, hrfX, hkX⟩
          obtain ⟨hrdX, hhX, hbX, hoX⟩ := hM.rfTo ha hkX
          have cpX := hkX.cell cp (fun e => hpx (by rw [show gp = gx from e]))
          have EX := Lib.hid (hE.keep hoX)
          go_wp2_with fail
          refine (rdBool_short EX.out hrdX (by omega)).mono ?_
          rintro e wZ ⟨g, rfl, hbf, hge, hkZ⟩
          go_wp2
          obtain ⟨hrfZ, hhZ, hbZ, hoZ⟩ := Mid.rdTo hrfX hhX hbX hoX ha hkZ.nil
          refine ⟨rfl, .inr ⟨_, 2, g, by decide, rfl, hbf, Nat.le_trans hbX.size hge, .inr ⟨at_, 2, i, _, by decide, rfl, hrfZ, hlt, hhZ⟩⟩, hbZ⟩
      | n + 5, h => omega
    · obtain rfl : i = len := by omega
      go_wp2_with fail
      go_end0
      exact ⟨.inl ⟨at_, _, _, rfl, hM.rd, .inl ⟨at_, rfl, hM.rf, hM.has⟩⟩, hM.keep⟩
end Go.Proofs.YtdkfhfflhglmaaaDoor
