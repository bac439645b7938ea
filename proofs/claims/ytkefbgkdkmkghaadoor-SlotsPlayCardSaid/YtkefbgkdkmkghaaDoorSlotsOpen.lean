/-
  Slots: Open.
-/
import Derived.Test.YtkefbgkdkmkghaaDoorSlotsClean
namespace Go.Proofs.YtkefbgkdkmkghaaDoor
set_option linter.unusedSimpArgs false
set_option linter.unusedVariables false
open Go.RowKit

theorem parse_le {d : Dk} {B : List Int} {s : Sv} (h : d.parse B = some s) : s.half ≤ 1 ∧ s.many ≤ d.room := by
  unfold Dk.parse at h
  split at h
  · cases h; exact ⟨Nat.zero_le _, Nat.zero_le _⟩
  · split at h
    · next h2 => cases h; exact ⟨h2.2.2.1, h2.2.2.2⟩
    · cases h
/-- What Open leaves. -/
def OpenP (w0 w : World) (p : Nat) (R : Roles) (d : Dk) (pe : Nat → Addr) (o : Option Sv) (e : Ending) (w' : World) : Prop :=
  match o with
  | none => e = .returned (.tuple #[.pointer none, errV pe 7]) ∧ Keeps Nil w w'
  | some s => ∃ g R', e = .returned (.tuple #[.pointer (some ⟨g, 0, none⟩), .nilIface]) ∧ SlAt w' g p s ∧ R' g = 0 ∧ w.heap.size ≤ g ∧ Mine w0 w' p R' (d.cleaned s) ∧ Grew w w' R R'
set_option maxRecDepth 20000 in
set_option maxHeartbeats 3200000 in
theorem open_walk {w0 w : World} {p : Nat} {R : Roles} {d : Dk} {pe : Nat → Addr} (hE : ErrS w0 pe) (hM : Mine w0 w p R d) {m : Nat} (hok : d.Ok m) (hm : m ≤ 100000) (ho : d.off = false) (hl : d.left = -1) (h1 : 1 ≤ d.vs.length) :
    Calls Tryd.prog 36 #[.pointer (some ⟨p, 0, none⟩)] w (OpenP w0 w p R d pe (d.parse (lastV (d.at_ 0)))) := by
  have HES := Lib.hid hE
  have HM := Lib.hid hM
  have HOK := Lib.hid hok
  have HX := Lib.hid (And.intro ho (And.intro hl h1))
  have hg0 : R w.heap.size = 0 := hM.later (Nat.le_refl _)
  have hgw : w0.heap.size ≤ w.heap.size := hM.keeps.size
  have HRH := Lib.hid (fun (w' : World) (hM' : Mine w0 w' p R d) (hs : SlAt w' w.heap.size p ⟨0, 0, 0⟩) => readH_walk hE hM' hs hg0 hgw hok ho h1)
  clear hE hM hok ho hl h1
  go_enter Tryd.func36, Tryd.ntmps36
  go_upto_region 2 with fail
  have hS1 : SlAt (w.alloc (.cells #[.pointer (some ⟨p, 0, none⟩), .int .i64 0, .int .i64 0, .int .i64 0] 93)) w.heap.size p ⟨0, 0, 0⟩ := Blk.new w [.pointer (some ⟨p, 0, none⟩), .int .i64 0, .int .i64 0, .int .i64 0] 93
  have hk1 : Keeps Nil w (w.alloc (.cells #[.pointer (some ⟨p, 0, none⟩), .int .i64 0, .int .i64 0, .int .i64 0] 93)) := (Keeps.refl _ _).alloc _
  generalize w.alloc (.cells #[.pointer (some ⟨p, 0, none⟩), .int .i64 0, .int .i64 0, .int .i64 0] 93) = w1 at *
  have hgl : w.heap.size ≤ w.heap.size := Nat.le_refl _
  have HRD := Lib.hid (HRH.out w1 (HM.out.nil hk1) hS1)
  have hg0' := hg0
  obtain ⟨g, hg⟩ : ∃ g, w.heap.size = g := ⟨_, rfl⟩
  have hgle : w.heap.size ≤ g := by omega
  rw [hg] at hS1 HRD hg0
  have HS1 := Lib.hid hS1
  have HM1 := Lib.hid (HM.out.nil hk1)
  have HK1 := Lib.hid hk1
  rw [hg]
  clear hS1 hk1 HRH hgl hg0' hg
  have HG0 := Lib.hid hg0
  cases hpa : d.parse (lastV (d.at_ 0)) with
  | none =>
    rw [hpa] at HRD
    have HPA := Lib.hid hpa
    clear hpa
    go_wp2_with fail
    refine HRD.out.mono ?_
    rintro e w2 ⟨hk2, rfl⟩
    unfold errV
    have HK2 := Lib.hid (HK1.out.step hk2 (fun i hi => .inr (by rw [show i = g from hi]; exact hgle)))
    clear hk2
    go_wp2_with fail
    go_ret2
    show OpenP w0 w p R d pe (d.parse _) _ _
    rw [HPA.out]
    exact ⟨rfl, HK2.out⟩
  | some s =>
    have hle := parse_le hpa
    have hro : d.room ≤ 25600 := by have := HOK.out.size; unfold Dk.room Dk.each; omega
    rw [hpa] at HRD
    have HPA := Lib.hid hpa
    clear hpa
    go_wp2_with fail
    refine HRD.out.mono ?_
    rintro e w2 ⟨hk2, rfl, hs2⟩
    have HK2 := Lib.hid (HK1.out.step hk2 (fun i hi => .inr (by rw [show i = g from hi]; exact hgle)))
    have hM2 := HM1.out.other hk2 HG0.out (Nat.le_trans HM.out.keeps.size hgle)
    have HC := Lib.hid (clean_walk HES.out.e2 hM2 hs2 HG0.out HOK.out hm HX.out.1 HX.out.2.1 HX.out.2.2 (by omega) (by omega))
    have HS2 := Lib.hid hs2
    clear hk2 hM2 hs2
    go_wp2_with fail
    refine HC.out.mono ?_
    rintro e w3 ⟨R', rfl, hM3, hG3⟩
    have hgs : R' g = 0 := by rw [hG3.same g HS2.out.lt]; exact HG0.out
    have hs3 := HS2.out.keep hG3.keeps (wr_not HG0.out)
    have HF := Lib.hid (And.intro hs3 (And.intro hgs (And.intro hM3 ((Grew.of_nil R HK2.out).trans hG3))))
    clear hM3 hG3 hgs hs3
    go_wp2_with fail
    go_ret2
    show OpenP w0 w p R d pe (d.parse _) _ _
    rw [HPA.out]
    exact ⟨g, R', rfl, HF.out.1, HF.out.2.1, hgle, HF.out.2.2.1, HF.out.2.2.2⟩
end Go.Proofs.YtkefbgkdkmkghaaDoor
