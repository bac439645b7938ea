/-
  The document's disk: memory, burn, Fuse, Read, Image. It is the same plain disk.
-/
import Derived.Test.YtkefbgkdkmkghaaDoorDiskKeepsPlain
namespace Go.Proofs.YtkefbgkdkmkghaaDoor
set_option linter.unusedSimpArgs false
set_option linter.unusedVariables false
open Go.RowKit

/-- A sector's versions: nothing writes them. -/
def RVal (w : World) (R : Roles) (v : Value) (l : List (List Int)) : Prop :=
  ∃ g o c, v = .slice (some ⟨g, o, none⟩) l.length c ∧ l.length ≤ c ∧ c ≤ 9223372036854775807 ∧ R g = 1 ∧ g < w.heap.size ∧ ∀ j, j < l.length → ∃ bv, w.cell? ⟨g, o + j, none⟩ = some bv ∧ BVal w R bv (l.getD j [])
theorem RVal.keep {S : Nat → Prop} {w w' : World} {R R' : Roles} {v : Value} {l : List (List Int)} (h : RVal w R v l) (hk : Keeps S w w') (hS : ∀ k, R k = 1 → ¬ S k) (hR : ∀ k, k < w.heap.size → R' k = R k) : RVal w' R' v l := by
  obtain ⟨g, o, c, he, h1, h2, h3, h4, hc⟩ := h
  exact ⟨g, o, c, he, h1, h2, by rw [hR g h4]; exact h3, Nat.lt_of_lt_of_le h4 hk.size, fun j hj => by
    obtain ⟨bv, hb, hv⟩ := hc j hj
    exact ⟨bv, hk.cell hb (hS g h3), hv.keep hk hS hR⟩⟩
/-- The document's disk, its table known. -/
structure RefAt (w : World) (p : Nat) (R : Roles) (d : Dk) (a : Option Addr) (cap : Nat) (tab : List Value) : Prop where
  lt : ∀ k, R k ≠ 0 → k < w.heap.size
  me : R p = 2
  obj : Blk w p [.slice a d.vs.length cap, .int .i64 d.left, .bool d.off] 56
  own : Own w 83 1 a cap d.vs.length tab
  role : ∀ k, blkOf a k → R k = 3
  secs : ∀ i, i < d.vs.length → RVal w R (tab.getD i undef) (d.at_ i)
def IsRef (w : World) (p : Nat) (R : Roles) (d : Dk) : Prop := ∃ a cap tab, RefAt w p R d a cap tab
theorem RefAt.is {w : World} {p : Nat} {R : Roles} {d : Dk} {a : Option Addr} {cap : Nat} {tab : List Value} (h : RefAt w p R d a cap tab) : IsRef w p R d := ⟨a, cap, tab, h⟩
section
variable {w w' : World} {p : Nat} {R R' : Roles} {d : Dk} {a : Option Addr} {cap : Nat} {tab : List Value}
theorem RefAt.keep {S : Nat → Prop} (h : RefAt w p R d a cap tab) (hk : Keeps S w w') (hS : ∀ k, R k ≠ 0 → ¬ S k) : RefAt w' p R d a cap tab :=
  ⟨fun k hk' => Nat.lt_of_lt_of_le (h.lt k hk') hk.size, h.me, h.obj.keep hk (hS p (by rw [h.me]; decide)), h.own.keep hk (fun k hk' => hS k (by rw [h.role k hk']; decide)), h.role, fun i hi =>
    (h.secs i hi).keep hk (fun k h1 => hS k (by rw [h1]; decide)) (fun _ _ => rfl)⟩
theorem RefAt.keep0 (h : RefAt w p R d a cap tab) (hk : Keeps Nil w w') : RefAt w' p R d a cap tab := h.keep hk (fun _ _ h => h)
theorem IsRef.keep {S : Nat → Prop} (h : IsRef w p R d) (hk : Keeps S w w') (hS : ∀ k, R k ≠ 0 → ¬ S k) : IsRef w' p R d := by
  obtain ⟨a, cap, tab, h⟩ := h
  exact (h.keep hk hS).is
theorem IsRef.keep0 (h : IsRef w p R d) (hk : Keeps Nil w w') : IsRef w' p R d := h.keep hk (fun _ _ h => h)
theorem IsRef.lt (h : IsRef w p R d) : ∀ k, R k ≠ 0 → k < w.heap.size := by
  obtain ⟨a, cap, tab, h⟩ := h
  exact h.lt
theorem RefAt.head (h : RefAt w p R d a cap tab) {off : Bool} {left : Int} (hk : Keeps (One p) w w') (hb : Blk w' p [.slice a d.vs.length cap, .int .i64 left, .bool off] 56) : RefAt w' p R { d with off := off, left := left } a cap tab :=
  have hn : ∀ k, R k ≠ 2 → ¬ One p k := fun k h1 h2 => h1 (by rw [show k = p from h2]; exact h.me)
  ⟨fun k hk' => Nat.lt_of_lt_of_le (h.lt k hk') hk.size, h.me, hb, h.own.keep hk (fun k hk' => hn k (by rw [h.role k hk']; decide)), h.role, fun i hi =>
    (h.secs i hi).keep hk (fun k h1 => hn k (by rw [h1]; decide)) (fun _ _ => rfl)⟩
theorem RefAt.tabAt (h : RefAt w p R d a cap tab) {i : Nat} (hi : i < d.vs.length) : ∃ g, a = some ⟨g, 0, none⟩ ∧ w.cell? ⟨g, i, none⟩ = some (tab.getD i undef) ∧ w.frozen? ⟨g, i, none⟩ = false ∧ g < w.heap.size ∧ d.vs.length ≤ cap ∧ cap ≤ 9223372036854775807 := by
  obtain ⟨g, ha, hlt, hr⟩ := h.own.some (by omega)
  subst ha
  have hl := h.own.1
  have hm := h.own.2.2.1
  unfold maxLen at hm
  exact ⟨g, rfl, h.own.cellAt _ (by rw [List.getD_eq_getElem?_getD, List.getElem?_eq_getElem (by omega)]; rfl), h.own.frozen _, hlt, h.own.2.1, by omega⟩
end
theorem refburn_walk {w : World} {p : Nat} {R : Roles} {d : Dk} (h : IsRef w p R d) (ho : d.off = false) (hl : -1 ≤ d.left ∧ d.left ≤ 9223372036854775807) :
    Calls Tryd.prog 51 #[.pointer (some ⟨p, 0, none⟩)] w fun e w' => e = .returned (.bool (!d.goes.off)) ∧ IsRef w' p R d.goes ∧ Keeps (Wr R) w w' := by
  obtain ⟨a, cap, tab, hA⟩ := h
  have c1 := hA.obj.cell 1 rfl
  have z1 := hA.obj.frozen 1
  have z2 := hA.obj.frozen 2
  have hwr : ∀ x, One p x → Wr R x := fun x hx => by unfold Wr; rw [show x = p from hx, hA.me]; exact Nat.le_refl _
  have c2 := hA.obj.cell 2 rfl
  by_cases h0 : d.left = 0
  · have hg : d.goes = { d with off := true, left := 0 } := by unfold Dk.goes; simp [h0]
    have HF : Hid (IsRef (w.setCell ⟨p, 2, none⟩ (.bool true)) p R d.goes ∧ Keeps (Wr R) w (w.setCell ⟨p, 2, none⟩ (.bool true))) := by
      have hk : Keeps (One p) w (w.setCell ⟨p, 2, none⟩ (.bool true)) := (Keeps.refl _ _).setOne _ _
      have hs := hA.obj.set 2 (.bool true)
      rw [h0] at hs
      exact Lib.hid ⟨hg ▸ (hA.head hk hs).is, hk.mono hwr⟩
    have HV : Hid ((!d.goes.off) = false) := Lib.hid (by rw [hg]; rfl)
    rw [h0] at c1
    clear hg hA h0 hwr hl
    go_enter Tryd.func51, Tryd.ntmps51
    go_wp2_with fail
    go_ret
    exact ⟨by rw [HV.out]; rfl, HF.out⟩
  · have hof : d.goes.off = false := by unfold Dk.goes; simp [h0]
    have HV : Hid ((!d.goes.off) = true) := Lib.hid (by rw [hof]; rfl)
    by_cases h1 : 0 < d.left
    · have hg : d.goes = { d with off := false, left := d.left - 1 } := by unfold Dk.goes; simp [h0, h1]
      have HF : Hid (IsRef (w.setCell ⟨p, 1, none⟩ (.int .i64 (d.left - 1))) p R d.goes ∧ Keeps (Wr R) w (w.setCell ⟨p, 1, none⟩ (.int .i64 (d.left - 1)))) := by
        have hk : Keeps (One p) w (w.setCell ⟨p, 1, none⟩ (.int .i64 (d.left - 1))) := (Keeps.refl _ _).setOne _ _
        have hs := hA.obj.set 1 (.int .i64 (d.left - 1))
        rw [ho] at hs
        exact Lib.hid ⟨hg ▸ (hA.head hk hs).is, hk.mono hwr⟩
      clear hg hA hwr hof
      generalize d.left = L at *
      go_enter Tryd.func51, Tryd.ntmps51
      go_wp2_with fail
      go_ret
      exact ⟨by rw [HV.out]; rfl, HF.out⟩
    · have hg : d.goes = d := by
        unfold Dk.goes
        obtain ⟨vs, left, off⟩ := d
        simp only at h0 h1 ho
        simp [h0, h1, ho]
      have HF : Hid (IsRef w p R d.goes ∧ Keeps (Wr R) w w) := Lib.hid ⟨by rw [hg]; exact hA.is, Keeps.refl _ _⟩
      clear hg hA hwr hof
      generalize d.left = L at *
      go_enter Tryd.func51, Tryd.ntmps51
      go_wp2_with fail
      go_ret
      exact ⟨by rw [HV.out]; rfl, HF.out⟩
theorem reffuse_walk {w : World} {p : Nat} {R : Roles} {d : Dk} (h : IsRef w p R d) (n : Int) :
    Calls Tryd.prog 30 #[.pointer (some ⟨p, 0, none⟩), .int .i64 n] w fun e w' => e = .returned (.tuple #[]) ∧ IsRef w' p R (d.fuse n) ∧ Keeps (Wr R) w w' := by
  obtain ⟨a, cap, tab, hA⟩ := h
  have c1 := hA.obj.cell 1 rfl
  have z1 := hA.obj.frozen 1
  have key : ∀ m : Int, m = max n (-1) → IsRef (w.setCell ⟨p, 1, none⟩ (.int .i64 m)) p R (d.fuse n) ∧ Keeps (Wr R) w (w.setCell ⟨p, 1, none⟩ (.int .i64 m)) := fun m hm => by
    subst hm
    have hk : Keeps (One p) w (w.setCell ⟨p, 1, none⟩ (.int .i64 (max n (-1)))) := (Keeps.refl _ _).setOne _ _
    exact ⟨(hA.head hk (hA.obj.set 1 (.int .i64 (max n (-1))))).is, hk.mono (fun x hx => by unfold Wr; rw [show x = p from hx, hA.me]; exact Nat.le_refl _)⟩
  have HF := Lib.hid key
  clear hA key
  generalize d.left = L at *
  by_cases h1 : n < -1
  · go_enter Tryd.func30, Tryd.ntmps30
    go_wp2_with fail
    go_end0
    exact ⟨rfl, HF.out _ (by omega)⟩
  · have hn2 : -1 ≤ n := by omega
    go_enter Tryd.func30, Tryd.ntmps30
    go_wp2_with fail
    go_end0
    exact ⟨rfl, HF.out _ (by omega)⟩
end Go.Proofs.YtkefbgkdkmkghaaDoor
