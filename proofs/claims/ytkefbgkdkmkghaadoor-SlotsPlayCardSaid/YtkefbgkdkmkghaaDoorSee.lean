/-
  Errors as plain data: the walks of couriersee and of courierref's faults. What the package variables of api hold is a premise ('Errs').
-/
import Derived.Test.YtkefbgkdkmkghaaDoorProg
import Derived.Test.YtkefbgkdkmkghaaDoorAgg
import Derived.LaidEql
import Derived.WideLaws
import Derived.Deep.RegionHeld3
namespace Go.Proofs.YtkefbgkdkmkghaaDoor
set_option linter.unusedSimpArgs false
set_option linter.unusedVariables false
open Go.RowKit

/-- A fault as a value. -/
abbrev faultV (c : Int) (p : Bool) (q : Int) : Value := .agg #[.int .i64 c, .bool p, .int .i64 q]

/-- api's errors in their order: the variables' numbers. -/
def gnums : List Nat := [0, 1, 4, 5, 6, 7, 2, 3, 8, 9, 10, 11, 12, 13, 14, 15, 16, 17, 18]
/-- The k-th of api's errors as a value. -/
def errV (p : Nat → Addr) (k : Nat) : Value := .iface 114 (.pointer (some (p k)))
/-- What api's variables hold: pointers to errors, no two the same. -/
structure Errs (w : World) (p : Nat → Addr) : Prop where
  at_ : ∀ k, k < 19 → w.cell? ⟨gnums.getD k 0, 0, none⟩ = some (errV p k)
  inj : ∀ j k, j < 19 → k < 19 → p j = p k → j = k
  blk : ∀ k, k < 19 → ∃ c t, w.heap[(p k).block]? = some (.cells c t (0, 0))

theorem Errs.lt {w : World} {p : Nat → Addr} (h : Errs w p) {k : Nat} (hk : k < 19) : (p k).block < w.heap.size := by
  obtain ⟨c, t, hb⟩ := h.blk k hk
  rcases Nat.lt_or_ge (p k).block w.heap.size with h' | h'
  · exact h'
  · rw [Array.getElem?_eq_none h'] at hb; cases hb
theorem Errs.keep {w w' : World} {p : Nat → Addr} (h : Errs w p) (hk : Keeps Nil w w') : Errs w' p :=
  ⟨fun k hk' => hk.cell (h.at_ k hk') (fun h => h), h.inj, fun k hk' => by
    obtain ⟨c, t, hb⟩ := h.blk k hk'
    exact ⟨c, t, (hk.block _ (h.lt hk') (fun h => h)).trans hb⟩⟩

set_option maxHeartbeats 400000 in
theorem none_walk (w : World) : Calls Tryd.prog 72 #[] w fun e w' => e = .returned (faultV 0 false 0) ∧ Keeps Nil w w' := by
  go_enter Tryd.func72, Tryd.ntmps72
  go_wp2
  exact bodyPost_ret (v := faultV 0 false 0) (by simp [results, Tryd.results72, go_sem, faultV]) rfl ⟨rfl, (Keeps.refl _ _).alloc _⟩
set_option maxHeartbeats 400000 in
theorem bare_walk (c : Int) (w : World) : Calls Tryd.prog 50 #[.int .i64 c] w fun e w' => e = .returned (faultV c false 0) ∧ Keeps Nil w w' := by
  go_enter Tryd.func50, Tryd.ntmps50
  go_wp2
  exact bodyPost_ret (v := faultV c false 0) (by simp [results, Tryd.results50, go_sem, faultV]) rfl ⟨rfl, (Keeps.refl _ _).alloc _⟩
set_option maxHeartbeats 400000 in
theorem placed_walk (c q : Int) (w : World) (hc : c ≠ 0) : Calls Tryd.prog 74 #[.int .i64 c, .int .i64 q] w fun e w' => e = .returned (faultV c true q) ∧ Keeps Nil w w' := by
  have h0 : (c == 0) = false := by simpa using hc
  clear hc
  go_enter Tryd.func74, Tryd.ntmps74
  go_wp2
  exact bodyPost_ret (v := faultV c true q) (by simp [results, Tryd.results74, go_sem, faultV]) rfl ⟨rfl, (Keeps.refl _ _).alloc _⟩

set_option maxHeartbeats 400000 in
theorem sameFault_walk (c d : Int) (p q : Bool) (m n : Int) (w : World) : Calls Tryd.prog 64 #[faultV c p m, faultV d q n] w fun e w' => e = .returned (.bool (c == d && p == q && m == n)) ∧ Keeps Nil w w' := by
  unfold faultV
  by_cases h1 : c = d
  · by_cases h2 : p = q
    · have b1 : (c == d) = true := by simpa using h1
      have b2 : (p == q) = true := by simpa using h2
      have hf : (c == d && p == q && m == n) = (m == n) := by simp [b1, b2]
      have HF := Lib.hid hf
      clear h1 h2 hf
      go_enter Tryd.func64, Tryd.ntmps64
      go_wp2
      go_ret
      exact ⟨by rw [HF.out]; rfl, ((Keeps.refl _ _).alloc _).alloc _⟩
    · have b1 : (c == d) = true := by simpa using h1
      have b2 : (p == q) = false := by simpa using h2
      have hf : (c == d && p == q && m == n) = false := by simp [b2]
      have HF := Lib.hid hf
      clear h1 h2 hf
      go_enter Tryd.func64, Tryd.ntmps64
      go_wp2
      go_ret
      exact ⟨by rw [HF.out]; rfl, ((Keeps.refl _ _).alloc _).alloc _⟩
  · have b1 : (c == d) = false := by simpa using h1
    have hf : (c == d && p == q && m == n) = false := by simp [b1]
    have HF := Lib.hid hf
    clear h1 hf
    go_enter Tryd.func64, Tryd.ntmps64
    go_wp2
    go_ret
    exact ⟨by rw [HF.out]; rfl, ((Keeps.refl _ _).alloc _).alloc _⟩

theorem Tryd.infoErrPtr : (Tryd.prog.info? 114).map (·.comparable) = some true := by kernel_rfl
theorem Tryd.infoErrStr : (Tryd.prog.info? 130).map (fun i => decide (i.size ≠ 0)) = some true := by kernel_rfl

/-- Two of api's errors: the same where they are one. -/
theorem eql_errs {w : World} {p : Nat → Addr} (h : Errs w p) {j k : Nat} (hj : j < 19) (hk : k < 19) : (binOp .eql 28 (errV p j) (errV p k)).run Tryd.prog w = .ok (.bool (decide (j = k))) w := by
  obtain ⟨i, hi, hcomp⟩ := Option.map_eq_some_iff.1 Tryd.infoErrPtr
  obtain ⟨s, hs, hsz⟩ := Option.map_eq_some_iff.1 Tryd.infoErrStr
  by_cases e : j = k
  · subst e
    simp only [decide_true]
    exact run_eql_iface_ptr_same w (p j) Tryd.underlying28 Tryd.underlying114 hi hcomp hs
  · obtain ⟨c1, t1, b1⟩ := h.blk j hj
    obtain ⟨c2, t2, b2⟩ := h.blk k hk
    have : decide (j = k) = false := by simpa using e
    rw [this]
    exact run_eql_iface_ptr_other w Tryd.underlying28 Tryd.underlying114 hi hcomp hs (by simpa using hsz) (fun e2 => e (h.inj j k hj hk e2)) b1 b2

set_option maxHeartbeats 400000 in
theorem alike_walk {w : World} {p : Nat → Addr} (h : Errs w p) {j k : Nat} (hj : j < 19) (hk : k < 19) :
    Calls Tryd.prog 77 #[errV p j, errV p k] w fun e w' => e = .returned (.bool (decide (j = k))) ∧ w = w' := by
  have he := eql_errs h hj hk
  generalize decide (j = k) = b at *
  unfold errV at *
  go_enter Tryd.func77, Tryd.ntmps77
  go_wp2
  go_ret
  exact ⟨rfl, rfl⟩


/-- The list of api's errors. -/
def errL (p : Nat → Addr) : List Value := (List.range 19).map (errV p)
def SentPost (w : World) (p : Nat → Addr) (e : Ending) (w' : World) : Prop :=
  ∃ b, e = .returned (.slice (some ⟨b, 0, none⟩) 19 19) ∧ Blk w' b (errL p) 28 ∧ Keeps Nil w w' ∧ w.heap.size ≤ b
set_option maxHeartbeats 800000 in
theorem sentinels_walk {w : World} {p : Nat → Addr} (h : Errs w p) : Calls Tryd.prog 76 #[] w (SentPost w p) := by
  have g0 : w.cell? ⟨0, 0, none⟩ = some (errV p 0) := h.at_ 0 (by decide)
  have g1 : w.cell? ⟨1, 0, none⟩ = some (errV p 1) := h.at_ 1 (by decide)
  have g2 : w.cell? ⟨4, 0, none⟩ = some (errV p 2) := h.at_ 2 (by decide)
  have g3 : w.cell? ⟨5, 0, none⟩ = some (errV p 3) := h.at_ 3 (by decide)
  have g4 : w.cell? ⟨6, 0, none⟩ = some (errV p 4) := h.at_ 4 (by decide)
  have g5 : w.cell? ⟨7, 0, none⟩ = some (errV p 5) := h.at_ 5 (by decide)
  have g6 : w.cell? ⟨2, 0, none⟩ = some (errV p 6) := h.at_ 6 (by decide)
  have g7 : w.cell? ⟨3, 0, none⟩ = some (errV p 7) := h.at_ 7 (by decide)
  have g8 : w.cell? ⟨8, 0, none⟩ = some (errV p 8) := h.at_ 8 (by decide)
  have g9 : w.cell? ⟨9, 0, none⟩ = some (errV p 9) := h.at_ 9 (by decide)
  have g10 : w.cell? ⟨10, 0, none⟩ = some (errV p 10) := h.at_ 10 (by decide)
  have g11 : w.cell? ⟨11, 0, none⟩ = some (errV p 11) := h.at_ 11 (by decide)
  have g12 : w.cell? ⟨12, 0, none⟩ = some (errV p 12) := h.at_ 12 (by decide)
  have g13 : w.cell? ⟨13, 0, none⟩ = some (errV p 13) := h.at_ 13 (by decide)
  have g14 : w.cell? ⟨14, 0, none⟩ = some (errV p 14) := h.at_ 14 (by decide)
  have g15 : w.cell? ⟨15, 0, none⟩ = some (errV p 15) := h.at_ 15 (by decide)
  have g16 : w.cell? ⟨16, 0, none⟩ = some (errV p 16) := h.at_ 16 (by decide)
  have g17 : w.cell? ⟨17, 0, none⟩ = some (errV p 17) := h.at_ 17 (by decide)
  have g18 : w.cell? ⟨18, 0, none⟩ = some (errV p 18) := h.at_ 18 (by decide)
  go_enter Tryd.func76, Tryd.ntmps76
  go_wp2_with (refine wpList_bs rfl 111 28 19 _ rfl (errL p) Tryd.underlying111 (by kernel_rfl) rfl (by decide) (by decide) ?hp ?hv ?_)
  case hp => rfl
  case hv =>
    intro v hv
    obtain ⟨k, _, rfl⟩ := List.mem_map.1 hv
    rfl
  go_ret
  exact ⟨w.heap.size, rfl, Blk.new w (errL p) 28, (Keeps.refl _ _).alloc _, Nat.le_refl _⟩

set_option maxHeartbeats 800000 in
theorem sentinel_walk {w : World} {p : Nat → Addr} (h : Errs w p) {k : Nat} (hk : k < 19) : Calls Tryd.prog 73 #[errV p k] w fun e w' => e = .returned (.int .i64 (101 + k)) ∧ Keeps Nil w w' := by
  go_enter Tryd.func73, Tryd.ntmps73
  go_wp2_with fail
  refine (sentinels_walk h).mono ?_
  rintro e w1 ⟨b, rfl, hb, hk1, hge⟩
  have h1 := h.keep hk1
  have HK := Lib.hid hk1
  clear hk1
  go_wp2_with fail
  go_loop [4] (fun i => ∃ j : Nat, j ≤ k ∧ i = .int .i64 j) (fun i => 19 - (intOf i).toNat)
  case atStart => exact ⟨0, Nat.zero_le _, rfl⟩
  case round =>
    obtain ⟨j, hj, rfl⟩ := hrel
    have hc := hb.cell j (v := errV p j) (by simp [errL, show j < 19 by omega])
    have ha := alike_walk h1 hk (show j < 19 by omega)
    by_cases e : j = k
    · subst e
      simp only [decide_true] at ha
      go_wp2_with fail
      refine ha.mono ?_
      rintro e w2 ⟨rfl, rfl⟩
      go_wp2_with fail
      go_ret
      exact ⟨by rfl, HK.out⟩
    · have : decide (k = j) = false := by simp; omega
      rw [this] at ha
      have hlt : j < k := by omega
      clear this e
      go_wp2_with fail
      refine ha.mono ?_
      rintro e w2 ⟨rfl, rfl⟩
      go_wp2_with fail
      go_round
      case rel => exact ⟨j + 1, by omega, by go_num⟩
      case measure => simp [intOf]; omega
/-- What an error value is, as plain data: none, one of api's, or one of api's with a place. -/
def IsErr (w : World) (p : Nat → Addr) (v : Value) (c : Int) (pl : Bool) (q : Int) : Prop :=
  (v = .nilIface ∧ c = 0 ∧ pl = false ∧ q = 0) ∨ (∃ k : Nat, k < 19 ∧ v = errV p k ∧ c = 101 + (k : Int) ∧ pl = false ∧ q = 0) ∨
  (∃ (b k : Nat), k < 19 ∧ v = .iface 104 (.pointer (some ⟨b, 0, none⟩)) ∧ Blk w b [.int .i64 q, errV p k] 108 ∧ c = 101 + (k : Int) ∧ pl = true)

theorem IsErr.keep {w w' : World} {p : Nat → Addr} {v : Value} {c : Int} {pl : Bool} {q : Int} (h : IsErr w p v c pl q) (hk : Keeps Nil w w') : IsErr w' p v c pl q := by
  rcases h with h | h | ⟨b, k, hk1, hv, hb, hc, hp⟩
  · exact .inl h
  · exact .inr (.inl h)
  · exact .inr (.inr ⟨b, k, hk1, hv, hb.keep0 hk, hc, hp⟩)

def FaultPost (w : World) (c : Int) (pl : Bool) (q : Int) (e : Ending) (w' : World) : Prop := e = .returned (faultV c pl q) ∧ Keeps Nil w w'

theorem Tryd.notAt (a : Addr) (w : World) : (Instr.typeAssert (.iface 114 (.pointer (some a))) 28 104 true).run Tryd.prog w = .ok (.tuple #[.pointer none, .bool false]) w := by kernel_rfl
theorem Tryd.isAt (a : Addr) (w : World) : (Instr.typeAssert (.iface 104 (.pointer (some a))) 28 104 true).run Tryd.prog w = .ok (.tuple #[.pointer (some a), .bool true]) w := by kernel_rfl
theorem Tryd.sizeFault : (Tryd.prog.info? 90).map (·.size) = some 3 := by kernel_rfl
theorem Tryd.undFault : ∃ fs, Tryd.prog.underlying 90 = some (.struct fs) := ⟨_, Tryd.underlying90⟩

set_option maxHeartbeats 800000 in
theorem fault_none (w : World) : Calls Tryd.prog 65 #[.nilIface] w (FaultPost w 0 false 0) := by
  obtain ⟨fs, hu⟩ := Tryd.undFault
  have HU := Lib.hid hu
  clear hu
  go_enter Tryd.func65, Tryd.ntmps65
  go_wp2_with fail
  refine (none_walk _).mono ?_
  rintro e w1 ⟨rfl, hk1⟩
  have hb1 := (Blk.new w [.int .i64 0, .bool false, .int .i64 0] 90).keep0 hk1
  go_wp2_with (refine wpl_store rfl 90 _ _ rfl w.heap.size rfl [.int .i64 0, .bool false, .int .i64 0] rfl hb1 rfl Tryd.sizeFault (by simp [Value.oneCell']) ?_)
  intro w2 hb2 hk2 hs2
  go_wp2
  refine ret_blk Tryd.results65 w.heap.size rfl hb2 _ HU.out rfl Tryd.sizeFault rfl ⟨rfl, ?_⟩
  exact (((Keeps.refl Nil w).alloc _).trans hk1).step hk2 (fun i hi => .inr (by rw [show i = w.heap.size from hi]; exact Nat.le_refl _))
set_option maxHeartbeats 800000 in
theorem fault_bare {w : World} {p : Nat → Addr} (h : Errs w p) {k : Nat} (hk : k < 19) : Calls Tryd.prog 65 #[errV p k] w (FaultPost w (101 + k) false 0) := by
  obtain ⟨fs, hu⟩ := Tryd.undFault
  have HU := Lib.hid hu
  clear hu
  unfold errV
  have hta := Tryd.notAt (p k)
  go_enter Tryd.func65, Tryd.ntmps65
  go_wp2_with fail
  refine (sentinel_walk (h.keep ((Keeps.refl Nil w).alloc _)) hk).mono ?_
  rintro e w1 ⟨rfl, hk1⟩
  go_wp2_with fail
  refine (bare_walk _ _).mono ?_
  rintro e w2 ⟨rfl, hk2⟩
  have hb1 := ((Blk.new w [.int .i64 0, .bool false, .int .i64 0] 90).keep0 hk1).keep0 hk2
  go_wp2_with (refine wpl_store rfl 90 _ _ rfl w.heap.size rfl [.int .i64 (101 + k), .bool false, .int .i64 0] rfl hb1 rfl Tryd.sizeFault (by simp [Value.oneCell']) ?_)
  intro w3 hb3 hk3 hs3
  go_wp2
  refine ret_blk Tryd.results65 w.heap.size rfl hb3 _ HU.out rfl Tryd.sizeFault rfl ⟨rfl, ?_⟩
  exact ((((Keeps.refl Nil w).alloc _).trans hk1).trans hk2).step hk3 (fun i hi => .inr (by rw [show i = w.heap.size from hi]; exact Nat.le_refl _))
set_option maxHeartbeats 800000 in
theorem fault_at {w : World} {p : Nat → Addr} (h : Errs w p) {k b : Nat} (hk : k < 19) (q : Int) (hb : Blk w b [.int .i64 q, errV p k] 108) :
    Calls Tryd.prog 65 #[.iface 104 (.pointer (some ⟨b, 0, none⟩))] w (FaultPost w (101 + k) true q) := by
  obtain ⟨fs, hu⟩ := Tryd.undFault
  have HU := Lib.hid hu
  clear hu
  have c0 := hb.cell 0 rfl
  have c1 := hb.cell 1 rfl
  unfold errV at c1
  have hta := Tryd.isAt ⟨b, 0, none⟩
  have hlt := hb.lt
  go_enter Tryd.func65, Tryd.ntmps65
  go_wp2_with fail
  go_region_held3 (fun w' => w'.cell? ⟨b, 0, none⟩ = some (.int .i64 q) ∧ w'.cell? ⟨b, 1, none⟩ = some (.iface 114 (.pointer (some (p k))))) (first | go_keep | (refine ⟨?_, ?_⟩ <;> (iterate 3 rw [World.cell?_setCell_other _ _ _ _ (by simp; omega)]); assumption) | exact ⟨hkB.cell c0 (fun h => h), hkB.cell c1 (fun h => h)⟩ | exact ⟨hkA.cell c0 (fun h => h), hkA.cell c1 (fun h => h)⟩) (first | (go_at_call 73; refine (sentinel_walk (h.keep ?_) hk).mono ?_; exact ((Keeps.refl Nil w).alloc _).drew; rintro e w1 ⟨rfl, hk1⟩; have hkA := ((Keeps.refl Nil w).alloc (.cells #[.int .i64 0, .bool false, .int .i64 0] 90)).drew.trans hk1) | (go_at_call 74; refine (placed_walk _ _ _ (by omega)).mono ?_; rintro e w2 ⟨rfl, hk2⟩; have hkB := hkA.trans hk2; have hbr := ((Blk.new w [.int .i64 0, .bool false, .int .i64 0] 90).drew.keep0 hk1).keep0 hk2; have r0 := hbr.cell 0 rfl; have r1 := hbr.cell 1 rfl; have r2 := hbr.cell 2 rfl; have f0 := hbr.frozen 0; have f1 := hbr.frozen 1; have f2 := hbr.frozen 2; have s0 := hkB.cell c0 (fun h => h); have s1 := hkB.cell c1 (fun h => h); have hne : ¬ w.heap.size = b := by omega))
  go_wp2
  refine ret_blk Tryd.results65 w.heap.size rfl (((hbr.set 0 _).set 1 _).set 2 _) _ HU.out rfl Tryd.sizeFault rfl ⟨rfl, ?_⟩
  exact ((hkB.setCell (p := ⟨w.heap.size, 0, none⟩) (.inr (Nat.le_refl _)) _).setCell (p := ⟨w.heap.size, 1, none⟩) (.inr (Nat.le_refl _)) _).setCell (p := ⟨w.heap.size, 2, none⟩) (.inr (Nat.le_refl _)) _

theorem fault_walk {w : World} {p : Nat → Addr} (h : Errs w p) {v : Value} {c : Int} {pl : Bool} {q : Int} (hv : IsErr w p v c pl q) : Calls Tryd.prog 65 #[v] w (FaultPost w c pl q) := by
  rcases hv with ⟨rfl, rfl, rfl, rfl⟩ | ⟨k, hk, rfl, rfl, rfl, rfl⟩ | ⟨b, k, hk, rfl, hb, rfl, rfl⟩
  · exact fault_none w
  · exact fault_bare h hk
  · exact fault_at h hk q hb

/-- Are two faults the same? -/
def sameF (c : Int) (pl : Bool) (q d : Int) (pm : Bool) (n : Int) : Bool := c == d && pl == pm && q == n
set_option maxHeartbeats 800000 in
theorem same_walk {w : World} {p : Nat → Addr} (h : Errs w p) {v : Value} {c : Int} {pl : Bool} {q : Int} (hv : IsErr w p v c pl q) (d : Int) (pm : Bool) (n : Int) :
    Calls Tryd.prog 49 #[v, faultV d pm n] w fun e w' => e = .returned (.bool (sameF c pl q d pm n)) ∧ Keeps Nil w w' := by
  have hka : ∀ o, Keeps Nil w (w.alloc o) := fun o => (Keeps.refl Nil w).alloc o
  have HA := Lib.hid hka
  clear hka
  go_enter Tryd.func49, Tryd.ntmps49
  go_wp2_with fail
  go_region_held3 (fun w' => w'.cell? ⟨w.heap.size, 0, none⟩ = some (.int .i64 d) ∧ w'.cell? ⟨w.heap.size, 1, none⟩ = some (.bool pm) ∧ w'.cell? ⟨w.heap.size, 2, none⟩ = some (.int .i64 n)) (first | go_keep | exact ⟨hkB.cell s0 (fun h => h), hkB.cell s1 (fun h => h), hkB.cell s2 (fun h => h)⟩ | exact ⟨s0, s1, s2⟩) (first | (go_at_call 65; refine (fault_walk (h.keep ?_) (hv.keep ?_)).mono ?_; exact (HA.out _).drew; exact (HA.out _).drew; rintro e w1 ⟨rfl, hk1⟩; have hkA := (HA.out (.cells #[.int .i64 d, .bool pm, .int .i64 n] 90)).drew.trans hk1; have hbr := (Blk.new w [.int .i64 d, .bool pm, .int .i64 n] 90).drew.keep0 hk1; have s0 := hbr.cell 0 rfl; have s1 := hbr.cell 1 rfl; have s2 := hbr.cell 2 rfl) | (go_at_call 64; refine (sameFault_walk _ _ _ _ _ _ _).mono ?_; rintro e w2 ⟨rfl, hk2⟩; have hkB := hk2))
  go_wp2
  go_ret
  exact ⟨rfl, hkA.trans hkB⟩

/-- Is an error just this one of api's (0: none)? -/
def isV (c : Int) (pl : Bool) (q d : Int) : Bool := sameF c pl q d false 0
set_option maxHeartbeats 800000 in
theorem is_walk {w : World} {p : Nat → Addr} (h : Errs w p) {v : Value} {c : Int} {pl : Bool} {q : Int} (hv : IsErr w p v c pl q) (d : Int) :
    Calls Tryd.prog 21 #[v, .int .i64 d] w fun e w' => e = .returned (.bool (isV c pl q d)) ∧ Keeps Nil w w' := by
  go_enter Tryd.func21, Tryd.ntmps21
  go_wp2_with fail
  refine (bare_walk _ _).mono ?_
  rintro e w1 ⟨rfl, hk1⟩
  go_wp2_with fail
  refine (same_walk (h.keep hk1) (hv.keep hk1) d false 0).mono ?_
  rintro e w2 ⟨rfl, hk2⟩
  go_wp2_with fail
  go_ret
  exact ⟨rfl, hk1.trans hk2⟩
theorem IsErr.lt {w : World} {p : Nat → Addr} {v : Value} {c : Int} {pl : Bool} {q : Int} (h : IsErr w p v c pl q) (bb : Nat) (hv : v = .iface 104 (.pointer (some ⟨bb, 0, none⟩))) : bb < w.heap.size := by
  rcases h with ⟨h, _⟩ | ⟨k, _, h, _⟩ | ⟨b, k, h1, h2, h3, h4⟩
  · rw [hv] at h; cases h
  · rw [hv] at h
    unfold errV at h
    injection h with h _
    exact absurd h (by decide)
  · rw [hv] at h2
    injection h2 with _ h2
    injection h2 with h2
    injection h2 with h2
    injection h2 with h2
    rw [h2]
    exact h3.lt
theorem IsErr.keepS {S : Nat → Prop} {w w' : World} {p : Nat → Addr} {v : Value} {c : Int} {pl : Bool} {q : Int} (h : IsErr w p v c pl q) (hk : Keeps S w w') (hn : ∀ bb, v = .iface 104 (.pointer (some ⟨bb, 0, none⟩)) → ¬ S bb) : IsErr w' p v c pl q := by
  rcases h with h | h | ⟨b, k, h1, h2, h3, h4⟩
  · exact .inl h
  · exact .inr (.inl h)
  · exact .inr (.inr ⟨b, k, h1, h2, h3.keep hk (hn b h2), h4⟩)
/-- An error with a place lies in a block that is new. -/
def FreshAt (w : World) (r : Value) : Prop := ∀ b, r = .iface 104 (.pointer (some ⟨b, 0, none⟩)) → w.heap.size ≤ b
theorem freshAt_err (w : World) (p : Nat → Addr) (k : Nat) : FreshAt w (errV p k) := fun b h => by
  unfold errV at h
  injection h with h _
  exact absurd h (by decide)
theorem freshAt_nil (w : World) : FreshAt w .nilIface := fun b h => by cases h
theorem freshAt_at {w : World} {g : Nat} (h : w.heap.size ≤ g) : FreshAt w (.iface 104 (.pointer (some ⟨g, 0, none⟩))) := fun b e => by
  injection e with _ e
  injection e with e
  injection e with e
  injection e with e
  omega
end Go.Proofs.YtkefbgkdkmkghaaDoor
