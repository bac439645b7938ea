/-
  Chapter 2's laws: what they share: calm, errs, the first examples.
-/
import Derived.Test.YtdkfhfflhglmaaaDoorTrap
import Derived.Test.YtdkfhfflhglmaaaDoorNumber
namespace Go.Proofs.YtdkfhfflhglmaaaDoor
open Go.RowKit

def TrueT (w : World) (e : Ending) (w' : World) : Prop := e = .returned (.bool true) ∧ Keeps Nil w w'

set_option maxHeartbeats 400000 in
theorem calm_idle (g : Nat) (w : World) :
    CallsD Tryd.prog 72 #[.pointer (some ⟨g, 0, none⟩)] .returning w fun e u' w' => u' = .returning ∧ e = .returned (.tuple #[]) ∧ w = w' := by
  refine callsD_recover Tryd.func72 rfl rfl rfl found_idle ?_
  simp only [Tryd.ntmps72, List.size_toArray, List.length_cons, List.length_nil, Nat.reduceAdd, Nat.reduceSub, Array.replicate_succ,
     Array.replicate_zero, List.push_toArray, List.append_toArray, List.nil_append, List.cons_append, Act.put, List.setIfInBounds_toArray, List.set_cons_succ, List.set_cons_zero]
  go_wp2
  go_end0
  exact ⟨rfl, rfl⟩

set_option maxRecDepth 20000 in
set_option maxHeartbeats 800000 in
theorem calm_walk (F : FuncId) (cap : Array Value) (w : World) (hF : ∀ w, (callFunc F cap).run Tryd.prog w = .ok (.enter F cap) w) (b : Bool)
    (h : ∀ w1, Keeps Nil w w1 → Calls Tryd.prog F cap w1 fun e w2 => e = .returned (.bool b) ∧ Keeps Nil w1 w2) :
    Calls Tryd.prog 16 #[.func (.func F) #[] cap] w fun e w' => e = .returned (.bool b) ∧ Keeps Nil w w' := by
  have hmf : ∀ (fn : Fn) (first cap : Array Value) (w : World), (Instr.makeFunc fn first cap).run Tryd.prog w = .ok (.func fn first cap) w := fun _ _ _ _ => rfl
  have H := Lib.hid h
  clear h
  go_enter_defers Tryd.func16, Tryd.ntmps16
  go_wp2_with fail
  refine (H.out _ ((Keeps.refl Nil w).alloc _)).mono ?_
  have hB : Blk (w.alloc (.cells #[.bool false] 4)) w.heap.size [.bool false] 4 := Blk.new w [.bool false] 4
  rintro e w2 ⟨rfl, hk⟩
  have hB2 := hB.keep0 hk
  have c2 := hB2.cell 0 (v := .bool false) rfl
  have z2 := hB2.frozen 0
  have hkw : Keeps Nil w w2 := ((Keeps.refl Nil w).alloc _).trans hk
  go_wp2
  refine leaves_cons (f := 72) (args := #[.pointer (some ⟨w.heap.size, 0, none⟩)]) (by simp) (by simp [go_sem]) ?_
  refine (calm_idle w.heap.size _).mono ?_
  rintro e u' w'' ⟨rfl, rfl, rfl⟩
  have c3 := (hB2.set 0 (.bool b)).cell 0 (v := .bool b) rfl
  simp [Leaves, settle, results, Tryd.results16, go_sem, c3]
  exact hkw.step ((Keeps.refl (One w.heap.size) w2).setOne 0 _) (fun i hi => .inr (Nat.le_of_eq hi.symm))

/-- Package api's errors that the laws take, by their places among all. -/
def eIdx : List Nat := [0, 1, 2, 3, 4, 5, 6, 8, 9, 13]
def eI (k : Nat) : Nat := eIdx.getD k 0
theorem eI_lt (k : Nat) : eI k < 19 := by
  by_cases h : k < 10
  · match k, h with
    | 0, _ => decide
    | 1, _ => decide
    | 2, _ => decide
    | 3, _ => decide
    | 4, _ => decide
    | 5, _ => decide
    | 6, _ => decide
    | 7, _ => decide
    | 8, _ => decide
    | 9, _ => decide
    | n + 10, h => omega
  · have : eIdx.length ≤ k := by simp [eIdx]; omega
    simp [eI, List.getD, this]
theorem first1_walk (w : World) : Calls Tryd.prog 68 #[] w fun e w' => e = .returned (.tuple #[]) ∧ w = w' := by
  go_enter Tryd.func68, Tryd.ntmps68
  go_wp2
  go_end0
  exact ⟨rfl, rfl⟩
theorem first2_walk {w : World} {p : Nat → Addr} (hE : Errs w p) : Calls Tryd.prog 70 #[] w fun e w' => e = .panicked (chainOf (thrownV (errV p 8))) ∧ w = w' := by
  have g8 : w.cell? ⟨0, 0, none⟩ = some (errV p 8) := hE.at_ 8 (by decide)
  go_enter Tryd.func70, Tryd.ntmps70
  go_wp2_with fail
  refine (must_err _ _ _).mono ?_
  rintro e w1 ⟨rfl, rfl⟩
  go_wp2
  exact ⟨rfl, rfl, rfl⟩

set_option maxHeartbeats 800000 in
theorem first3_walk {w : World} {p : Nat → Addr} (hE : Errs w p) : Calls Tryd.prog 66 #[] w (TrueT w) := by
  have hx : ∃ u v, errV p 5 = .iface u v := ⟨_, _, rfl⟩
  go_enter Tryd.func66, Tryd.ntmps66
  go_wp2_with fail
  refine (try_walk 68 #[] w (fun _ => by kernel_rfl) (hE.at_ 5 (by decide)) hx (S := Nil) (fun _ h => h.elim) (R := fun r w2 => r = .nilIface) (fun w1 h1 _ => (first1_walk w1).mono ?_)).mono ?_
  · rintro e w2 ⟨rfl, rfl⟩
    exact ⟨_, .inl ⟨rfl, rfl⟩, Keeps.refl _ _, rfl⟩
  rintro e w3 ⟨r, w2, rfl, rfl, _, hk3⟩
  go_wp2_with fail
  refine (try_walk 70 #[] _ (fun _ => by kernel_rfl) ((hE.keep hk3).at_ 5 (by decide)) hx (S := Nil) (fun _ h => h.elim) (R := fun r w2 => r = errV p 8) (fun w1 h1 _ => (first2_walk ((hE.keep hk3).keep h1)).mono ?_)).mono ?_
  · rintro e w2 ⟨rfl, rfl⟩
    exact ⟨_, .inr (.inl ⟨_, _, rfl, rfl⟩), Keeps.refl _ _, rfl⟩
  rintro e w5 ⟨r, w4, rfl, rfl, _, hk5⟩
  have hiv : isV 109 false 0 109 = true := by decide
  go_wp2_with fail
  refine (is_walk ((hE.keep hk3).keep hk5) (.inr (.inl ⟨8, by decide, rfl, rfl, rfl, rfl⟩)) 109).mono ?_
  rintro e w6 ⟨rfl, hk6⟩
  go_wp2_with fail
  go_ret
  exact ⟨by first | rfl | rw [hiv], (hk3.trans hk5).trans hk6⟩
theorem trapfirst_walk {w : World} {p : Nat → Addr} (hE : Errs w p) : Calls Tryd.prog 15 #[] w (TrueT w) := by
  go_enter Tryd.func15, Tryd.ntmps15
  go_wp2_with fail
  refine (calm_walk 66 #[] w (fun _ => by kernel_rfl) true (fun w1 h1 => first3_walk (hE.keep h1))).mono ?_
  rintro e w1 ⟨rfl, hk1⟩
  go_wp2_with fail
  go_ret
  exact ⟨rfl, hk1⟩

/-- The errors that the laws take, as values; and their codes. -/
def eL (p : Nat → Addr) : List Value := eIdx.map (errV p)
def eC : List Int := [101, 102, 103, 104, 105, 106, 107, 109, 110, 114]
theorem eC_at (k : Nat) (hk : k < 10) : eC.getD k 0 = 101 + (eI k : Int) := by
  match k, hk with
  | 0, _ => rfl
  | 1, _ => rfl
  | 2, _ => rfl
  | 3, _ => rfl
  | 4, _ => rfl
  | 5, _ => rfl
  | 6, _ => rfl
  | 7, _ => rfl
  | 8, _ => rfl
  | 9, _ => rfl
  | n + 10, h => omega
theorem eL_at (p : Nat → Addr) (k : Nat) (hk : k < 10) : (eL p)[k]? = some (errV p (eI k)) := by
  have : k < eIdx.length := hk
  simp [eL, eI, List.getD, this]
def ErrsPost (w : World) (p : Nat → Addr) (k : Nat) (e : Ending) (w' : World) : Prop := e = .returned (.tuple #[errV p (eI k), .int .i64 (101 + eI k)]) ∧ Keeps Nil w w'
set_option maxHeartbeats 1600000 in
theorem errs_walk {w : World} {p : Nat → Addr} (h : Errs w p) (n : Int) (h1 : -9223372036854775808 ≤ n) (h2 : n ≤ 9223372036854775807) : Calls Tryd.prog 20 #[.int .i64 n] w (ErrsPost w p (n % 10).toNat) := by
  have g0 : w.cell? ⟨1, 0, none⟩ = some (errV p 0) := h.at_ 0 (by decide)
  have g1 : w.cell? ⟨2, 0, none⟩ = some (errV p 1) := h.at_ 1 (by decide)
  have g2 : w.cell? ⟨3, 0, none⟩ = some (errV p 2) := h.at_ 2 (by decide)
  have g3 : w.cell? ⟨4, 0, none⟩ = some (errV p 3) := h.at_ 3 (by decide)
  have g4 : w.cell? ⟨5, 0, none⟩ = some (errV p 4) := h.at_ 4 (by decide)
  have g5 : w.cell? ⟨6, 0, none⟩ = some (errV p 5) := h.at_ 5 (by decide)
  have g6 : w.cell? ⟨7, 0, none⟩ = some (errV p 6) := h.at_ 6 (by decide)
  have g8 : w.cell? ⟨0, 0, none⟩ = some (errV p 8) := h.at_ 8 (by decide)
  have g9 : w.cell? ⟨8, 0, none⟩ = some (errV p 9) := h.at_ 9 (by decide)
  have g13 : w.cell? ⟨9, 0, none⟩ = some (errV p 13) := h.at_ 13 (by decide)
  have hb0 : 0 ≤ n % 10 := Int.emod_nonneg _ (by omega)
  have hb1 : n % 10 < 10 := Int.emod_lt_of_pos _ (by omega)
  have HN := Lib.hid (number_walk n 10)
  go_enter Tryd.func20, Tryd.ntmps20
  go_wp2_with (first | (refine wpList_bs rfl 93 28 10 _ rfl (eL p) Tryd.underlying93 (by kernel_rfl) rfl (by decide) (by decide) ?hp ?hv ?_) | (refine wpList_bs rfl 22 3 10 _ rfl (eC.map (Value.int .i64)) Tryd.underlying22 (by kernel_rfl) rfl (by decide) (by decide) ?hp2 ?hv2 ?_))
  case hp => rfl
  case hp2 => rfl
  case hv =>
    intro v hv
    obtain ⟨k, _, rfl⟩ := List.mem_map.1 hv
    rfl
  case hv2 =>
    intro v hv
    obtain ⟨k, _, rfl⟩ := List.mem_map.1 hv
    rfl
  refine (HN.out _ h1 h2 (by omega) (by omega)).mono ?_
  rintro e w1 ⟨rfl, rfl⟩
  obtain ⟨k, hk⟩ := Int.eq_ofNat_of_zero_le hb0
  rw [hk] at hb1 ⊢
  have hk10 : k < 10 := by omega
  have hkn : ((k : Int).toNat) = k := rfl
  have hb : Blk ((w.alloc (.cells (eL p).toArray 28)).alloc (.cells (List.map (Value.int .i64) eC).toArray 3)) w.heap.size (eL p) 28 := (Blk.new w (eL p) 28).alloc _
  have hsz : (w.alloc (.cells (eL p).toArray 28)).heap.size = w.heap.size + 1 := Array.size_push _
  have hc : Blk ((w.alloc (.cells (eL p).toArray 28)).alloc (.cells (List.map (Value.int .i64) eC).toArray 3)) (w.heap.size + 1) (List.map (Value.int .i64) eC) 3 := Blk.new' _ _ _ hsz.symm
  have c1 := hb.cell k (eL_at p k hk10)
  have c2 : ((w.alloc (.cells (eL p).toArray 28)).alloc (.cells (List.map (Value.int .i64) eC).toArray 3)).cell? ⟨w.heap.size + 1, k, none⟩ = some (.int .i64 (101 + eI k)) := by
    refine hc.cell k ?_
    have h10 : k < eC.length := hk10
    rw [← eC_at k hk10]
    simp [List.getD, h10]
  have hK : Keeps Nil w ((w.alloc (.cells (eL p).toArray 28)).alloc (.cells (List.map (Value.int .i64) eC).toArray 3)) := ((Keeps.refl Nil w).alloc _).alloc _
  generalize (w.alloc (.cells (eL p).toArray 28)).alloc (.cells (List.map (Value.int .i64) eC).toArray 3) = wz at *
  have HK := Lib.hid hk
  clear hb hc hk HN g0 g1 g2 g3 g4 g5 g6 g8 g9 g13
  have hk0 : (0 : Int) ≤ k := by omega
  unfold errV at c1
  go_wp2_with fail
  go_quiet (fail)
  go_wp2_with fail
  go_ret2
  exact ⟨by rw [HK.out]; rfl, hK.drewN _⟩
end Go.Proofs.YtdkfhfflhglmaaaDoor
