/-
  Package trap: what is thrown is caught. Must, Fail, Try by contracts; Try's kinds of end.
-/
import Derived.Test.YtdkfhfflhglmaaaDoorProg
import Derived.Test.YtdkfhfflhglmaaaDoorSee
import Derived.Defers
import Derived.Recover
import Derived.Lib.Hide
namespace Go.Proofs.YtdkfhfflhglmaaaDoor
set_option linter.unusedSimpArgs false
set_option linter.unusedVariables false
open Go.RowKit

/-- A deferred function whose first operation is recover: from there on it is walked as any other. -/
theorem wpS_start {P : Program} {Q : Exit → Act → List Frame → World → Prop} {a : Act} {cs : List Frame} {w : World} {id : Nat} {o0 : Oper} {l : List Oper} {y : Code} {v : Value} {cs' : List Frame} {Q1 : Exit → Act → World → Prop} (hQ : ∀ e a w, Q1 e a w → Q e a cs' w)
    (hw : Region.wanted o0 (yielded (o0 :: l).toArray a.tmps) = true) (hrun : (execOp a.eval o0).run P w = .ok .recover w)
    (hr : (recoverD cs = some (v, cs')) ∨ (recoverD cs = none ∧ v = .nilIface ∧ cs' = cs))
    (h : wpList P (o0 :: l).toArray (Exit.then (y.wp P Q1) Q1) l (a.put o0.dst v) w) :
    (Code.seq (Code.region id (o0 :: l).toArray false) y).wpS P Q a cs w := by
  intro b k hb hro
  have hx : wpOps P (o0 :: l).toArray (Exit.then (y.wp P Q1) Q1) (List.range' 1 l.length) (a.put o0.dst v) w := by
    rw [wpOps_eq_wpList l 1 (fun j => by simp [Nat.add_comm 1 j])]
    exact h
  obtain ⟨e, a', w', hq, harr⟩ := wp_ops _ _ _ hx b (.code y :: k) cs'
  have hrange : List.range (o0 :: l).toArray.size = 0 :: List.range' 1 l.length := by
    rw [List.range_eq_range']
    simp [List.range'_succ]
  have h1 : step P (lone (b.at a (.inRegion (o0 :: l).toArray (0 :: List.range' 1 l.length) :: .code y :: k)) cs w) = .next (lone (b.at (a.put o0.dst v) (.inRegion (o0 :: l).toArray (List.range' 1 l.length) :: .code y :: k)) cs' w) := by
    have hg := stepG_op (P := P) (b := b) (a := a) (k := .code y :: k) (cs := cs) (w := w) (ops := (o0 :: l).toArray) (i := 0) (rest := List.range' 1 l.length) (by simp) hw
    have hfin : ∀ v, (b.at a (.inRegion (o0 :: l).toArray (0 :: List.range' 1 l.length) :: .code y :: k)).finish v = b.at (a.put o0.dst v) (.inRegion (o0 :: l).toArray (List.range' 1 l.length) :: .code y :: k) := by
      intro v; rw [Frame.finish_at]; rfl
    have htr := tryRecover_deferred (fr := b.at a (.inRegion (o0 :: l).toArray (0 :: List.range' 1 l.length) :: .code y :: k)) hb cs
    refine step_lone_go ?_
    rw [hg, ← hfin]
    simp only [Frame.at] at htr ⊢
    rcases hr with hr | ⟨hr, rfl, rfl⟩
    · simp [stepG.apply, hrun, htr, hr]
    · simp [stepG.apply, hrun, htr, hr]
  have h2 : Steps P (lone (b.at a (.code (.seq (.region id (o0 :: l).toArray false) y) :: k)) cs w) (lone (b.at (a.put o0.dst v) (.inRegion (o0 :: l).toArray (List.range' 1 l.length) :: .code y :: k)) cs' w) := by
    refine .head step_seq (.head step_region ?_)
    rw [hrange]
    exact .one h1
  cases e with
  | normal =>
    obtain ⟨e₂, a₂, w₂, hq₂, harr₂⟩ := hq b k cs'
    exact ⟨e₂, a₂, cs', w₂, hQ _ _ _ hq₂, .of_steps (Steps.trans h2 harr) harr₂⟩
  | exit id => exact ⟨_, a', cs', w', hQ _ _ _ hq, .of_steps h2 (.pass (x := .code y) rfl (fun _ _ => .inl (by simp)) harr)⟩
  | goto l => exact ⟨_, a', cs', w', hQ _ _ _ hq, .of_steps h2 (.pass (x := .code y) rfl (fun _ _ => .inl (by simp)) harr)⟩
  | ret => exact ⟨_, a', cs', w', hQ _ _ _ hq, .of_steps h2 (.pass (x := .code y) rfl (fun _ _ => .inl (by simp)) harr)⟩
  | panic ch => exact ⟨_, a', cs', w', hQ _ _ _ hq, .of_steps h2 (.pass (x := .code y) rfl (fun _ _ => .inl (by simp)) harr)⟩
  | outgrown => exact ⟨_, a', cs', w', hQ _ _ _ hq, .of_steps h2 (.pass (x := .code y) rfl (fun _ _ => .inl (by simp)) harr)⟩

theorem bodyPostS_of {P : Program} {fn : Func} {c₀ : Frame} {cs : List Frame} {R : Ending → World → Prop} {u' : FrameMode} {e : Exit} {a : Act} {w : World}
    (h : bodyPost P fn R e a w) : bodyPostS P fn c₀ cs (fun e u w => u = u' ∧ R e w) e a ({ c₀ with mode := u' } :: cs) w := by
  cases e with
  | normal => obtain ⟨h1, v, h2, h3⟩ := h; exact ⟨h1, u', rfl, v, h2, rfl, h3⟩
  | ret => obtain ⟨h1, v, h2, h3⟩ := h; exact ⟨h1, u', rfl, v, h2, rfl, h3⟩
  | panic ch => obtain ⟨h1, h3⟩ := h; exact ⟨h1, u', rfl, rfl, h3⟩
  | outgrown => exact ⟨u', rfl, h⟩
  | exit id => exact h.elim
  | goto l => exact h.elim

/-- What recover finds in a frame's mode, and what it leaves. -/
def Found (u : FrameMode) (v : Value) (u' : FrameMode) : Prop :=
  (∃ older, u = .panicking ({ v := v, recovered := false } :: older) ∧ u' = .panicking ({ v := v, recovered := true } :: older)) ∨ (u = .returning ∧ v = .nilIface ∧ u' = .returning)

theorem callsD_recover {P : Program} {f : FuncId} {fn : Func} {id : Nat} {o0 : Oper} {l : List Oper} {y : Code} {args : Array Value} {u u' : FrameMode} {v : Value} {w : World} {R : Ending → World → Prop}
    (hf : P.funcs[f]? = some fn) (hb : fn.body = some (.seq (.region id (o0 :: l).toArray false) y))
    (hg : o0.guard = none) (ho : o0.op = .call { callee := .builtin .recover, args := #[], argTypes := #[] })
    (hm : Found u v u')
    (h : wpList P (o0 :: l).toArray (Exit.then (y.wp P (bodyPost P fn R)) (bodyPost P fn R)) l (({ tmps := args ++ Array.replicate (fn.ntmps - args.size) undef, defers := [] } : Act).put o0.dst v) w) :
    CallsD P f args u w fun e u'' w' => u'' = u' ∧ R e w' := by
  refine callsD_of_wpS hf hb fun c₀ cs hu => ?_
  refine wpS_start (v := v) (cs' := { c₀ with mode := u' } :: cs) (Q1 := bodyPost P fn R) (fun e a w h => bodyPostS_of h) (by simp [Region.wanted, hg]) ?_ ?_ h
  · unfold execOp
    simp only [ho]
    rfl
  · rcases hm with ⟨older, h1, h2⟩ | ⟨h1, h2, h3⟩
    · exact .inl (by simp [recoverD, hu, h1, h2])
    · refine .inr ⟨by simp [recoverD, hu, h1], h2, ?_⟩
      subst h3 h1
      cases c₀
      simp_all

/-- What is thrown: an error in its wrapper. -/
def thrownV (e : Value) : Value := .iface 111 (.agg #[e])
def chainOf (v : Value) : List PanicEntry := [{ v := v, recovered := false }]
/-- The mode of a frame that panics with a value; the same, recovered. -/
def fell (v : Value) : FrameMode := .panicking [{ v := v, recovered := false }]
def caughtM (v : Value) : FrameMode := .panicking [{ v := v, recovered := true }]
theorem settle_caught (v : Value) : settle (caughtM v) = .returning := rfl
theorem found_fell (v : Value) : Found (fell v) v (caughtM v) := .inl ⟨[], rfl, rfl⟩
theorem found_idle : Found .returning .nilIface .returning := .inr ⟨rfl, rfl, rfl⟩

theorem must_nil (w : World) : Calls Tryd.prog 71 #[.nilIface] w fun e w' => e = .returned (.tuple #[]) ∧ w = w' := by
  go_enter Tryd.func71, Tryd.ntmps71
  go_wp2
  go_end0
  exact ⟨rfl, rfl⟩
theorem must_err (u : TypeId) (v : Value) (w : World) : Calls Tryd.prog 71 #[.iface u v] w fun e w' => e = .panicked (chainOf (thrownV (.iface u v))) ∧ w = w' := by
  go_enter Tryd.func71, Tryd.ntmps71
  go_wp2
  simp [bodyPost, chainOf, thrownV]
/-- What Fail throws lies in a new block. -/
def FailPost (at_ : Int) (v : Value) (w : World) (e : Ending) (w' : World) : Prop :=
  ∃ g, e = .panicked (chainOf (thrownV (.iface 96 (.pointer (some ⟨g, 0, none⟩))))) ∧ Blk w' g [.int .i64 at_, v] 98 ∧ w.heap.size ≤ g ∧ Keeps Nil w w'
theorem fail_err (at_ : Int) (u : TypeId) (v : Value) (w : World) : Calls Tryd.prog 77 #[.int .i64 at_, .iface u v] w (FailPost at_ (.iface u v) w) := by
  go_enter Tryd.func77, Tryd.ntmps77
  go_wp2
  refine ⟨rfl, w.heap.size, rfl, Blk.new w [.int .i64 at_, .iface u v] 98, Nat.le_refl _, (Keeps.refl _ _).alloc _⟩
theorem fail_nil (at_ : Int) (u : TypeId) (v : Value) (w : World) (h6 : w.cell? ⟨6, 0, none⟩ = some (.iface u v)) : Calls Tryd.prog 77 #[.int .i64 at_, .nilIface] w (FailPost at_ (.iface u v) w) := by
  go_enter Tryd.func77, Tryd.ntmps77
  go_wp2
  refine ⟨rfl, w.heap.size, rfl, Blk.new w [.int .i64 at_, .iface u v] 98, Nat.le_refl _, (Keeps.refl _ _).alloc _⟩

theorem Tryd.isThrown (e : Value) (w : World) : (Instr.typeAssert (.iface 111 (.agg #[e])) 20 111 true).run Tryd.prog w = .ok (.tuple #[.agg #[e], .bool true]) w := by kernel_rfl
theorem Tryd.nilThrown (w : World) : (Instr.typeAssert .nilIface 20 111 true).run Tryd.prog w = .ok (.tuple #[.agg #[.nilIface], .bool false]) w := by kernel_rfl

set_option maxHeartbeats 400000 in
theorem catch_thrown (g : Nat) (x : Value) (u : TypeId) (v : Value) (T : TypeId) (w : World) (hb : Blk w g [x] T) :
    CallsD Tryd.prog 94 #[.pointer (some ⟨g, 0, none⟩)] (fell (thrownV (.iface u v))) w fun e u' w' =>
      u' = caughtM (thrownV (.iface u v)) ∧ e = .returned (.tuple #[]) ∧ Blk w' g [.iface u v] T ∧ Keeps (One g) w w' := by
  have hc := hb.cell 0 (v := x) rfl
  have hz := hb.frozen 0
  have hT := Tryd.isThrown (.iface u v)
  have hlt := hb.lt
  have hne : ¬ g = w.heap.size := by omega
  refine callsD_recover Tryd.func94 rfl rfl rfl (found_fell _) ?_
  unfold thrownV
  simp only [Tryd.ntmps94, List.size_toArray, List.length_cons, List.length_nil, Nat.reduceAdd, Nat.reduceSub, Array.replicate_succ,
     Array.replicate_zero, List.push_toArray, List.append_toArray, List.nil_append, List.cons_append, Act.put, List.setIfInBounds_toArray, List.set_cons_succ, List.set_cons_zero]
  go_wp2
  go_end0
  exact ⟨rfl, (hb.set 0 (.iface u v)).alloc _, ((Keeps.refl (One g) w).setOne 0 _).alloc _⟩
theorem catch_other (g : Nat) (x : Value) (v : Value) (u' : FrameMode) (m : FrameMode) (T : TypeId) (w : World) (hm : Found m v u') (hb : Blk w g [x] T)
    (hT : ∀ w, (Instr.typeAssert v 20 111 true).run Tryd.prog w = .ok (.tuple #[.agg #[.nilIface], .bool false]) w) :
    CallsD Tryd.prog 94 #[.pointer (some ⟨g, 0, none⟩)] m w fun e u'' w' =>
      u'' = u' ∧ e = .returned (.tuple #[]) ∧ Blk w' g [x] T ∧ Keeps (One g) w w' := by
  refine callsD_recover Tryd.func94 rfl rfl rfl hm ?_
  simp only [Tryd.ntmps94, List.size_toArray, List.length_cons, List.length_nil, Nat.reduceAdd, Nat.reduceSub, Array.replicate_succ,
     Array.replicate_zero, List.push_toArray, List.append_toArray, List.nil_append, List.cons_append, Act.put, List.setIfInBounds_toArray, List.set_cons_succ, List.set_cons_zero]
  go_wp2
  go_end0
  exact ⟨rfl, hb.alloc _, (Keeps.refl _ w).alloc _⟩

/-- What Try tells of what its function does. -/
def NotThrown (v : Value) : Prop := ∀ w, (Instr.typeAssert v 20 111 true).run Tryd.prog w = .ok (.tuple #[.agg #[.nilIface], .bool false]) w
def Tells (x6 : Value) (e : Ending) (r : Value) : Prop :=
  (e = .returned (.tuple #[]) ∧ r = .nilIface) ∨ (∃ u v, e = .panicked (chainOf (thrownV (.iface u v))) ∧ r = .iface u v) ∨ (∃ v, e = .panicked (chainOf v) ∧ NotThrown v ∧ r = x6)
def TryPost (S : Nat → Prop) (w : World) (R : Value → World → Prop) (e : Ending) (w' : World) : Prop :=
  ∃ r w2, e = .returned r ∧ R r w2 ∧ Keeps (One w.heap.size) w2 w' ∧ Keeps S w w'

set_option maxRecDepth 20000 in
set_option maxHeartbeats 800000 in
theorem try_walk (F : FuncId) (cap : Array Value) (w : World) (hF : ∀ w, (callFunc F cap).run Tryd.prog w = .ok (.enter F cap) w) {x6 : Value} (h6 : w.cell? ⟨6, 0, none⟩ = some x6) (hx : ∃ u v, x6 = .iface u v) {S : Nat → Prop} (hS : ∀ k, S k → k < w.heap.size) {R : Value → World → Prop}
    (h : ∀ w1, Keeps Nil w w1 → w.heap.size < w1.heap.size → Calls Tryd.prog F cap w1 fun e w2 => ∃ r, Tells x6 e r ∧ Keeps S w1 w2 ∧ R r w2) :
    Calls Tryd.prog 67 #[.func (.func F) #[] cap] w (TryPost S w R) := by
  obtain ⟨u6, v6, rfl⟩ := hx
  have hmf : ∀ (fn : Fn) (first cap : Array Value) (w : World), (Instr.makeFunc fn first cap).run Tryd.prog w = .ok (.func fn first cap) w := fun _ _ _ _ => rfl
  have h6' : (w.alloc (.cells #[.nilIface] 28)).cell? ⟨6, 0, none⟩ = some (.iface u6 v6) := ((Keeps.refl Nil w).alloc _).cell h6 (fun h => h)
  have H := Lib.hid h
  clear h
  go_enter_defers Tryd.func67, Tryd.ntmps67
  go_wp2_with fail
  refine (H.out _ ((Keeps.refl Nil w).alloc _) (Blk.new w [.iface u6 v6] 28).lt).mono ?_
  have hB : Blk (w.alloc (.cells #[.iface u6 v6] 28)) w.heap.size [.iface u6 v6] 28 := Blk.new w [.iface u6 v6] 28
  have hS0 : ¬ S w.heap.size := fun h => Nat.lt_irrefl _ (hS _ h)
  rintro e w2 ⟨r, hT, hk, hR⟩
  have hB2 := hB.keep hk hS0
  have c2 := hB2.cell 0 (v := .iface u6 v6) rfl
  have z2 := hB2.frozen 0
  have hkw : Keeps S w w2 := ((Keeps.refl S w).alloc _).trans hk
  rcases hT with ⟨rfl, rfl⟩ | ⟨u, v, rfl, rfl⟩ | ⟨v, rfl, hn, rfl⟩
  · go_wp2
    refine leaves_cons (f := 94) (args := #[.pointer (some ⟨w.heap.size, 0, none⟩)]) (by simp) (by simp [go_sem]) ?_
    refine (catch_other w.heap.size .nilIface .nilIface .returning .returning 28 _ found_idle (hB2.set 0 .nilIface) Tryd.nilThrown).mono ?_
    rintro e u' w'' ⟨rfl, rfl, hb3, hk3⟩
    have c3 := hb3.cell 0 (v := .nilIface) rfl
    have hkk : Keeps (One w.heap.size) w2 w'' := ((Keeps.refl (One w.heap.size) w2).setOne 0 _).trans hk3
    simp [Leaves, settle, results, Tryd.results67, go_sem, c3]
    exact ⟨_, w2, rfl, hR, hkk, hkw.step hkk (fun i hi => .inr (Nat.le_of_eq hi.symm))⟩
  · go_wp2
    refine leaves_cons (f := 94) (args := #[.pointer (some ⟨w.heap.size, 0, none⟩)]) (by simp) (by simp [go_sem]) ?_
    refine (catch_thrown w.heap.size (.iface u6 v6) u v 28 _ hB2).mono ?_
    rintro e u' w'' ⟨rfl, rfl, hb3, hk3⟩
    have c3 := hb3.cell 0 (v := .iface u v) rfl
    simp [settle_caught, Leaves, results, Tryd.results67, go_sem, c3]
    exact ⟨_, w2, rfl, hR, hk3, hkw.step hk3 (fun i hi => .inr (Nat.le_of_eq hi.symm))⟩
  · go_wp2
    refine leaves_cons (f := 94) (args := #[.pointer (some ⟨w.heap.size, 0, none⟩)]) (by simp) (by simp [go_sem]) ?_
    refine (catch_other w.heap.size (.iface u6 v6) v (caughtM v) (fell v) 28 _ (found_fell v) hB2 hn).mono ?_
    rintro e u' w'' ⟨rfl, rfl, hb3, hk3⟩
    have c3 := hb3.cell 0 (v := .iface u6 v6) rfl
    simp [settle_caught, Leaves, results, Tryd.results67, go_sem, c3]
    exact ⟨_, w2, rfl, hR, hk3, hkw.step hk3 (fun i hi => .inr (Nat.le_of_eq hi.symm))⟩
end Go.Proofs.YtdkfhfflhglmaaaDoor
