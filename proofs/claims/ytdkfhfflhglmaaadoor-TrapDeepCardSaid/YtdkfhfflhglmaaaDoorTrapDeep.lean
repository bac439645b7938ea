/-
  The law TrapDeep's walk.
-/
import Derived.Test.YtdkfhfflhglmaaaDoorTrapCaught
import Derived.Test.YtdkfhfflhglmaaaDoorVars
namespace Go.Proofs.YtdkfhfflhglmaaaDoor
open Go.RowKit

theorem Tryd.strErrNot (x : Value) : NotThrown (.iface 10 x) := fun _ => by kernel_rfl

set_option maxRecDepth 20000 in
set_option maxHeartbeats 800000 in
theorem tryNil_walk {w : World} {x6 : Value} (h6 : w.cell? ⟨6, 0, none⟩ = some x6) (hx : ∃ u v, x6 = .iface u v) :
    Calls Tryd.prog 67 #[.nilFunc] w fun e w' => e = .returned x6 ∧ Keeps Nil w w' := by
  obtain ⟨u6, v6, rfl⟩ := hx
  have hmf : ∀ (fn : Fn) (first cap : Array Value) (w : World), (Instr.makeFunc fn first cap).run Tryd.prog w = .ok (.func fn first cap) w := fun _ _ _ _ => rfl
  have h6' : (w.alloc (.cells #[.nilIface] 28)).cell? ⟨6, 0, none⟩ = some (.iface u6 v6) := ((Keeps.refl Nil w).alloc _).cell h6 (fun h => h)
  have hB : Blk (w.alloc (.cells #[.iface u6 v6] 28)) w.heap.size [.iface u6 v6] 28 := Blk.new w [.iface u6 v6] 28
  have hk : Keeps Nil w (w.alloc (.cells #[.iface u6 v6] 28)) := (Keeps.refl Nil w).alloc _
  go_enter_defers Tryd.func67, Tryd.ntmps67
  go_wp2_with fail
  refine leaves_cons (f := 94) (args := #[.pointer (some ⟨w.heap.size, 0, none⟩)]) (by simp) (by simp [go_sem]) ?_
  refine (catch_other w.heap.size (.iface u6 v6) _ (caughtM _) (fell _) 28 _ (found_fell _) hB (Tryd.strErrNot _)).mono ?_
  rintro e u' w'' ⟨rfl, rfl, hb3, hk3⟩
  have c3 := hb3.cell 0 (v := .iface u6 v6) rfl
  simp [settle_caught, Leaves, results, Tryd.results67, go_sem, c3]
  exact hk.step hk3 (fun i hi => .inr (Nat.le_of_eq hi.symm))

/-- The closure's variables. -/
structure Deep (w : World) (ga ge gi gs gg : Nat) (at_ : Int) (v : Value) (s : Nat) (again : Bool) : Prop where
  at_ : Blk w ga [.int .i64 at_] 3
  err : Blk w ge [v] 28
  fn : Blk w gi [.func (.func 78) #[] #[.pointer (some ⟨ga, 0, none⟩), .pointer (some ⟨ge, 0, none⟩), .pointer (some ⟨gi, 0, none⟩), .pointer (some ⟨gs, 0, none⟩), .pointer (some ⟨gg, 0, none⟩)]] 44
  steps : Blk w gs [.int .i64 s] 3
  again : Blk w gg [.bool again] 4
  ne : gs ≠ ga ∧ gs ≠ ge ∧ gs ≠ gi ∧ gs ≠ gg
theorem Deep.keep {w w' : World} {ga ge gi gs gg : Nat} {at_ : Int} {v : Value} {s : Nat} {again : Bool} (x : Deep w ga ge gi gs gg at_ v s again) (hk : Keeps Nil w w') : Deep w' ga ge gi gs gg at_ v s again :=
  ⟨x.at_.keep0 hk, x.err.keep0 hk, x.fn.keep0 hk, x.steps.keep0 hk, x.again.keep0 hk, x.ne⟩
theorem Deep.keepS {w w' : World} {ga ge gi gs gg : Nat} {at_ : Int} {v : Value} {s s' : Nat} {again : Bool} (x : Deep w ga ge gi gs gg at_ v s again) (hk : Keeps (One gs) w w') (hs : Blk w' gs [.int .i64 s'] 3) : Deep w' ga ge gi gs gg at_ v s' again :=
  ⟨x.at_.keep hk (fun e => x.ne.1 e.symm), x.err.keep hk (fun e => x.ne.2.1 e.symm), x.fn.keep hk (fun e => x.ne.2.2.1 e.symm), hs, x.again.keep hk (fun e => x.ne.2.2.2 e.symm), x.ne⟩

/-- How a call of depth k ends. -/
def DeepEnd (at_ : Int) (v : Value) (again : Bool) (k : Nat) (w : World) (e : Ending) (w' : World) : Prop :=
  ((k = 0 ∨ again = true) ∧ ∃ g, e = .panicked (chainOf (thrownV (.iface 96 (.pointer (some ⟨g, 0, none⟩))))) ∧ Blk w' g [.int .i64 at_, v] 98 ∧ w.heap.size ≤ g) ∨ ((k ≠ 0 ∧ again = false) ∧ e = .returned (.tuple #[]))
def DeepPost (gs : Nat) (at_ : Int) (v : Value) (s : Nat) (again : Bool) (k : Nat) (w : World) (e : Ending) (w' : World) : Prop :=
  DeepEnd at_ v again k w e w' ∧ Blk w' gs [.int .i64 (s + k : Nat)] 3 ∧ Keeps (One gs) w w'
/-- What Try tells of it. -/
def DeepTold (at_ : Int) (v : Value) (again : Bool) (k n : Nat) (r : Value) (w' : World) : Prop :=
  ((k = 0 ∨ again = true) ∧ ∃ g, r = .iface 96 (.pointer (some ⟨g, 0, none⟩)) ∧ Blk w' g [.int .i64 at_, v] 98 ∧ n ≤ g) ∨ ((k ≠ 0 ∧ again = false) ∧ r = .nilIface)
theorem DeepTold.keep {at_ : Int} {v : Value} {again : Bool} {k n b : Nat} {r : Value} {w w' : World} (h : DeepTold at_ v again k n r w) (hk : Keeps (One b) w w') (hb : b < n) : DeepTold at_ v again k n r w' := by
  rcases h with ⟨h1, g, h2, h3, h4⟩ | h
  · exact .inl ⟨h1, g, h2, h3.keep hk (fun e => by have : g = b := e; omega), h4⟩
  · exact .inr h

/-- Try over a call of depth k: what it tells, and the steps. -/
theorem deepTry_walk {w0 w : World} {p : Nat → Addr} (hE : Errs w0 p) (h0 : Keeps Nil w0 w) (F : FuncId) (cap : Array Value) (hF : ∀ w, (callFunc F cap).run Tryd.prog w = .ok (.enter F cap) w) (ga ge gi gs gg : Nat) (at_ : Int) (v : Value) (s k : Nat) (again : Bool) (hv : Deep w ga ge gi gs gg at_ v s again)
    (h : ∀ w1, Keeps Nil w w1 → Calls Tryd.prog F cap w1 (DeepPost gs at_ v s again k w1)) :
    Calls Tryd.prog 67 #[.func (.func F) #[] cap] w fun e w' => ∃ r, e = .returned r ∧ DeepTold at_ v again k (w.heap.size + 1) r w' ∧ Deep w' ga ge gi gs gg at_ v (s + k) again ∧ Keeps (One gs) w w' := by
  have hlt := hv.steps.lt
  refine (try_walk F cap w hF ((hE.keep h0).at_ 5 (by decide)) ⟨_, _, rfl⟩ (S := One gs) (fun k hk => by rw [show k = gs from hk]; exact hlt)
    (R := fun r w2 => DeepTold at_ v again k (w.heap.size + 1) r w2 ∧ Blk w2 gs [.int .i64 (s + k : Nat)] 3) (fun w1 h1 hl1 => (h w1 h1).mono ?_)).mono ?_
  · rintro e w2 ⟨hend, hb, hk⟩
    rcases hend with ⟨h2, g, rfl, hg, hge⟩ | ⟨h2, rfl⟩
    · exact ⟨_, .inr (.inl ⟨_, _, rfl, rfl⟩), hk, .inl ⟨h2, g, rfl, hg, by omega⟩, hb⟩
    · exact ⟨_, .inl ⟨rfl, rfl⟩, hk, .inr ⟨h2, rfl⟩, hb⟩
  · rintro e w5 ⟨r, w4, rfl, ⟨hT, hB⟩, hk4, hk5⟩
    exact ⟨r, rfl, hT.keep hk4 (Nat.lt_succ_self _), hv.keepS hk5 (hB.keep hk4 (fun e => by have : gs = w.heap.size := e; omega)), hk5⟩

set_option maxRecDepth 20000 in
set_option maxHeartbeats 1600000 in
theorem deep_walk {w0 : World} {p : Nat → Addr} (hE : Errs w0 p) (ga ge gi gs gg ek : Nat) (hek : ek < 19) (hgs : w0.heap.size ≤ gs) (at_ : Int) (again : Bool) (k : Nat) : ∀ (hk : k ≤ 100) (s : Nat) (hs : s ≤ 100) (w : World), Keeps Nil w0 w → Deep w ga ge gi gs gg at_ (errV p ek) s again →
    Calls Tryd.prog 78 #[.int .i64 k, .pointer (some ⟨ga, 0, none⟩), .pointer (some ⟨ge, 0, none⟩), .pointer (some ⟨gi, 0, none⟩), .pointer (some ⟨gs, 0, none⟩), .pointer (some ⟨gg, 0, none⟩)] w (DeepPost gs at_ (errV p ek) s again k w) := by
  induction k with
  | zero =>
    intro hk s hs w h0 hv
    have hka : Keeps Nil w (w.alloc (.cells #[.int .i64 0] 3)) := (Keeps.refl Nil w).alloc _
    have hv1 := hv.keep hka
    have ca := hv1.at_.cell 0 (v := .int .i64 at_) rfl
    have ce := hv1.err.cell 0 (v := errV p ek) rfl
    unfold errV at ce
    go_enter Tryd.func78, Tryd.ntmps78
    go_wp2_with fail
    refine (fail_err _ _ _ _).mono ?_
    rintro e w2 ⟨g, rfl, hbk, hge, hk3⟩
    go_wp2
    exact ⟨rfl, .inl ⟨.inl rfl, g, rfl, hbk, Nat.le_trans hka.size hge⟩, hv1.steps.keep0 hk3, (hka.trans hk3).nil⟩
  | succ k ih =>
    intro hk s hs w h0 hv
    have hmf : ∀ (fn : Fn) (first cap : Array Value) (w : World), (Instr.makeFunc fn first cap).run Tryd.prog w = .ok (.func fn first cap) w := fun _ _ _ _ => rfl
    have hka : Keeps Nil w (w.alloc (.cells #[.int .i64 (k + 1 : Nat)] 3)) := (Keeps.refl Nil w).alloc _
    have hbk : Blk (w.alloc (.cells #[.int .i64 (k + 1 : Nat)] 3)) w.heap.size [.int .i64 (k + 1 : Nat)] 3 := Blk.new w [.int .i64 (k + 1 : Nat)] _
    have hv1 := hv.keep hka
    have hlt := hv1.steps.lt
    have hne0 : (((k + 1 : Nat) : Int) == 0) = false := by rw [beq_eq_false_iff_ne]; omega
    have hk1 : ((k + 1 : Nat) : Int) - 1 = k := by omega
    have hcast : (((s + k : Nat) : Int) + 1) = ((s + (k + 1) : Nat) : Int) := by omega
    have hin : ∀ w1, Keeps Nil (w.alloc (.cells #[.int .i64 (k + 1 : Nat)] 3)) w1 → Calls Tryd.prog 79 #[.pointer (some ⟨gi, 0, none⟩), .pointer (some ⟨w.heap.size, 0, none⟩)] w1 (DeepPost gs at_ (errV p ek) s again k w1) := by
      intro w1 hk1
      have hv2 := hv1.keep hk1
      have ci := hv2.fn.cell 0 rfl
      have ck := (hbk.keep0 hk1).cell 0 (v := .int .i64 (k + 1 : Nat)) rfl
      have HI := Lib.hid (ih (by omega) s hs w1 (h0.trans (hka.trans hk1)) hv2)
      have hF : ∀ w, (callFunc 78 #[.int .i64 k, .pointer (some ⟨ga, 0, none⟩), .pointer (some ⟨ge, 0, none⟩), .pointer (some ⟨gi, 0, none⟩), .pointer (some ⟨gs, 0, none⟩), .pointer (some ⟨gg, 0, none⟩)]).run Tryd.prog w = .ok (.enter 78 #[.int .i64 k, .pointer (some ⟨ga, 0, none⟩), .pointer (some ⟨ge, 0, none⟩), .pointer (some ⟨gi, 0, none⟩), .pointer (some ⟨gs, 0, none⟩), .pointer (some ⟨gg, 0, none⟩)]) w := fun _ => by kernel_rfl
      clear ih hv hv1 hne0 hcast hv2
      generalize hkk : ((k + 1 : Nat) : Int) = kk at *
      go_enter Tryd.func79, Tryd.ntmps79
      go_wp2_with fail
      refine HI.out.mono ?_
      rintro e w2 ⟨hend, hb, hk⟩
      rcases hend with ⟨h2, g, rfl, hg, hge⟩ | ⟨h2, rfl⟩
      · go_wp2
        exact ⟨rfl, .inl ⟨h2, g, rfl, hg, hge⟩, hb, hk⟩
      · go_wp2
        go_end0
        exact ⟨.inr ⟨h2, rfl⟩, hb, hk⟩
    have HT := Lib.hid (deepTry_walk hE (h0.trans hka) 79 #[.pointer (some ⟨gi, 0, none⟩), .pointer (some ⟨w.heap.size, 0, none⟩)] (fun _ => by kernel_rfl) ga ge gi gs gg at_ (errV p ek) s k again hv1 hin)
    have HC := Lib.hid hcast
    clear ih hin hcast
    generalize hkk : ((k + 1 : Nat) : Int) = kk at *
    go_enter Tryd.func78, Tryd.ntmps78
    go_wp2_with fail
    refine HT.out.mono ?_
    rintro e w2 ⟨r, rfl, hT, hv2, hk2⟩
    have cs := hv2.steps.cell 0 (v := .int .i64 (s + k : Nat)) rfl
    have zs := hv2.steps.frozen 0
    have cg := hv2.again.cell 0 (v := .bool again) rfl
    have hkw := hka.nil.trans hk2
    obtain ⟨sk, hsk⟩ : ∃ sk : Int, sk = ((s + k : Nat) : Int) := ⟨_, rfl⟩
    rw [← hsk] at cs
    have hsk1 : sk + 1 = ((s + (k + 1) : Nat) : Int) := by rw [hsk]; exact HC.out
    have hb3 := hv2.steps.set 0 (.int .i64 (sk + 1))
    have hkw3 := hkw.setOne 0 (.int .i64 (sk + 1))
    have hk3 : Keeps (One gs) w2 (w2.setCell ⟨gs, 0, none⟩ (.int .i64 (sk + 1))) := (Keeps.refl (One gs) w2).setOne 0 _
    have hgl : gs < (w.alloc (.cells #[.int .i64 kk] 3)).heap.size + 1 := by omega
    have hT3 := hT.keep hk3 hgl
    have hszw : w.heap.size ≤ (w.alloc (.cells #[.int .i64 kk] 3)).heap.size := hka.size
    have hsk2 : 0 ≤ sk := by omega
    have hsk3 : sk ≤ 300 := by omega
    have hne : ¬ gg = gs := fun e => hv2.ne.2.2.2 e.symm
    have HS := Lib.hid hsk1
    clear hT hk2 hv2 hka hbk hv1 hk3 hsk hsk1
    cases again with
    | true =>
      rcases hT3 with ⟨_, g, rfl, hg, hge⟩ | ⟨⟨_, h⟩, _⟩
      · go_wp2_with fail
        refine (must_err _ _ _).mono ?_
        rintro e w3 ⟨rfl, rfl⟩
        go_wp2
        refine ⟨rfl, .inl ⟨.inr rfl, g, rfl, hg, by omega⟩, ?_, hkw3⟩
        rw [← HS.out]
        exact hb3
      · cases h
    | false =>
      go_wp2_with fail
      go_end0
      refine ⟨.inr ⟨⟨Nat.succ_ne_zero k, rfl⟩, rfl⟩, ?_, hkw3⟩
      rw [← HS.out]
      exact hb3

/-- The variables of nested, each in a new block. -/
def deepWorld (w : World) (d : Nat) (at_ : Int) (again : Bool) (v : Value) : World :=
  (((((w.alloc (.cells #[.int .i64 d] 3)).alloc (.cells #[.int .i64 at_] 3)).alloc (.cells #[.bool again] 4)).alloc (.cells #[v] 28)).alloc (.cells #[.int .i64 0] 3)).alloc
    (.cells #[.func (.func 78) #[] #[.pointer (some ⟨w.heap.size + 1, 0, none⟩), .pointer (some ⟨w.heap.size + 1 + 1 + 1, 0, none⟩), .pointer (some ⟨w.heap.size + 1 + 1 + 1 + 1 + 1, 0, none⟩), .pointer (some ⟨w.heap.size + 1 + 1 + 1 + 1, 0, none⟩), .pointer (some ⟨w.heap.size + 1 + 1, 0, none⟩)]] 44)
theorem deepWorld_is (w : World) (d : Nat) (at_ : Int) (again : Bool) (v : Value) :
    Deep (deepWorld w d at_ again v) (w.heap.size + 1) (w.heap.size + 1 + 1 + 1) (w.heap.size + 1 + 1 + 1 + 1 + 1) (w.heap.size + 1 + 1 + 1 + 1) (w.heap.size + 1 + 1) at_ v 0 again ∧ Blk (deepWorld w d at_ again v) w.heap.size [.int .i64 d] 3 ∧ Keeps Nil w (deepWorld w d at_ again v) := by
  have h := (((((Has.nil w).cons [.int .i64 d] 3 rfl).cons [.int .i64 at_] 3 (n := w.heap.size + 1) (by simp [size_alloc'])).cons [.bool again] 4 (n := w.heap.size + 1 + 1) (by simp [size_alloc'])).cons [v] 28 (n := w.heap.size + 1 + 1 + 1) (by simp [size_alloc'])).cons [.int .i64 0] 3 (n := w.heap.size + 1 + 1 + 1 + 1) (by simp [size_alloc'])
  have h2 := h.cons [.func (.func 78) #[] #[.pointer (some ⟨w.heap.size + 1, 0, none⟩), .pointer (some ⟨w.heap.size + 1 + 1 + 1, 0, none⟩), .pointer (some ⟨w.heap.size + 1 + 1 + 1 + 1 + 1, 0, none⟩), .pointer (some ⟨w.heap.size + 1 + 1 + 1 + 1, 0, none⟩), .pointer (some ⟨w.heap.size + 1 + 1, 0, none⟩)]] 44 (n := w.heap.size + 1 + 1 + 1 + 1 + 1) (by simp [size_alloc'])
  exact ⟨⟨h2.at 4 rfl, h2.at 2 rfl, h2.at 0 rfl, h2.at 1 rfl, h2.at 3 rfl, by omega⟩, h2.at 5 rfl, (((((((Keeps.refl Nil w).alloc _).alloc _).alloc _).alloc _).alloc _).alloc _)⟩

set_option maxRecDepth 20000 in
set_option maxHeartbeats 1600000 in
theorem nested_walk {w : World} {p : Nat → Addr} (hE : Errs w p) (deep ek : Nat) (at_ : Int) (again : Bool) (hek : ek < 19) (hd : deep ≤ 20) (hd1 : 1 ≤ deep) :
    Calls Tryd.prog 24 #[.int .i64 deep, .int .i64 (101 + ek), .int .i64 at_, .bool again, errV p ek] w (TrueT w) := by
  have hmf : ∀ (fn : Fn) (first cap : Array Value) (w : World), (Instr.makeFunc fn first cap).run Tryd.prog w = .ok (.func fn first cap) w := fun _ _ _ _ => rfl
  obtain ⟨hV, hD, hk0⟩ := deepWorld_is w deep at_ again (errV p ek)
  have hst : ∀ (w : World) (a : Addr) (f : Fn) (x y : Array Value), (store a (.func f x y)).run Tryd.prog w = stored Tryd.prog w a (.func f x y) .plain := fun w a f x y => run_store Tryd.prog w a _ _ rfl
  go_enter Tryd.func24, Tryd.ntmps24
  go_wp2_with fail
  change Calls _ _ _ (deepWorld w deep at_ again (errV p ek)) _
  generalize deepWorld w deep at_ again (errV p ek) = wv at *
  have hgs : w.heap.size ≤ w.heap.size + 1 + 1 + 1 + 1 := by omega
  have hgs2 : w.heap.size ≠ w.heap.size + 1 + 1 + 1 + 1 := by omega
  generalize w.heap.size + 1 + 1 + 1 + 1 + 1 = gi at *
  generalize w.heap.size + 1 + 1 + 1 + 1 = gs at *
  generalize w.heap.size + 1 + 1 + 1 = ge at *
  generalize w.heap.size + 1 + 1 = gg at *
  generalize w.heap.size + 1 = ga at *
  generalize hgd : w.heap.size = gd at *
  have hin : ∀ w1, Keeps Nil wv w1 → Calls Tryd.prog 80 #[.pointer (some ⟨gi, 0, none⟩), .pointer (some ⟨gd, 0, none⟩)] w1 (DeepPost gs at_ (errV p ek) 0 again deep w1) := by
    intro w1 hk1
    have hv2 := hV.keep hk1
    have ci := hv2.fn.cell 0 rfl
    have ck := (hD.keep0 hk1).cell 0 (v := .int .i64 (deep : Nat)) rfl
    have HI := Lib.hid (deep_walk hE ga ge gi gs gg ek hek (by omega) at_ again deep (by omega) 0 (by omega) w1 (hk0.trans hk1) hv2)
    have hF : ∀ w, (callFunc 78 #[.int .i64 deep, .pointer (some ⟨ga, 0, none⟩), .pointer (some ⟨ge, 0, none⟩), .pointer (some ⟨gi, 0, none⟩), .pointer (some ⟨gs, 0, none⟩), .pointer (some ⟨gg, 0, none⟩)]).run Tryd.prog w = .ok (.enter 78 #[.int .i64 deep, .pointer (some ⟨ga, 0, none⟩), .pointer (some ⟨ge, 0, none⟩), .pointer (some ⟨gi, 0, none⟩), .pointer (some ⟨gs, 0, none⟩), .pointer (some ⟨gg, 0, none⟩)]) w := fun _ => by kernel_rfl
    clear hV hv2 hD
    go_enter Tryd.func80, Tryd.ntmps80
    go_wp2_with fail
    refine HI.out.mono ?_
    rintro e w2 ⟨hend, hb, hk⟩
    rcases hend with ⟨h2, g, rfl, hg, hge⟩ | ⟨h2, rfl⟩
    · go_wp2
      exact ⟨rfl, .inl ⟨h2, g, rfl, hg, hge⟩, hb, hk⟩
    · go_wp2
      go_end0
      exact ⟨.inr ⟨h2, rfl⟩, hb, hk⟩
  refine (deepTry_walk hE hk0 80 #[.pointer (some ⟨gi, 0, none⟩), .pointer (some ⟨gd, 0, none⟩)] (fun _ => by kernel_rfl) ga ge gi gs gg at_ (errV p ek) 0 deep again hV hin).mono ?_
  rintro e w2 ⟨r, rfl, hT, hV2, hk2⟩
  have hk3 := hk0.step hk2 (fun i hi => .inr (by rw [show i = gs from hi]; omega))
  have hD2 := hD.keep hk2 hgs2
  clear hin hV hD hk0 hk2
  rw [Nat.zero_add] at hV2
  go_wp2_with fail
  refine (tryNil_walk ((hE.keep hk3).at_ 5 (by decide)) ⟨_, _, rfl⟩).mono ?_
  rintro e w4 ⟨rfl, hk4⟩
  have hV4 := hV2.keep hk4
  have hD4 := hD2.keep0 hk4
  have hT4 : DeepTold at_ (errV p ek) again deep (wv.heap.size + 1) r w4 := by
    rcases hT with ⟨h1, g, h2, h3, h4⟩ | h
    · exact .inl ⟨h1, g, h2, h3.keep0 hk4, h4⟩
    · exact .inr h
  have hk5 := hk3.trans hk4
  have cg := hV4.again.cell 0 (v := .bool again) rfl
  have ca := hV4.at_.cell 0 (v := .int .i64 at_) rfl
  have hiv : isV 106 false 0 106 = true := by decide
  have hI5 : ∀ w, IsErr w p (errV p 5) 106 false 0 := fun w => .inr (.inl ⟨5, by decide, rfl, rfl, rfl, rfl⟩)
  clear hT hV2 hD2 hk4 hk3
  cases again with
  | true =>
    rcases hT4 with ⟨_, g, rfl, hg, hge⟩ | ⟨⟨_, h⟩, _⟩
    · have HI5 := Lib.hid hI5
      clear hI5
      unfold errV
      go_wp2_with fail
      refine (placed_walk _ _ _ (by omega)).mono ?_
      rintro e w6 ⟨rfl, hk6⟩
      have hk7 := hk5.trans hk6
      go_wp2_with fail
      refine (same_walk (hE.keep hk7) (.inr (.inr ⟨g, ek, hek, rfl, hg.keep0 hk6, rfl, rfl⟩)) (101 + ek) true at_).mono ?_
      have hS : sameF (101 + ek) true at_ (101 + ek) true at_ = true := by simp [sameF]
      rw [hS]
      rintro e w8 ⟨rfl, hk8⟩
      have hk9 := hk7.trans hk8
      have cs := ((hV4.steps.keep0 hk6).keep0 hk8).cell 0 (v := .int .i64 deep) rfl
      have cd := ((hD4.keep0 hk6).keep0 hk8).cell 0 (v := .int .i64 deep) rfl
      clear hS hV4 hD4 hg ca
      go_wp2_with fail
      refine (is_walk (hE.keep hk9) (HI5.out _) 106).mono ?_
      rw [hiv]
      rintro e w10 ⟨rfl, hk10⟩
      go_wp2_with fail
      go_ret
      exact ⟨rfl, hk9.trans hk10⟩
    · cases h
  | false =>
    rcases hT4 with ⟨h | h, _⟩ | ⟨_, rfl⟩
    · omega
    · cases h
    · have HI5 := Lib.hid hI5
      have cs := hV4.steps.cell 0 (v := .int .i64 deep) rfl
      have cd := hD4.cell 0 (v := .int .i64 deep) rfl
      clear hI5 hV4 hD4
      unfold errV
      go_wp2_with fail
      refine (is_walk (hE.keep hk5) (HI5.out _) 106).mono ?_
      rw [hiv]
      rintro e w10 ⟨rfl, hk10⟩
      go_wp2_with fail
      go_ret
      exact ⟨rfl, hk5.trans hk10⟩

theorem trapDeepIn_walk {w : World} {p : Nat → Addr} (hE : Errs w p) (gd gc ga gg ge : Nat) (deep ek : Nat) (at_ : Int) (again : Bool) (hek : ek < 19) (hd : deep ≤ 20) (hd1 : 1 ≤ deep)
    (c1 : w.cell? ⟨gd, 0, none⟩ = some (.int .i64 deep)) (c2 : w.cell? ⟨gc, 0, none⟩ = some (.int .i64 (101 + ek))) (c3 : w.cell? ⟨ga, 0, none⟩ = some (.int .i64 at_)) (c4 : w.cell? ⟨gg, 0, none⟩ = some (.bool again)) (c5 : w.cell? ⟨ge, 0, none⟩ = some (errV p ek)) :
    Calls Tryd.prog 23 #[.pointer (some ⟨gd, 0, none⟩), .pointer (some ⟨gc, 0, none⟩), .pointer (some ⟨ga, 0, none⟩), .pointer (some ⟨gg, 0, none⟩), .pointer (some ⟨ge, 0, none⟩)] w (TrueT w) := by
  have HC := Lib.hid (nested_walk hE deep ek at_ again hek hd hd1)
  clear hE
  unfold errV at c5
  go_enter Tryd.func23, Tryd.ntmps23
  go_wp2_with fail
  refine HC.out.mono ?_
  rintro e w2 ⟨rfl, hk2⟩
  go_wp2_with fail
  go_ret
  exact ⟨rfl, hk2⟩

set_option maxRecDepth 20000 in
set_option maxHeartbeats 4000000 in
theorem trapDeep_walk (a0 a1 a2 : Int) (a3 : Bool) (w : World) (w0 : (Lit.int .i64 a0).wf = true) (w1 : (Lit.int .i64 a1).wf = true) (_w2 : (Lit.int .i64 a2).wf = true) {p : Nat → Addr} (hE : Errs w p) :
    Calls Tryd.prog 5 #[.int .i64 a0, .int .i64 a1, .int .i64 a2, .bool a3] w (TrueT w) := by
  have hmf : ∀ (fn : Fn) (first cap : Array Value) (w : World), (Instr.makeFunc fn first cap).run Tryd.prog w = .ok (.func fn first cap) w := fun _ _ _ _ => rfl
  have r0 := i64_wf w0
  have r1 := i64_wf w1
  clear w0 w1
  have hV := (((Has.nil w).cons [.int .i64 a0] 3 rfl).cons [.int .i64 a2] 3 (n := w.heap.size + 1) (by simp [size_alloc'])).cons [.bool a3] 4 (n := w.heap.size + 1 + 1) (by simp [size_alloc'])
  have hk0 : Keeps Nil w (((w.alloc (.cells #[.int .i64 a0] 3)).alloc (.cells #[.int .i64 a2] 3)).alloc (.cells #[.bool a3] 4)) := (((Keeps.refl Nil w).alloc _).alloc _).alloc _
  go_enter Tryd.func5, Tryd.ntmps5
  go_wp2_with fail
  generalize ((w.alloc (.cells #[.int .i64 a0] 3)).alloc (.cells #[.int .i64 a2] 3)).alloc (.cells #[.bool a3] 4) = wv at *
  generalize w.heap.size + 1 + 1 = gg at *
  generalize w.heap.size + 1 = ga at *
  generalize hgd : w.heap.size = gd at *
  refine (trapfirst_walk (hE.keep hk0)).mono ?_
  rintro e wa ⟨rfl, hka⟩
  have hV1 := hV.keep0 hka
  have hk1 := hk0.trans hka
  clear hV hk0 hka
  have cd := (hV1.at 2 rfl).cell 0 (v := .int .i64 a0) rfl
  have zd := (hV1.at 2 rfl).frozen 0
  go_wp2_with fail
  refine (number_walk a0 20 _ (by omega) (by omega) (by omega) (by omega)).mono ?_
  rintro e wb ⟨rfl, rfl⟩
  have hb0 : 0 ≤ a0 % 20 := Int.emod_nonneg _ (by omega)
  have hb1 : a0 % 20 < 20 := Int.emod_lt_of_pos _ (by omega)
  generalize a0 % 20 = dd at *
  obtain ⟨d, rfl⟩ := Int.eq_ofNat_of_zero_le hb0
  have hV2 := hV1.set 2 rfl 0 (.int .i64 ((d : Int) + 1))
  have hk2 := hk1.setCell (p := ⟨gd, 0, none⟩) (.inr (by rw [hgd]; exact Nat.le_refl _)) (.int .i64 ((d : Int) + 1))
  clear hV1 hk1
  go_wp2_with fail
  generalize wa.setCell ⟨gd, 0, none⟩ (.int .i64 ((d : Int) + 1)) = wc at *
  refine (errs_walk (hE.keep hk2) a1 (by omega) (by omega)).mono ?_
  generalize (a1 % 10).toNat = kk
  rintro e wg ⟨rfl, hkg⟩
  have hV3 := hV2.keep0 hkg
  have hk3 := hk2.trans hkg
  clear hV2 hk2 hkg
  have hek := eI_lt kk
  generalize eI kk = ek at *
  have hsz := size_alloc wg (.cells #[errV p ek] 28)
  have hbe : Blk ((wg.alloc (.cells #[errV p ek] 28)).alloc (.cells #[.int .i64 (101 + ek)] 3)) wg.heap.size [errV p ek] 28 := (Blk.new wg [errV p ek] _).alloc _
  have hbc : Blk ((wg.alloc (.cells #[errV p ek] 28)).alloc (.cells #[.int .i64 (101 + ek)] 3)) (wg.heap.size + 1) [.int .i64 (101 + ek)] 3 := Blk.new' _ [.int .i64 (101 + ek)] _ hsz.symm
  have hka : Keeps Nil wg ((wg.alloc (.cells #[errV p ek] 28)).alloc (.cells #[.int .i64 (101 + ek)] 3)) := ((Keeps.refl Nil wg).alloc _).alloc _
  have hV5 := hV3.keep0 hka
  have hk5 := hk3.trans hka
  clear hV3 hk3 hka hsz
  have HX := Lib.hid (And.intro hbe (And.intro hbc hV5))
  clear hbe hbc hV5
  obtain ⟨D, hD1, hD2, hD3⟩ : ∃ D : Nat, (d : Int) + 1 = D ∧ 1 ≤ D ∧ D ≤ 20 := ⟨d + 1, by omega, by omega, by omega⟩
  have hmk : ∀ w0, w0 = (wg.alloc (.cells #[errV p ek] 28)).alloc (.cells #[.int .i64 (101 + ek)] 3) → Calls Tryd.prog 16 #[.func (.func 23) #[] #[.pointer (some ⟨gd, 0, none⟩), .pointer (some ⟨wg.heap.size + 1, 0, none⟩), .pointer (some ⟨ga, 0, none⟩), .pointer (some ⟨gg, 0, none⟩), .pointer (some ⟨wg.heap.size, 0, none⟩)]] w0 fun e w' => e = .returned (.bool true) ∧ Keeps Nil w0 w' := by
    rintro w0 rfl
    obtain ⟨hbe, hbc, hV⟩ := HX.out
    rw [hD1] at hV
    refine calm_walk 23 _ _ (fun _ => by kernel_rfl) true (fun w7 h7 => ?_)
    have hV7 := hV.keep0 h7
    exact trapDeepIn_walk (hE.keep (hk5.trans h7)) gd (wg.heap.size + 1) ga gg wg.heap.size D ek a2 a3 hek hD3 hD2
      ((hV7.at 2 rfl).cell 0 rfl) ((hbc.keep0 h7).cell 0 rfl) ((hV7.at 1 rfl).cell 0 rfl) ((hV7.at 0 rfl).cell 0 rfl) ((hbe.keep0 h7).cell 0 rfl)
  have HM := Lib.hid hmk
  clear hmk HX
  unfold errV at HM hk5 ⊢
  go_wp2_with fail
  refine (HM.out _ rfl).mono ?_
  rintro e w8 ⟨rfl, hk8⟩
  go_wp2_with fail
  go_ret
  exact ⟨rfl, hk5.trans hk8⟩
end Go.Proofs.YtdkfhfflhglmaaaDoor
