/-
  The law TrapCatches' walk.
-/
import Derived.Test.YtdkfhfflhglmaaaDoorTrapFirst
import Derived.RegionDies
import Derived.Lib.BoundsPanic
namespace Go.Proofs.YtdkfhfflhglmaaaDoor
open Go.RowKit

theorem Tryd.strNot (s : ByteArray) : NotThrown (.iface 9 (.string s)) := fun _ => by kernel_rfl
theorem Tryd.errNot (p : Nat → Addr) (k : Nat) : NotThrown (errV p k) := fun _ => by unfold errV; kernel_rfl

theorem Tryd.nilMap (w : World) : (Instr.mapUpdate 95 (.map none) (.string { data := #[97] }) (.int .i64 1)).run Tryd.prog w = .halt (.panic (.iface 11 (strVal "assignment to entry in nil map"))) w := by kernel_rfl

theorem Tryd.plainNot (x : Value) : NotThrown (.iface 11 x) := fun _ => by kernel_rfl
theorem Tryd.boundsNot (x : Value) : NotThrown (.iface 8 x) := fun _ => by kernel_rfl

theorem Tryd.rtBounds : Tryd.prog.rt.boundsError = 8 := by kernel_rfl
theorem Tryd.indexSmall (j : Nat) (w : World) (h : j ≤ 31) : (Instr.indexAt 22 (.slice none 0 0) (.int .i64 (j : Int))).run Tryd.prog w = .halt (.panic (.iface 8 (.agg #[.int .i64 (j : Int), .int .i64 0, .bool (w.tape w.drawn (.extern "runtime.boundsError.signed" 2) % 2 == 1), .int .u8 0]))) w.drew := by
  rw [Lib.run_indexAt_nil w _ _ 0 0 .i64 (j : Int) Tryd.underlying22, Lib.run_boundsPanic_index Tryd.prog (j : Int) 0 w (by omega) (by omega), Tryd.rtBounds]
theorem Tryd.indexBig (j : Nat) (w : World) (h : 31 < j) : (Instr.indexAt 22 (.slice none 0 0) (.int .i64 (j : Int))).run Tryd.prog w = .halt (.panic (.iface 8 (.agg #[.int .i64 (IntKind.i64.wrap (j : Int)), .int .i64 0, .bool true, .int .u8 0]))) w := by
  rw [Lib.run_indexAt_nil w _ _ 0 0 .i64 (j : Int) Tryd.underlying22]
  have h1 : ¬ ((j : Int) ≤ 31) := by omega
  simp [boundsPanic, runtimePanic, goPanic, h1, Tryd.rtBounds]
  rfl

/-- What is told, by what is done. -/
def toldC (how ek : Nat) : Int := if how = 2 then 0 else if how = 0 ∨ how = 1 ∨ how = 8 then 101 + ek else 106
def toldP (how : Nat) : Bool := how == 0 || how == 7 || how == 8
def toldQ (how : Nat) (at_ : Int) : Int := if toldP how then at_ else 0

/-- What the closure's variables hold. -/
structure Vars (w : World) (gb gd gh ga ge gf : Nat) (b d h : Nat) (at_ : Int) (v : Value) (f : Nat) : Prop where
  before : Blk w gb [.int .i64 b] 3
  done : Blk w gd [.int .i64 d] 3
  how : Blk w gh [.int .i64 h] 3
  at_ : Blk w ga [.int .i64 at_] 3
  err : Blk w ge [v] 28
  after : Blk w gf [.int .i64 f] 3
  ne : gd ≠ gb ∧ gd ≠ gh ∧ gd ≠ ga ∧ gd ≠ ge ∧ gd ≠ gf
theorem Vars.keep {w w' : World} {gb gd gh ga ge gf : Nat} {b d h : Nat} {at_ : Int} {v : Value} {f : Nat} (x : Vars w gb gd gh ga ge gf b d h at_ v f) (hk : Keeps Nil w w') : Vars w' gb gd gh ga ge gf b d h at_ v f :=
  ⟨x.before.keep0 hk, x.done.keep0 hk, x.how.keep0 hk, x.at_.keep0 hk, x.err.keep0 hk, x.after.keep0 hk, x.ne⟩
theorem Vars.put {w : World} {gb gd gh ga ge gf : Nat} {b d h : Nat} {at_ : Int} {v : Value} {f : Nat} (x : Vars w gb gd gh ga ge gf b d h at_ v f) (d' : Nat) : Vars (w.setCell ⟨gd, 0, none⟩ (.int .i64 d')) gb gd gh ga ge gf b d' h at_ v f := by
  have hk : Keeps (One gd) w (w.setCell ⟨gd, 0, none⟩ (.int .i64 d')) := (Keeps.refl (One gd) w).setOne 0 _
  exact ⟨x.before.keep hk (fun e => x.ne.1 e.symm), x.done.set 0 _, x.how.keep hk (fun e => x.ne.2.1 e.symm), x.at_.keep hk (fun e => x.ne.2.2.1 e.symm), x.err.keep hk (fun e => x.ne.2.2.2.1 e.symm), x.after.keep hk (fun e => x.ne.2.2.2.2 e.symm), x.ne⟩

theorem IsErr.lt {w : World} {p : Nat → Addr} {v : Value} {c : Int} {pl : Bool} {q : Int} (h : IsErr w p v c pl q) (bb : Nat) (hv : v = .iface 96 (.pointer (some ⟨bb, 0, none⟩))) : bb < w.heap.size := by
  rcases h with ⟨h, _⟩ | ⟨k, _, h, _⟩ | ⟨b, k, h1, h2, h3, h4⟩
  · rw [hv] at h; cases h
  · rw [hv] at h
    unfold errV at h
    injection h with h _
    exact absurd h (by decide)
  · rw [hv] at h2
    injection h2 with _ h2
    injection h2 with h2
    injection h2 with h2
    injection h2 with h2
    rw [h2]
    exact h3.lt
theorem IsErr.keepS {S : Nat → Prop} {w w' : World} {p : Nat → Addr} {v : Value} {c : Int} {pl : Bool} {q : Int} (h : IsErr w p v c pl q) (hk : Keeps S w w') (hn : ∀ bb, v = .iface 96 (.pointer (some ⟨bb, 0, none⟩)) → ¬ S bb) : IsErr w' p v c pl q := by
  rcases h with h | h | ⟨b, k, h1, h2, h3, h4⟩
  · exact .inl h
  · exact .inr (.inl h)
  · exact .inr (.inr ⟨b, k, h1, h2, h3.keep hk (hn b h2), h4⟩)
/-- An error with a place lies in a block that is new. -/
def FreshAt (w : World) (r : Value) : Prop := ∀ b, r = .iface 96 (.pointer (some ⟨b, 0, none⟩)) → w.heap.size ≤ b
theorem freshAt_err (w : World) (p : Nat → Addr) (k : Nat) : FreshAt w (errV p k) := fun b h => by
  unfold errV at h
  injection h with h _
  exact absurd h (by decide)
theorem freshAt_nil (w : World) : FreshAt w .nilIface := fun b h => by cases h
theorem freshAt_at {w : World} {g : Nat} (h : w.heap.size ≤ g) : FreshAt w (.iface 96 (.pointer (some ⟨g, 0, none⟩))) := fun b e => by
  injection e with _ e
  injection e with e
  injection e with e
  injection e with e
  omega
def InPost (p : Nat → Addr) (gd how ek b f : Nat) (at_ : Int) (w : World) (e : Ending) (w2 : World) : Prop :=
  ∃ r, Tells (errV p 5) e r ∧ Keeps (One gd) w w2 ∧ (Blk w2 gd [.int .i64 ((if how = 2 then b + f else b : Nat))] 3 ∧ IsErr w2 p r (toldC how ek) (toldP how) (toldQ how at_) ∧ FreshAt w r)

set_option maxRecDepth 20000 in
set_option maxHeartbeats 4000000 in
theorem caughtIn_walk {w0 w : World} {p : Nat → Addr} (hE : Errs w0 p) (h0 : Keeps Nil w0 w) (gb gd gh ga ge gf b how ek f : Nat) (at_ : Int) (hb : b < 50) (hf : f < 50) (hh : how < 9) (hek : ek < 19) (hgd : w0.heap.size ≤ gd)
    (hv : Vars w gb gd gh ga ge gf b 0 how at_ (errV p ek) f) :
    Calls Tryd.prog 76 #[.pointer (some ⟨gb, 0, none⟩), .pointer (some ⟨gd, 0, none⟩), .pointer (some ⟨gh, 0, none⟩), .pointer (some ⟨ga, 0, none⟩), .pointer (some ⟨ge, 0, none⟩), .pointer (some ⟨gf, 0, none⟩)] w (InPost p gd how ek b f at_ w) := by
  go_enter Tryd.func76, Tryd.ntmps76
  go_wp2_with fail
  go_loopw [6] (fun v wr => ∃ j : Nat, j ≤ b ∧ v = .int .i64 j ∧ Vars wr gb gd gh ga ge gf b j how at_ (errV p ek) f ∧ Hid (Keeps (One gd) w wr)) (fun v _ => b - (intOf v).toNat)
  case atStart => exact ⟨0, Nat.zero_le _, rfl, hv, Keeps.refl _ _⟩
  case round =>
    obtain ⟨j, hj, rfl, hv1, hk1⟩ := hrel
    clear hv
    have cb := hv1.before.cell 0 (v := .int .i64 b) rfl
    have cd := hv1.done.cell 0 (v := .int .i64 j) rfl
    have zd := hv1.done.frozen 0
    have ch := hv1.how.cell 0 (v := .int .i64 how) rfl
    have ca := hv1.at_.cell 0 (v := .int .i64 at_) rfl
    have ce := hv1.err.cell 0 (v := errV p ek) rfl
    have cf := hv1.after.cell 0 (v := .int .i64 f) rfl
    by_cases hlt : j < b
    · have hv2 := hv1.put (j + 1)
      have hk2 := hk1.out.setOne 0 (.int .i64 (j + 1 : Nat))
      go_wp2_with fail
      have hcast : ((j : Int) + 1) = ((j + 1 : Nat) : Int) := by omega
      rw [hcast]
      go_roundw
      case rel => first | exact ⟨j + 1, by omega, rfl, hv2, hk2⟩ | ((repeat apply Exists.intro); exact ⟨⟨j + 1, by omega, rfl, hv2, hk2⟩, rfl⟩)
      case measure => simp [intOf]; omega
    · obtain rfl : j = b := by omega
      have hEr : Hid (Errs wr p) := hE.keep (h0.step hk1.out (fun i hi => .inr (by rw [show i = gd from hi]; exact hgd)))
      have c5 : wr.cell? ⟨6, 0, none⟩ = some (errV p 5) := hEr.out.at_ 5 (by decide)
      clear hE h0
      match how, hh with
      | 0, _ =>
        unfold errV at ce
        go_wp2_with fail
        refine (fail_err _ _ _ _).mono ?_
        rintro e w2 ⟨g, rfl, hbk, hge, hk3⟩
        go_wp2
        exact ⟨rfl, _, .inr (.inl ⟨_, _, rfl, rfl⟩), hk1.out.trans hk3.nil, hv1.done.keep0 hk3, .inr (.inr ⟨g, ek, hek, rfl, hbk, rfl, rfl⟩), freshAt_at (Nat.le_trans hk1.out.size hge)⟩
      | 1, _ =>
        unfold errV at ce
        go_wp2_with fail
        refine (must_err _ _ _).mono ?_
        rintro e w2 ⟨rfl, rfl⟩
        go_wp2
        exact ⟨rfl, _, .inr (.inl ⟨_, _, rfl, rfl⟩), hk1.out, hv1.done, .inr (.inl ⟨ek, hek, rfl, rfl, rfl, rfl⟩), freshAt_err _ _ _⟩
      | 2, _ =>
        go_wp2_with fail
        refine (must_nil _).mono ?_
        rintro e w2 ⟨rfl, rfl⟩
        go_wp2_with fail
        go_loopw [9] (fun v wr => ∃ i : Nat, i ≤ f ∧ v = .int .i64 i ∧ Vars wr gb gd gh ga ge gf j (j + i) 2 at_ (errV p ek) f ∧ Hid (Keeps (One gd) w wr)) (fun v _ => f - (intOf v).toNat)
        case atStart => exact ⟨0, Nat.zero_le _, rfl, hv1, hk1⟩
        case round =>
          obtain ⟨i, hi, rfl, hv2, hk2⟩ := hrel
          have cd2 := hv2.done.cell 0 (v := .int .i64 (j + i : Nat)) rfl
          have zd2 := hv2.done.frozen 0
          have cf2 := hv2.after.cell 0 (v := .int .i64 f) rfl
          have hdn := hv2.done
          clear hv1 cb cd zd ch ca ce cf hEr c5
          by_cases hlt2 : i < f
          · have hv3 := hv2.put (j + (i + 1))
            have hk3 := hk2.out.setOne 0 (.int .i64 (j + (i + 1) : Nat))
            have hcast2 : IntKind.i64.wrap (((j + i : Nat) : Int) + 1) = ((j + (i + 1) : Nat) : Int) := by rw [IntKind.wrap_i64]; omega
            generalize hji : ((j + i : Nat) : Int) = ji at *
            generalize hji2 : ((j + (i + 1) : Nat) : Int) = ji2 at *
            go_wp2_with fail
            go_roundw
            case rel => first | exact ⟨i + 1, by omega, by go_num, hv3, hk3⟩ | ((repeat apply Exists.intro); exact ⟨⟨i + 1, by omega, by go_num, hv3, hk3⟩, rfl⟩)
            case measure => simp [intOf]; omega
          · obtain rfl : i = f := by omega
            go_wp2_with fail
            go_end0
            exact ⟨_, .inl ⟨rfl, rfl⟩, hk2.out, hdn, .inl ⟨rfl, rfl, rfl, rfl⟩, freshAt_nil _⟩
      | 3, _ =>
        go_wp2
        exact ⟨rfl, _, .inr (.inr ⟨_, rfl, Tryd.strNot _, rfl⟩), hk1.out, hv1.done, .inr (.inl ⟨5, by decide, rfl, rfl, rfl, rfl⟩), freshAt_err _ _ _⟩
      | 4, _ =>
        unfold errV at ce
        go_wp2
        exact ⟨rfl, _, .inr (.inr ⟨_, rfl, Tryd.errNot p ek, rfl⟩), hk1.out, hv1.done, .inr (.inl ⟨5, by decide, rfl, rfl, rfl, rfl⟩), freshAt_err _ _ _⟩
      | 5, _ =>
        rcases Nat.lt_or_ge 31 j with h31 | h31
        · have hia := fun w => Tryd.indexBig j w h31
          go_wp2_with fail
          go_region_dies
          all_goals (try go_wp2)
          all_goals exact ⟨rfl, _, .inr (.inr ⟨_, rfl, Tryd.boundsNot _, rfl⟩), hk1.out.drew, hv1.done.drew, .inr (.inl ⟨5, by decide, rfl, rfl, rfl, rfl⟩), freshAt_err _ _ _⟩
        · have hia := fun w => Tryd.indexSmall j w h31
          go_wp2_with fail
          go_region_dies
          all_goals (try go_wp2)
          all_goals exact ⟨rfl, _, .inr (.inr ⟨_, rfl, Tryd.boundsNot _, rfl⟩), hk1.out.drew.drew, hv1.done.drew.drew, .inr (.inl ⟨5, by decide, rfl, rfl, rfl, rfl⟩), freshAt_err _ _ _⟩
      | 6, _ =>
        have hnm := Tryd.nilMap
        go_wp2
        exact ⟨rfl, _, .inr (.inr ⟨_, rfl, Tryd.plainNot _, rfl⟩), hk1.out, hv1.done, .inr (.inl ⟨5, by decide, rfl, rfl, rfl, rfl⟩), freshAt_err _ _ _⟩
      | 7, _ =>
        unfold errV at c5
        go_wp2_with fail
        refine (fail_nil _ _ _ _ c5).mono ?_
        rintro e w2 ⟨g, rfl, hbk, hge, hk3⟩
        go_wp2
        exact ⟨rfl, _, .inr (.inl ⟨_, _, rfl, rfl⟩), hk1.out.trans hk3.nil, hv1.done.keep0 hk3, .inr (.inr ⟨g, 5, by decide, rfl, hbk, rfl, rfl⟩), freshAt_at (Nat.le_trans hk1.out.size hge)⟩
      | 8, _ =>
        unfold errV at ce
        go_wp2_with fail
        refine (must_err _ _ _).mono ?_
        rintro e w2 ⟨rfl, rfl⟩
        go_wp2
        have hk3 : Keeps Nil wr (wr.alloc (.cells #[.int .i64 at_, errV p ek] 98)) := (Keeps.refl Nil wr).alloc _
        exact ⟨rfl, _, .inr (.inl ⟨_, _, rfl, rfl⟩), hk1.out.trans hk3.nil, hv1.done.keep0 hk3, .inr (.inr ⟨wr.heap.size, ek, hek, rfl, Blk.new wr [.int .i64 at_, errV p ek] _, rfl, rfl⟩), freshAt_at hk1.out.size⟩
      | n + 9, h => omega

theorem size_alloc (w : World) (o : Obj) : (w.alloc o).heap.size = w.heap.size + 1 := Array.size_push _
/-- The variables, each in a new block. -/
def varsWorld6 (w : World) (h : Nat) (at_ : Int) (b f : Nat) (v : Value) : World :=
  (((((w.alloc (.cells #[.int .i64 h] 3)).alloc (.cells #[.int .i64 at_] 3)).alloc (.cells #[.int .i64 b] 3)).alloc (.cells #[.int .i64 f] 3)).alloc (.cells #[v] 28)).alloc (.cells #[.int .i64 0] 3)
theorem varsWorld6_is (w : World) (h : Nat) (at_ : Int) (b f : Nat) (v : Value) :
    Vars (varsWorld6 w h at_ b f v) (w.heap.size + 2) (w.heap.size + 5) w.heap.size (w.heap.size + 1) (w.heap.size + 4) (w.heap.size + 3) b 0 h at_ v f ∧ Keeps Nil w (varsWorld6 w h at_ b f v) := by
  unfold varsWorld6
  generalize h1 : w.alloc (.cells #[.int .i64 h] 3) = w1
  generalize h2 : w1.alloc (.cells #[.int .i64 at_] 3) = w2
  generalize h3 : w2.alloc (.cells #[.int .i64 b] 3) = w3
  generalize h4 : w3.alloc (.cells #[.int .i64 f] 3) = w4
  generalize h5 : w4.alloc (.cells #[v] 28) = w5
  generalize h6 : w5.alloc (.cells #[.int .i64 0] 3) = w6
  have s1 : w1.heap.size = w.heap.size + 1 := by rw [← h1]; exact size_alloc _ _
  have s2 : w2.heap.size = w1.heap.size + 1 := by rw [← h2]; exact size_alloc _ _
  have s3 : w3.heap.size = w2.heap.size + 1 := by rw [← h3]; exact size_alloc _ _
  have s4 : w4.heap.size = w3.heap.size + 1 := by rw [← h4]; exact size_alloc _ _
  have s5 : w5.heap.size = w4.heap.size + 1 := by rw [← h5]; exact size_alloc _ _
  have k1 : Keeps Nil w w1 := by rw [← h1]; exact (Keeps.refl Nil w).alloc _
  have k2 : Keeps Nil w1 w2 := by rw [← h2]; exact (Keeps.refl Nil w1).alloc _
  have k3 : Keeps Nil w2 w3 := by rw [← h3]; exact (Keeps.refl Nil w2).alloc _
  have k4 : Keeps Nil w3 w4 := by rw [← h4]; exact (Keeps.refl Nil w3).alloc _
  have k5 : Keeps Nil w4 w5 := by rw [← h5]; exact (Keeps.refl Nil w4).alloc _
  have k6 : Keeps Nil w5 w6 := by rw [← h6]; exact (Keeps.refl Nil w5).alloc _
  have b1 : Blk w1 w.heap.size [.int .i64 h] 3 := by rw [← h1]; exact Blk.new w [.int .i64 h] _
  have b2 : Blk w2 (w.heap.size + 1) [.int .i64 at_] 3 := by rw [← h2]; exact Blk.new' w1 [.int .i64 at_] _ (by omega)
  have b3 : Blk w3 (w.heap.size + 2) [.int .i64 b] 3 := by rw [← h3]; exact Blk.new' w2 [.int .i64 b] _ (by omega)
  have b4 : Blk w4 (w.heap.size + 3) [.int .i64 f] 3 := by rw [← h4]; exact Blk.new' w3 [.int .i64 f] _ (by omega)
  have b5 : Blk w5 (w.heap.size + 4) [v] 28 := by rw [← h5]; exact Blk.new' w4 [v] _ (by omega)
  have b6 : Blk w6 (w.heap.size + 5) [.int .i64 0] 3 := by rw [← h6]; exact Blk.new' w5 [.int .i64 0] _ (by omega)
  exact ⟨⟨((b3.keep0 k4).keep0 k5).keep0 k6, b6, ((((b1.keep0 k2).keep0 k3).keep0 k4).keep0 k5).keep0 k6, (((b2.keep0 k3).keep0 k4).keep0 k5).keep0 k6, b5.keep0 k6, (b4.keep0 k5).keep0 k6, by omega⟩, ((((k1.trans k2).trans k3).trans k4).trans k5).trans k6⟩

set_option maxRecDepth 20000 in
set_option maxHeartbeats 4000000 in
theorem caught_walk {w : World} {p : Nat → Addr} (hE : Errs w p) (how ek b f : Nat) (at_ : Int) (hb : b < 50) (hf : f < 50) (hh : how < 9) (hek : ek < 19) :
    Calls Tryd.prog 22 #[.int .i64 how, .int .i64 (101 + ek), .int .i64 at_, .int .i64 b, .int .i64 f, errV p ek] w (TrueT w) := by
  have hmf : ∀ (fn : Fn) (first cap : Array Value) (w : World), (Instr.makeFunc fn first cap).run Tryd.prog w = .ok (.func fn first cap) w := fun _ _ _ _ => rfl
  obtain ⟨hV, hk0⟩ := varsWorld6_is w how at_ b f (errV p ek)
  go_enter Tryd.func22, Tryd.ntmps22
  go_wp2_with fail
  change Calls _ _ _ (varsWorld6 w how at_ b f (errV p ek)) _
  generalize varsWorld6 w how at_ b f (errV p ek) = wv at *
  have hV' : Vars wv (w.heap.size + 1 + 1) (w.heap.size + 1 + 1 + 1 + 1 + 1) w.heap.size (w.heap.size + 1) (w.heap.size + 1 + 1 + 1 + 1) (w.heap.size + 1 + 1 + 1) b 0 how at_ (errV p ek) f := hV
  have hgd : w.heap.size ≤ w.heap.size + 1 + 1 + 1 + 1 + 1 := by omega
  clear hV
  generalize w.heap.size + 1 + 1 + 1 + 1 + 1 = gd at *
  generalize w.heap.size + 1 + 1 + 1 + 1 = ge at *
  generalize w.heap.size + 1 + 1 + 1 = gf at *
  generalize w.heap.size + 1 + 1 = gb at *
  generalize w.heap.size + 1 = ga at *
  generalize hgh : w.heap.size = gh at *
  have hlt := hV'.done.lt
  refine (try_walk 76 _ wv (fun _ => by kernel_rfl) ((hE.keep hk0).at_ 5 (by decide)) ⟨_, _, rfl⟩ (S := One gd) (fun k hk => by rw [show k = gd from hk]; exact hlt)
    (R := fun r w2 => Blk w2 gd [.int .i64 ((if how = 2 then b + f else b : Nat))] 3 ∧ IsErr w2 p r (toldC how ek) (toldP how) (toldQ how at_) ∧ (∀ bb, r = .iface 96 (.pointer (some ⟨bb, 0, none⟩)) → wv.heap.size < bb))
    (fun w1 h1 hl1 => (caughtIn_walk hE (hk0.trans h1) gb gd gh ga ge gf b how ek f at_ hb hf hh hek (by omega) (hV'.keep h1)).mono ?_)).mono ?_
  · rintro e w2 ⟨r, hT, hk, hB, hI, hF⟩
    exact ⟨r, hT, hk, hB, hI, fun bb h => by have := hF bb h; omega⟩
  rintro e w5 ⟨r, w4, rfl, ⟨hB, hI, hF⟩, hk4, hk5⟩
  have hB5 := hB.keep hk4 (fun h => by have : gd = wv.heap.size := h; omega)
  have hI5 : IsErr w5 p r (toldC how ek) (toldP how) (toldQ how at_) := by
    rcases hI with h | h | ⟨bb, k, h1, h2, h3, h4⟩
    · exact .inl h
    · exact .inr (.inl h)
    · exact .inr (.inr ⟨bb, k, h1, h2, h3.keep hk4 (fun h => by have : bb = wv.heap.size := h; have := hF bb h2; omega), h4⟩)
  have hv5b := hV'.before.keep hk5 (fun h => hV'.ne.1 h.symm)
  have hv5h := hV'.how.keep hk5 (fun h => hV'.ne.2.1 h.symm)
  have hv5a := hV'.at_.keep hk5 (fun h => hV'.ne.2.2.1 h.symm)
  have hv5f := hV'.after.keep hk5 (fun h => hV'.ne.2.2.2.2 h.symm)
  have hkw := hk0.step hk5 (fun i hi => .inr (by rw [show i = gd from hi, hgh]; exact hgd))
  clear hB hI hF hk4 hk5 hV' hk0 hmf
  have cb := hv5b.cell 0 (v := .int .i64 b) rfl
  go_wp2_with fail
  refine (bare_walk _ _).mono ?_
  rintro e w6 ⟨rfl, hk6⟩
  have hbF : Blk (w6.alloc (.cells #[.int .i64 106, .bool false, .int .i64 0] 57)) w6.heap.size [.int .i64 106, .bool false, .int .i64 0] 57 := Blk.new w6 [.int .i64 106, .bool false, .int .i64 0] _
  have hka := hk6.alloc (.cells #[.int .i64 106, .bool false, .int .i64 0] 57)
  have hBz := hB5.keep0 hka
  have hIz := hI5.keep hka
  have hvb := hv5b.keep0 hka
  have hvh := hv5h.keep0 hka
  have hva := hv5a.keep0 hka
  have hvf := hv5f.keep0 hka
  have hkz := hkw.trans hka
  have ch := hvh.cell 0 (v := .int .i64 how) rfl
  have ca := hva.cell 0 (v := .int .i64 at_) rfl
  have cf := hvf.cell 0 (v := .int .i64 f) rfl
  have cb := hvb.cell 0 (v := .int .i64 b) rfl
  have hgF : w.heap.size ≤ w6.heap.size := Nat.le_trans hkw.size hk6.size
  have hneF : gd ≠ w6.heap.size := by
    have h1 := hB5.lt
    have h2 := hk6.size
    omega
  have cd := hBz.cell 0 (v := .int .i64 ((if how = 2 then b + f else b : Nat))) rfl
  have hnb0 : gb ≠ w6.heap.size := by
    have h1 := hv5b.lt
    have h2 := hk6.size
    omega
  have hnf0 : gf ≠ w6.heap.size := by
    have h1 := hv5f.lt
    have h2 := hk6.size
    omega
  have hnF0 : ∀ bb, r = .iface 96 (.pointer (some ⟨bb, 0, none⟩)) → ¬ One w6.heap.size bb := fun bb h h2 => by
    have h3 : bb = w6.heap.size := h2
    have h4 := hI5.lt bb h
    have h5 := hk6.size
    omega
  clear hka hB5 hI5 hv5b hv5h hv5a hv5f hkw hk6
  have hnb : gb ≠ w6.heap.size := hnb0
  have hnf : gf ≠ w6.heap.size := hnf0
  have hnF : ∀ bb, r = .iface 96 (.pointer (some ⟨bb, 0, none⟩)) → ¬ One w6.heap.size bb := hnF0
  match how, hh with
  | 0, _ =>
    go_wp2_with fail
    refine (placed_walk _ _ _ (by omega)).mono ?_
    rintro e w7 ⟨rfl, hk7⟩
    go_wp2_with (refine wpl_store rfl 57 _ _ rfl w6.heap.size rfl [.int .i64 (101 + ek), .bool true, .int .i64 at_] rfl (hbF.keep0 hk7) rfl Tryd.sizeFault (by simp [Value.oneCell']) ?_)
    intro w8 hb8 hk8 hs8
    have hB8 := (hBz.keep0 hk7).keep hk8 hneF
    have hk8w := (hkz.trans hk7).step hk8 (fun i hi => .inr (by rw [show i = w6.heap.size from hi]; exact hgF))
    have hI8 : IsErr w8 p r (toldC 0 ek) (toldP 0) (toldQ 0 at_) := (hIz.keep hk7).keepS hk8 hnF
    go_wp2_with (refine wpl_load rfl 57 _ rfl w6.heap.size rfl hb8 _ Tryd.underlying57 rfl Tryd.sizeFault ?_)
    go_wp2_with fail
    refine (same_walk (hE.keep hk8w) hI8 (101 + ek) true at_).mono ?_
    rintro e w9 ⟨rfl, hk9⟩
    have hS : sameF (toldC 0 ek) (toldP 0) (toldQ 0 at_) (101 + ek) true at_ = true := by simp [sameF, toldC, toldP, toldQ]
    have c9 := (hB8.keep0 hk9).cell 0 (v := .int .i64 (b : Nat)) rfl
    rw [hS]
    go_wp2_with fail
    go_ret
    exact ⟨by simp, hk8w.trans hk9⟩
  | 1, _ =>
    go_wp2_with fail
    refine (bare_walk _ _).mono ?_
    rintro e w7 ⟨rfl, hk7⟩
    go_wp2_with (refine wpl_store rfl 57 _ _ rfl w6.heap.size rfl [.int .i64 (101 + ek), .bool false, .int .i64 0] rfl (hbF.keep0 hk7) rfl Tryd.sizeFault (by simp [Value.oneCell']) ?_)
    intro w8 hb8 hk8 hs8
    have hB8 := (hBz.keep0 hk7).keep hk8 hneF
    have hk8w := (hkz.trans hk7).step hk8 (fun i hi => .inr (by rw [show i = w6.heap.size from hi]; exact hgF))
    have hI8 : IsErr w8 p r (toldC 1 ek) (toldP 1) (toldQ 1 at_) := (hIz.keep hk7).keepS hk8 hnF
    go_wp2_with (refine wpl_load rfl 57 _ rfl w6.heap.size rfl hb8 _ Tryd.underlying57 rfl Tryd.sizeFault ?_)
    go_wp2_with fail
    refine (same_walk (hE.keep hk8w) hI8 (101 + ek) false 0).mono ?_
    rintro e w9 ⟨rfl, hk9⟩
    have hS : sameF (toldC 1 ek) (toldP 1) (toldQ 1 at_) (101 + ek) false 0 = true := by simp [sameF, toldC, toldP, toldQ]
    have c9 := (hB8.keep0 hk9).cell 0 (v := .int .i64 (b : Nat)) rfl
    rw [hS]
    go_wp2_with fail
    go_ret
    exact ⟨by simp, hk8w.trans hk9⟩
  | 2, _ =>
    go_wp2_with fail
    refine (none_walk _).mono ?_
    rintro e w7 ⟨rfl, hk7⟩
    have cb7 := (hvb.keep0 hk7).cell 0 (v := .int .i64 b) rfl
    have cf7 := (hvf.keep0 hk7).cell 0 (v := .int .i64 f) rfl
    go_wp2_with (refine wpl_store rfl 57 _ _ rfl w6.heap.size rfl [.int .i64 0, .bool false, .int .i64 0] rfl (hbF.keep0 hk7) rfl Tryd.sizeFault (by simp [Value.oneCell']) ?_)
    intro w8 hb8 hk8 hs8
    have hB8 := (hBz.keep0 hk7).keep hk8 hneF
    have hk8w := (hkz.trans hk7).step hk8 (fun i hi => .inr (by rw [show i = w6.heap.size from hi]; exact hgF))
    have hI8 : IsErr w8 p r (toldC 2 ek) (toldP 2) (toldQ 2 at_) := (hIz.keep hk7).keepS hk8 hnF
    have hw1 : IntKind.i64.wrap ((b : Int) + f) = ((b + f : Nat) : Int) := by rw [IntKind.wrap_i64]; omega
    have cb8 := ((hvb.keep0 hk7).keep hk8 hnb).cell 0 (v := .int .i64 b) rfl
    have cf8 := ((hvf.keep0 hk7).keep hk8 hnf).cell 0 (v := .int .i64 f) rfl
    have hB8' : Blk w8 gd [.int .i64 ((b + f : Nat) : Int)] 3 := by first | exact hB8 | (have h8 := hB8; simp only [if_true] at h8; exact h8)
    clear hB8 cd
    generalize hbf : ((b + f : Nat) : Int) = bf at *
    go_wp2_with (refine wpl_load rfl 57 _ rfl w6.heap.size rfl hb8 _ Tryd.underlying57 rfl Tryd.sizeFault ?_)
    go_wp2_with fail
    refine (same_walk (hE.keep hk8w) hI8 0 false 0).mono ?_
    rintro e w9 ⟨rfl, hk9⟩
    have hS : sameF (toldC 2 ek) (toldP 2) (toldQ 2 at_) 0 false 0 = true := by simp [sameF, toldC, toldP, toldQ]
    have c9 := (hB8'.keep0 hk9).cell 0 (v := .int .i64 bf) rfl
    rw [hS]
    go_wp2_with fail
    go_ret
    exact ⟨by simp, hk8w.trans hk9⟩
  | 3, _ =>
    go_wp2_with (refine wpl_load rfl 57 _ rfl w6.heap.size rfl hbF _ Tryd.underlying57 rfl Tryd.sizeFault ?_)
    go_wp2_with fail
    refine (same_walk (hE.keep hkz) hIz 106 false 0).mono ?_
    rintro e w9 ⟨rfl, hk9⟩
    have hS : sameF (toldC 3 ek) (toldP 3) (toldQ 3 at_) 106 false 0 = true := by simp [sameF, toldC, toldP, toldQ]
    have c9 := (hBz.keep0 hk9).cell 0 (v := .int .i64 (b : Nat)) rfl
    rw [hS]
    go_wp2_with fail
    go_ret
    exact ⟨by simp, hkz.trans hk9⟩
  | 4, _ =>
    go_wp2_with (refine wpl_load rfl 57 _ rfl w6.heap.size rfl hbF _ Tryd.underlying57 rfl Tryd.sizeFault ?_)
    go_wp2_with fail
    refine (same_walk (hE.keep hkz) hIz 106 false 0).mono ?_
    rintro e w9 ⟨rfl, hk9⟩
    have hS : sameF (toldC 4 ek) (toldP 4) (toldQ 4 at_) 106 false 0 = true := by simp [sameF, toldC, toldP, toldQ]
    have c9 := (hBz.keep0 hk9).cell 0 (v := .int .i64 (b : Nat)) rfl
    rw [hS]
    go_wp2_with fail
    go_ret
    exact ⟨by simp, hkz.trans hk9⟩
  | 5, _ =>
    go_wp2_with (refine wpl_load rfl 57 _ rfl w6.heap.size rfl hbF _ Tryd.underlying57 rfl Tryd.sizeFault ?_)
    go_wp2_with fail
    refine (same_walk (hE.keep hkz) hIz 106 false 0).mono ?_
    rintro e w9 ⟨rfl, hk9⟩
    have hS : sameF (toldC 5 ek) (toldP 5) (toldQ 5 at_) 106 false 0 = true := by simp [sameF, toldC, toldP, toldQ]
    have c9 := (hBz.keep0 hk9).cell 0 (v := .int .i64 (b : Nat)) rfl
    rw [hS]
    go_wp2_with fail
    go_ret
    exact ⟨by simp, hkz.trans hk9⟩
  | 6, _ =>
    go_wp2_with (refine wpl_load rfl 57 _ rfl w6.heap.size rfl hbF _ Tryd.underlying57 rfl Tryd.sizeFault ?_)
    go_wp2_with fail
    refine (same_walk (hE.keep hkz) hIz 106 false 0).mono ?_
    rintro e w9 ⟨rfl, hk9⟩
    have hS : sameF (toldC 6 ek) (toldP 6) (toldQ 6 at_) 106 false 0 = true := by simp [sameF, toldC, toldP, toldQ]
    have c9 := (hBz.keep0 hk9).cell 0 (v := .int .i64 (b : Nat)) rfl
    rw [hS]
    go_wp2_with fail
    go_ret
    exact ⟨by simp, hkz.trans hk9⟩
  | 7, _ =>
    go_wp2_with fail
    refine (placed_walk _ _ _ (by omega)).mono ?_
    rintro e w7 ⟨rfl, hk7⟩
    go_wp2_with (refine wpl_store rfl 57 _ _ rfl w6.heap.size rfl [.int .i64 106, .bool true, .int .i64 at_] rfl (hbF.keep0 hk7) rfl Tryd.sizeFault (by simp [Value.oneCell']) ?_)
    intro w8 hb8 hk8 hs8
    have hB8 := (hBz.keep0 hk7).keep hk8 hneF
    have hk8w := (hkz.trans hk7).step hk8 (fun i hi => .inr (by rw [show i = w6.heap.size from hi]; exact hgF))
    have hI8 : IsErr w8 p r (toldC 7 ek) (toldP 7) (toldQ 7 at_) := (hIz.keep hk7).keepS hk8 hnF
    go_wp2_with (refine wpl_load rfl 57 _ rfl w6.heap.size rfl hb8 _ Tryd.underlying57 rfl Tryd.sizeFault ?_)
    go_wp2_with fail
    refine (same_walk (hE.keep hk8w) hI8 106 true at_).mono ?_
    rintro e w9 ⟨rfl, hk9⟩
    have hS : sameF (toldC 7 ek) (toldP 7) (toldQ 7 at_) 106 true at_ = true := by simp [sameF, toldC, toldP, toldQ]
    have c9 := (hB8.keep0 hk9).cell 0 (v := .int .i64 (b : Nat)) rfl
    rw [hS]
    go_wp2_with fail
    go_ret
    exact ⟨by simp, hk8w.trans hk9⟩
  | 8, _ =>
    go_wp2_with fail
    refine (placed_walk _ _ _ (by omega)).mono ?_
    rintro e w7 ⟨rfl, hk7⟩
    go_wp2_with (refine wpl_store rfl 57 _ _ rfl w6.heap.size rfl [.int .i64 (101 + ek), .bool true, .int .i64 at_] rfl (hbF.keep0 hk7) rfl Tryd.sizeFault (by simp [Value.oneCell']) ?_)
    intro w8 hb8 hk8 hs8
    have hB8 := (hBz.keep0 hk7).keep hk8 hneF
    have hk8w := (hkz.trans hk7).step hk8 (fun i hi => .inr (by rw [show i = w6.heap.size from hi]; exact hgF))
    have hI8 : IsErr w8 p r (toldC 8 ek) (toldP 8) (toldQ 8 at_) := (hIz.keep hk7).keepS hk8 hnF
    go_wp2_with (refine wpl_load rfl 57 _ rfl w6.heap.size rfl hb8 _ Tryd.underlying57 rfl Tryd.sizeFault ?_)
    go_wp2_with fail
    refine (same_walk (hE.keep hk8w) hI8 (101 + ek) true at_).mono ?_
    rintro e w9 ⟨rfl, hk9⟩
    have hS : sameF (toldC 8 ek) (toldP 8) (toldQ 8 at_) (101 + ek) true at_ = true := by simp [sameF, toldC, toldP, toldQ]
    have c9 := (hB8.keep0 hk9).cell 0 (v := .int .i64 (b : Nat)) rfl
    rw [hS]
    go_wp2_with fail
    go_ret
    exact ⟨by simp, hk8w.trans hk9⟩
  | n + 9, h => omega

theorem trapCatchesIn_walk {w0 w : World} {p : Nat → Addr} (hE : Errs w0 p) (h0 : Keeps Nil w0 w) (gh gc ga gb gf ge how ek b f : Nat) (at_ : Int) (hb : b < 50) (hf : f < 50) (hh : how < 9) (hek : ek < 19)
    (c1 : w.cell? ⟨gh, 0, none⟩ = some (.int .i64 how)) (c2 : w.cell? ⟨gc, 0, none⟩ = some (.int .i64 (101 + ek))) (c3 : w.cell? ⟨ga, 0, none⟩ = some (.int .i64 at_)) (c4 : w.cell? ⟨gb, 0, none⟩ = some (.int .i64 b))
    (c5 : w.cell? ⟨gf, 0, none⟩ = some (.int .i64 f)) (c6 : w.cell? ⟨ge, 0, none⟩ = some (errV p ek)) :
    Calls Tryd.prog 21 #[.pointer (some ⟨gh, 0, none⟩), .pointer (some ⟨gc, 0, none⟩), .pointer (some ⟨ga, 0, none⟩), .pointer (some ⟨gb, 0, none⟩), .pointer (some ⟨gf, 0, none⟩), .pointer (some ⟨ge, 0, none⟩)] w (TrueT w) := by
  have hc := caught_walk (hE.keep h0) how ek b f at_ hb hf hh hek
  have HC := Lib.hid hc
  clear hc hE h0
  unfold errV at c6
  go_enter Tryd.func21, Tryd.ntmps21
  go_wp2_with fail
  refine HC.out.mono ?_
  rintro e w2 ⟨rfl, hk2⟩
  go_wp2_with fail
  go_ret
  exact ⟨rfl, hk2⟩
end Go.Proofs.YtdkfhfflhglmaaaDoor
