/-
  Package code's Reader: List, Bool, At; Read over whatever function; the laws' read.
-/
import Derived.Test.YtdkfhfflhglmaaaDoorReader
namespace Go.Proofs.YtdkfhfflhglmaaaDoor
set_option linter.unusedSimpArgs false
set_option linter.unusedVariables false
open Go.RowKit

set_option maxHeartbeats 1600000 in
theorem rdList_ok {w : World} {g cap at_ : Nat} {a : Option Addr} {l : List Int} (h : IsRd 102 w g a cap l at_ []) (most : Int) (hn : at_ + 4 ≤ l.length) (hl : l.length ≤ 100000) (n : Nat) (hnn : num4 l at_ = n) (hm : (n : Int) ≤ most) (hf : at_ + 4 + n ≤ l.length) :
    Calls Tryd.prog 46 #[.pointer (some ⟨g, 0, none⟩), .int .i64 most] w (RdBytes (cutL l (at_ + 4) n) 102 g a cap l (at_ + 4 + n) w) := by
  have c1 := h.obj.cell 1 (v := .int .i64 at_) rfl
  have hb := num4_bounds h.row.bytes at_ hn
  have HU := Lib.hid (rdU32_ok h hn)
  rw [hnn] at hb HU
  have hlen := cutL_length l (at_ + 4) n hf
  clear hnn h
  go_enter Tryd.func46, Tryd.ntmps46
  go_wp2_with fail
  refine HU.out.mono ?_
  rintro e w1 ⟨rfl, h1, hk1⟩
  go_wp2_with fail
  refine (takes_ok h1 at_ n hf).mono ?_
  rintro e w2 ⟨a', c', rfl, hr, hnil, h2, hk2⟩
  go_wp2_with fail
  refine (cloneB_walk hr hnil (by omega)).mono ?_
  rintro e w3 ⟨a3, c3, rfl, ho3, hk3, hf3⟩
  have h3 := h2.keep0 hk3
  have hk4 := (hk1.trans hk2).step hk3 (fun _ h => h.elim)
  go_wp2_with fail
  go_ret
  exact ⟨a3, c3, by rw [hlen]; rfl, ho3, fun k hk => Nat.le_trans (Nat.le_trans hk1.size hk2.size) (hf3 k hk), h3, hk4⟩
set_option maxHeartbeats 800000 in
theorem rdList_short4 {w : World} {p : Nat → Addr} (hE : Errs w p) {g cap at_ : Nat} {a : Option Addr} {l : List Int} (h : IsRd 102 w g a cap l at_ []) (most : Int) (hn : l.length < at_ + 4) :
    Calls Tryd.prog 46 #[.pointer (some ⟨g, 0, none⟩), .int .i64 most] w (FailPost at_ (errV p 2) w) := by
  have c1 := h.obj.cell 1 (v := .int .i64 at_) rfl
  have HU := Lib.hid (rdU32_short hE h hn)
  clear h hE
  go_enter Tryd.func46, Tryd.ntmps46
  go_wp2_with fail
  refine HU.out.mono ?_
  rintro e w2 ⟨gg, rfl, hb, hge, hk⟩
  go_wp2
  exact ⟨rfl, gg, rfl, hb, hge, hk⟩
set_option maxHeartbeats 1600000 in
theorem rdList_range {w : World} {p : Nat → Addr} (hE : Errs w p) {g cap at_ : Nat} {a : Option Addr} {l : List Int} (h : IsRd 102 w g a cap l at_ []) (hgl : ∀ k, k < 19 → gnums.getD k 0 ≠ g) (most : Int) (hn : at_ + 4 ≤ l.length) (n : Nat) (hnn : num4 l at_ = n) (hm : most < (n : Int)) :
    Calls Tryd.prog 46 #[.pointer (some ⟨g, 0, none⟩), .int .i64 most] w (FailS (One g) at_ (errV p 1) w) := by
  have c1 := h.obj.cell 1 (v := .int .i64 at_) rfl
  have hb := num4_bounds h.row.bytes at_ hn
  have HU := Lib.hid (rdU32_ok h hn)
  have hgl1 : 2 ≠ g := hgl 1 (by decide)
  rw [hnn] at hb HU
  have g1 : w.cell? ⟨2, 0, none⟩ = some (errV p 1) := hE.at_ 1 (by decide)
  clear hnn h
  go_enter Tryd.func46, Tryd.ntmps46
  go_wp2_with fail
  refine HU.out.mono ?_
  rintro e w1 ⟨rfl, h1, hk1⟩
  have g1' := hk1.cell g1 hgl1
  unfold errV at g1'
  go_wp2_with fail
  refine (fail_err _ _ _ _).mono ?_
  rintro e w2 ⟨gg, rfl, hb2, hge, hk2⟩
  go_wp2
  exact ⟨rfl, gg, rfl, hb2, Nat.le_trans hk1.size hge, hk1.step hk2 (fun _ h => h.elim)⟩
set_option maxHeartbeats 1600000 in
theorem rdList_short {w : World} {p : Nat → Addr} (hE : Errs w p) {g cap at_ : Nat} {a : Option Addr} {l : List Int} (h : IsRd 102 w g a cap l at_ []) (hE1 : ∀ w', Keeps (One g) w w' → Errs w' p) (most : Int) (hn : at_ + 4 ≤ l.length) (n : Nat) (hnn : num4 l at_ = n) (hm : (n : Int) ≤ most) (hf : l.length < at_ + 4 + n) :
    Calls Tryd.prog 46 #[.pointer (some ⟨g, 0, none⟩), .int .i64 most] w (FailS (One g) at_ (errV p 2) w) := by
  have c1 := h.obj.cell 1 (v := .int .i64 at_) rfl
  have hb := num4_bounds h.row.bytes at_ hn
  have HU := Lib.hid (rdU32_ok h hn)
  rw [hnn] at hb HU
  clear hnn h
  go_enter Tryd.func46, Tryd.ntmps46
  go_wp2_with fail
  refine HU.out.mono ?_
  rintro e w1 ⟨rfl, h1, hk1⟩
  go_wp2_with fail
  refine (takes_short (hE1 w1 hk1) h1 at_ n hf (by omega)).mono ?_
  rintro e w2 ⟨gg, rfl, hb2, hge, hk2⟩
  go_wp2
  exact ⟨rfl, gg, rfl, hb2, Nat.le_trans hk1.size hge, hk1.step hk2 (fun _ h => h.elim)⟩
set_option maxHeartbeats 800000 in
theorem rdBool_ok {w : World} {g cap at_ : Nat} {a : Option Addr} {l : List Int} (h : IsRd 102 w g a cap l at_ []) (hn : at_ + 1 ≤ l.length) (hx : l.getD at_ 0 ≤ 1) :
    Calls Tryd.prog 43 #[.pointer (some ⟨g, 0, none⟩)] w (RdOk (.bool (l.getD at_ 0 == 1)) 102 g a cap l (at_ + 1) w) := by
  have c1 := h.obj.cell 1 (v := .int .i64 at_) rfl
  have HU := Lib.hid (rdU8_ok h hn)
  clear h
  generalize l.getD at_ 0 = x at *
  go_enter Tryd.func43, Tryd.ntmps43
  go_wp2_with fail
  refine HU.out.mono ?_
  rintro e w1 ⟨rfl, h1, hk1⟩
  go_wp2_with fail
  go_ret
  exact ⟨rfl, h1, hk1⟩
set_option maxHeartbeats 800000 in
theorem rdBool_short {w : World} {p : Nat → Addr} (hE : Errs w p) {g cap at_ : Nat} {a : Option Addr} {l : List Int} (h : IsRd 102 w g a cap l at_ []) (hn : l.length < at_ + 1) :
    Calls Tryd.prog 43 #[.pointer (some ⟨g, 0, none⟩)] w (FailPost at_ (errV p 2) w) := by
  have c1 := h.obj.cell 1 (v := .int .i64 at_) rfl
  have HU := Lib.hid (rdU8_short hE h hn)
  clear h hE
  go_enter Tryd.func43, Tryd.ntmps43
  go_wp2_with fail
  refine HU.out.mono ?_
  rintro e w2 ⟨gg, rfl, hb, hge, hk⟩
  go_wp2
  exact ⟨rfl, gg, rfl, hb, hge, hk⟩
set_option maxHeartbeats 800000 in
theorem rdBool_form {w : World} {p : Nat → Addr} (hE : Errs w p) {g cap at_ : Nat} {a : Option Addr} {l : List Int} (h : IsRd 102 w g a cap l at_ []) (hgl : ∀ k, k < 19 → gnums.getD k 0 ≠ g) (hn : at_ + 1 ≤ l.length) (hx : 1 < l.getD at_ 0) :
    Calls Tryd.prog 43 #[.pointer (some ⟨g, 0, none⟩)] w (FailS (One g) at_ (errV p 4) w) := by
  have c1 := h.obj.cell 1 (v := .int .i64 at_) rfl
  have HU := Lib.hid (rdU8_ok h hn)
  have hgl1 : 5 ≠ g := hgl 4 (by decide)
  have g1 : w.cell? ⟨5, 0, none⟩ = some (errV p 4) := hE.at_ 4 (by decide)
  clear h
  generalize l.getD at_ 0 = x at *
  go_enter Tryd.func43, Tryd.ntmps43
  go_wp2_with fail
  refine HU.out.mono ?_
  rintro e w1 ⟨rfl, h1, hk1⟩
  have g1' := hk1.cell g1 hgl1
  unfold errV at g1'
  go_wp2_with fail
  refine (fail_err _ _ _ _).mono ?_
  rintro e w2 ⟨gg, rfl, hb2, hge, hk2⟩
  go_wp2
  exact ⟨rfl, gg, rfl, hb2, Nat.le_trans hk1.size hge, hk1.step hk2 (fun _ h => h.elim)⟩
set_option maxHeartbeats 400000 in
theorem rdAt_walk {w : World} {g cap at_ : Nat} {a : Option Addr} {l : List Int} (h : IsRd 102 w g a cap l at_ []) :
    Calls Tryd.prog 57 #[.pointer (some ⟨g, 0, none⟩)] w fun e w' => e = .returned (.int .i64 at_) ∧ w = w' := by
  have c1 := h.obj.cell 1 (v := .int .i64 at_) rfl
  go_enter Tryd.func57, Tryd.ntmps57
  go_wp2_with fail
  go_ret
  exact ⟨rfl, rfl⟩

/-- The two of api's errors that Read itself tells. -/
structure ErrTwo (w : World) (p : Nat → Addr) : Prop where
  three : w.cell? ⟨gnums.getD 3 0, 0, none⟩ = some (errV p 3)
  five : w.cell? ⟨gnums.getD 5 0, 0, none⟩ = some (errV p 5)
theorem ErrTwo.keep {w w' : World} {p : Nat → Addr} (h : ErrTwo w p) (hk : Keeps Nil w w') : ErrTwo w' p := ⟨hk.cell h.three (fun h => h), hk.cell h.five (fun h => h)⟩
theorem Errs.two {w : World} {p : Nat → Addr} (h : Errs w p) : ErrTwo w p := ⟨h.at_ 3 (by decide), h.at_ 5 (by decide)⟩

/-- How a reading by a function ends. -/
inductive Out where
  | done (at_ : Nat)
  | fell (q : Int) (k : Nat)
def outC (n : Nat) : Out → Int
  | .done at_ => if at_ < n then 104 else 0
  | .fell _ k => 101 + k
def outP (n : Nat) : Out → Bool
  | .done at_ => decide (at_ < n)
  | .fell _ _ => true
def outQ (n : Nat) : Out → Int
  | .done at_ => if at_ < n then at_ else 0
  | .fell q _ => q
/-- S, and one block more. -/
def Plus (S : Nat → Prop) (g : Nat) : Nat → Prop := fun k => S k ∨ k = g
/-- What the function that reads does. -/
def ReadIn (S : Nat → Prop) (p : Nat → Addr) (l : List Int) (gr : Nat) (R : Out → World → Prop) (w : World) (e : Ending) (w2 : World) : Prop :=
  ((∃ (at_ : Nat) (ar : Option Addr) (cr : Nat), e = .returned (.tuple #[]) ∧ IsRd 102 w2 gr ar cr l at_ [] ∧ R (.done at_) w2) ∨
    (∃ (q : Int) (k g : Nat), k < 19 ∧ e = .panicked (chainOf (thrownV (.iface 96 (.pointer (some ⟨g, 0, none⟩))))) ∧ Blk w2 g [.int .i64 q, errV p k] 98 ∧ w.heap.size ≤ g ∧ R (.fell q k) w2)) ∧ Keeps (Plus S gr) w w2
/-- The blocks from lo to c. -/
def Upto (lo c : Nat) : Nat → Prop := fun k => lo ≤ k ∧ k ≤ c
/-- What Read hands back: R holds of the world behind the function; since then blocks up to c alone may have changed, which are as old as the call. -/
def ReadPost (S : Nat → Prop) (p : Nat → Addr) (l : List Int) (R : Nat → Out → World → Prop) (w : World) (e : Ending) (w' : World) : Prop :=
  ∃ (o : Out) (v : Value) (c : Nat) (w2 : World), e = .returned v ∧ IsErr w' p v (outC l.length o) (outP l.length o) (outQ l.length o) ∧ FreshAt w v ∧ R c o w2 ∧ Keeps (Upto w.heap.size c) w2 w' ∧ Keeps S w w' ∧ w.heap.size ≤ c

set_option maxRecDepth 20000 in
set_option maxHeartbeats 1600000 in
theorem codeRead_walk (F : FuncId) (cap : Array Value) (w : World) (hF : ∀ x w, (callFunc F (#[x] ++ cap)).run Tryd.prog w = .ok (.enter F (#[x] ++ cap)) w) {p : Nat → Addr} {w0 : World} (hE0 : ErrTwo w0 p) (h0 : Keeps Nil w0 w) {a : Option Addr} {len capb : Nat} {l : List Int} (hrow : Row .u8 w a len l) (hnil : a = none → capb = 0 ∧ len = 0) (hlen : len ≤ 100000)
    {S : Nat → Prop} (hS0 : ∀ k, S k → w0.heap.size ≤ k ∧ k < w.heap.size) {R : Nat → Out → World → Prop}
    (h : ∀ (c : Nat) (w1 : World) (gr : Nat) (ar : Option Addr) (cr : Nat), Keeps Nil w w1 → w.heap.size ≤ c → c < w1.heap.size → (∀ k, wrOf gr ar k → w.heap.size ≤ k) → gr ≠ c → IsRd 102 w1 gr ar cr l 0 [] → Calls Tryd.prog F (#[.pointer (some ⟨gr, 0, none⟩)] ++ cap) w1 (ReadIn S p l gr (R c) w1)) :
    Calls Tryd.prog 85 #[.slice a len capb, .func (.func F) #[] cap] w (ReadPost S p l R w) := by
  have hmf : ∀ (fn : Fn) (first cap : Array Value) (w : World), (Instr.makeFunc fn first cap).run Tryd.prog w = .ok (.func fn first cap) w := fun _ _ _ _ => rfl
  have hst : ∀ (w : World) (a : Addr) (f : Fn) (x y : Array Value), (store a (.func f x y)).run Tryd.prog w = stored Tryd.prog w a (.func f x y) .plain := fun w a f x y => run_store Tryd.prog w a _ _ rfl
  have hl := hrow.llen
  have hE := hE0.keep h0
  have hS : ∀ k, S k → k < w.heap.size := fun k hk => (hS0 k hk).2
  have hk0 : Keeps Nil w (w.alloc (.cells #[.func (.func F) #[] cap] 55)) := (Keeps.refl Nil w).alloc _
  have HC := Lib.hid (cloneB_walk (hrow.keep hk0) hnil (by omega))
  have hB0 := Blk.new w [.func (.func F) #[] cap] 55
  have H := Lib.hid h
  clear h
  go_enter Tryd.func85, Tryd.ntmps85
  go_wp2_with fail
  refine HC.out.mono ?_
  rintro e w1 ⟨a1, c1, rfl, ho1, hk1, hf1⟩
  go_wp2_with fail
  have hgrlt : w.heap.size < w1.heap.size := Nat.lt_of_lt_of_le hB0.lt hk1.size
  have hk3 : Keeps Nil w1 ((w1.alloc (.cells #[.slice a1 len c1, .int .i64 0] 102)).alloc (.cells #[.pointer (some ⟨w1.heap.size, 0, none⟩)] 52)) := ((Keeps.refl Nil w1).alloc _).alloc _
  have hV := ((Has.nil w1).cons [.slice a1 len c1, .int .i64 0] 102 rfl).cons [.pointer (some ⟨w1.heap.size, 0, none⟩)] 52 (n := w1.heap.size + 1) (by simp [size_alloc'])
  have hgb := (hB0.keep0 hk1).keep0 hk3
  have ho3 := ho1.keep0 hk3
  have hRd : IsRd 102 ((w1.alloc (.cells #[.slice a1 len c1, .int .i64 0] 102)).alloc (.cells #[.pointer (some ⟨w1.heap.size, 0, none⟩)] 52)) w1.heap.size a1 c1 l 0 [] := by
    have hr := ho3.row hrow.wf
    refine ⟨by rw [hl]; exact hV.at 1 rfl, hr, fun ha => ?_, ho3.2.1, fun hb => ?_, ho3.lt, Nat.zero_le _⟩
    · obtain ⟨_, _, _, h4⟩ := ho3
      rcases h4 with ⟨_, h0, hc⟩ | ⟨_, _, h4, _⟩
      · exact ⟨hc, h0⟩
      · rw [ha] at h4; cases h4
    · have := ho1.lt _ hb
      omega
  have hgp := hV.at 0 rfl
  have hkw : Keeps Nil w ((w1.alloc (.cells #[.slice a1 len c1, .int .i64 0] 102)).alloc (.cells #[.pointer (some ⟨w1.heap.size, 0, none⟩)] 52)) := (hk0.trans hk1).trans hk3
  have hold : ∀ k, wrOf w1.heap.size a1 k → w.heap.size ≤ k := fun k hk => by
    rcases hk with rfl | hk
    · omega
    · have := hf1 k hk
      simp only [size_alloc'] at this
      omega
  have hszz := hV.at 0 rfl |>.lt
  clear hV ho1 ho3 hk1 hk3 hB0 hk0 HC hf1
  generalize (w1.alloc (.cells #[.slice a1 len c1, .int .i64 0] 102)).alloc (.cells #[.pointer (some ⟨w1.heap.size, 0, none⟩)] 52) = w3 at *
  have hgpn : w1.heap.size + 1 ≠ w1.heap.size := by omega
  have hgpg : w.heap.size < w1.heap.size + 1 := by omega
  generalize w1.heap.size + 1 = gp at *
  generalize w1.heap.size = gr at *
  generalize hgb0 : w.heap.size = gb at *
  have hSgb : ∀ k, S k → k < gb := hS
  have hE3 := hE.keep hkw
  have hin : ∀ w4, Keeps Nil w3 w4 → w3.heap.size < w4.heap.size → Calls Tryd.prog 95 #[.pointer (some ⟨gb, 0, none⟩), .pointer (some ⟨gp, 0, none⟩)] w4 (ReadIn S p l gr (R w3.heap.size) w4) := by
    intro w4 hk4 hlt4
    have hb4 := hgb.keep0 hk4
    have hp4 := hgp.keep0 hk4
    have cb := hb4.cell 0 (v := .func (.func F) #[] cap) rfl
    have cp := hp4.cell 0 (v := .pointer (some ⟨gr, 0, none⟩)) rfl
    have HI := Lib.hid (H.out w3.heap.size w4 gr a1 c1 (hkw.trans hk4) (by omega) hlt4 hold (by have := hRd.obj.lt; omega) (hRd.keep0 hk4))
    have hF1 := hF (.pointer (some ⟨gr, 0, none⟩))
    clear hF hgb hgp hb4 hp4 H hE hE3 hRd hrow
    go_enter Tryd.func95, Tryd.ntmps95
    go_wp2_with fail
    refine HI.out.mono ?_
    rintro e w5 ⟨hcase, hk5⟩
    rcases hcase with ⟨at_, ar, cr, rfl, h5, hR5⟩ | ⟨q, k, g, hk19, rfl, hb5, hge5, hR5⟩
    · go_wp2_with fail
      go_end0
      exact ⟨.inl ⟨at_, ar, cr, rfl, h5, hR5⟩, hk5⟩
    · go_wp2_with fail
      exact ⟨rfl, .inr ⟨q, k, g, hk19, rfl, hb5, hge5, hR5⟩, hk5⟩
  have hlt3 : ∀ k, Plus S gr k → k < w3.heap.size := fun k hk => by
    rcases hk with hk | rfl
    · have := hSgb k hk; omega
    · have := hRd.obj.lt; omega
  have hgr3 := hRd.obj.lt
  have hT := try_walk 95 #[.pointer (some ⟨gb, 0, none⟩), .pointer (some ⟨gp, 0, none⟩)] w3 (fun _ => by kernel_rfl) (hE3.five) ⟨_, _, rfl⟩ (S := Plus S gr) hlt3
    (R := fun r w2 => (∃ (at_ : Nat) (ar : Option Addr) (cr : Nat), r = .nilIface ∧ IsRd 102 w2 gr ar cr l at_ [] ∧ R w3.heap.size (.done at_) w2) ∨ (∃ (q : Int) (k g : Nat), k < 19 ∧ r = .iface 96 (.pointer (some ⟨g, 0, none⟩)) ∧ Blk w2 g [.int .i64 q, errV p k] 98 ∧ w3.heap.size < g ∧ R w3.heap.size (.fell q k) w2))
    (fun w4 h4 hl4 => (hin w4 h4 hl4).mono (by
      rintro e w5 ⟨hcase, hk5⟩
      rcases hcase with ⟨at_, ar, cr, rfl, h5, hR5⟩ | ⟨q, k, g, hk19, rfl, hb5, hge5, hR5⟩
      · exact ⟨_, .inl ⟨rfl, rfl⟩, hk5, .inl ⟨at_, ar, cr, rfl, h5, hR5⟩⟩
      · exact ⟨_, .inr (.inl ⟨_, _, rfl, rfl⟩), hk5, .inr ⟨q, k, g, hk19, rfl, hb5, by omega, hR5⟩⟩))
  have HT := Lib.hid hT
  clear hT hin H hF hst hrow
  refine HT.out.mono ?_
  rintro e w6 ⟨r, w5, rfl, hr, hk56, hk36⟩
  have hkw6 : Keeps S w w6 := by
    refine (hkw.nil (S := S)).step hk36 (fun i hi => ?_)
    rcases hi with hi | rfl
    · exact .inl hi
    · exact .inr (by omega)
  have hg6 := hgp.keep hk36 (fun hi => by
    rcases hi with hi | hi
    · have := hSgb _ hi; omega
    · exact hgpn hi)
  have hszw : w.heap.size ≤ w3.heap.size := by omega
  have hup : Keeps (Upto w.heap.size w3.heap.size) w5 w6 := hk56.mono (fun i hi => ⟨by rw [show i = w3.heap.size from hi]; exact hszw, Nat.le_of_eq hi⟩)
  rcases hr with ⟨at_, ar, cr, rfl, h5, hR5⟩ | ⟨q, k, g, hk19, rfl, hb5, hge5, hR5⟩
  · have hobj := h5.obj.keep hk56 (fun e => by have : gr = w3.heap.size := e; omega)
    have cp := hg6.cell 0 (v := .pointer (some ⟨gr, 0, none⟩)) rfl
    have ca := hobj.cell 1 (v := .int .i64 at_) rfl
    have hpos := h5.pos
    have ge : w6.cell? ⟨4, 0, none⟩ = some (errV p 3) := by
      exact (hE0.keep (h0.step hkw6 (fun i hi => .inr (hS0 i hi).1))).three
    by_cases hlt : at_ < len
    · unfold errV at ge
      have hi0 : (at_ : Int) < len := by omega
      go_wp2_with fail
      refine wp_region_held_drew (S := fun w' => w'.cell? ⟨gp, 0, none⟩ = some (.pointer (some ⟨gr, 0, none⟩)) ∧ w'.cell? ⟨gr, 1, none⟩ = some (.int .i64 at_) ∧ w'.cell? ⟨4, 0, none⟩ = some (.iface 115 (.pointer (some (p 3))))) (by kernel_rfl) ⟨cp, ca, ge⟩ (fun hHeld => ?_)
      refine takeL (i := 0) (v := _) rfl (by kernel_rfl) (by kernel_rfl) (by kernel_rfl) (fun _ _ _ h => h) (Or.inl ⟨by rfl, by intro w hSw; (try dsimp only at hSw); go_simp; try with_reducible rfl⟩) (by assumption) ?_
      try simp only [Act.put, List.setIfInBounds_toArray, List.set_cons_zero, List.set_cons_succ]
      refine takeL (i := 1) (v := _) rfl (by kernel_rfl) (by kernel_rfl) (by kernel_rfl) (fun _ _ _ h => h) (Or.inl ⟨by rfl, by intro w hSw; (try dsimp only at hSw); go_simp; try with_reducible rfl⟩) (by assumption) ?_
      try simp only [Act.put, List.setIfInBounds_toArray, List.set_cons_zero, List.set_cons_succ]
      refine takeL (i := 2) (v := _) rfl (by kernel_rfl) (by kernel_rfl) (by kernel_rfl) (fun _ _ _ h => h) (Or.inl ⟨by rfl, by intro w hSw; (try dsimp only at hSw); go_simp; try with_reducible rfl⟩) (by assumption) ?_
      try simp only [Act.put, List.setIfInBounds_toArray, List.set_cons_zero, List.set_cons_succ]
      refine takeL (i := 3) (v := _) rfl (by kernel_rfl) (by kernel_rfl) (by kernel_rfl) (fun _ _ _ h => h) (Or.inl ⟨by rfl, by intro w hSw; (try dsimp only at hSw); go_simp; try with_reducible rfl⟩) (by assumption) ?_
      try simp only [Act.put, List.setIfInBounds_toArray, List.set_cons_zero, List.set_cons_succ]
      refine takeL (i := 4) (v := _) rfl (by kernel_rfl) (by kernel_rfl) (by kernel_rfl) (fun _ _ _ h => h) (Or.inl ⟨by rfl, by intro w hSw; (try dsimp only at hSw); go_simp; try with_reducible rfl⟩) (by assumption) ?_
      try simp only [Act.put, List.setIfInBounds_toArray, List.set_cons_zero, List.set_cons_succ]
      refine takeL (i := 5) (v := _) rfl (by kernel_rfl) (by kernel_rfl) (by kernel_rfl) (fun _ _ _ h => h) (Or.inl ⟨by rfl, by intro w hSw; (try dsimp only at hSw); go_simp; try with_reducible rfl⟩) (by assumption) ?_
      try simp only [Act.put, List.setIfInBounds_toArray, List.set_cons_zero, List.set_cons_succ]
      have hkd : Keeps Nil w6 w6.drew := (Keeps.refl Nil w6).drew
      have hkb : Keeps Nil w6 (w6.drew.alloc (.cells #[.int .i64 at_, errV p 3] 98)) := hkd.alloc _
      have hbb := Blk.new w6.drew [.int .i64 at_, errV p 3] 98
      refine onlyL (i := 6) rfl (by kernel_rfl) (fun K hK => ?_)
      go_simp
      refine (fun hHeld => hK _ _ hHeld ?_) (⟨hkb.cell cp (fun h => h), hkb.cell ca (fun h => h), hkb.cell ge (fun h => h)⟩)
      clear hK
      try simp only [Act.put, List.setIfInBounds_toArray, List.set_cons_zero, List.set_cons_succ]
      refine takeL (i := 7) (v := _) rfl (by kernel_rfl) (by kernel_rfl) (by kernel_rfl) (fun _ _ _ h => h) (Or.inl ⟨by rfl, by intro w hSw; (try dsimp only at hSw); go_simp; try with_reducible rfl⟩) (by assumption) ?_
      try simp only [Act.put, List.setIfInBounds_toArray, List.set_cons_zero, List.set_cons_succ]
      refine takeL (i := 8) (v := _) rfl (by kernel_rfl) (by kernel_rfl) (by kernel_rfl) (fun _ _ _ h => h) (Or.inl ⟨by rfl, by intro w hSw; (try dsimp only at hSw); go_simp; try with_reducible rfl⟩) (by assumption) ?_
      try simp only [Act.put, List.setIfInBounds_toArray, List.set_cons_zero, List.set_cons_succ]
      refine wpAnyH_done (by kernel_rfl) ?_ _
      go_wp2_with fail
      go_ret
      refine ⟨.done at_, _, w3.heap.size, w5, rfl, ?_, freshAt_at (by have := hkw6.size; exact this), hR5, hup.step hkb (fun _ h => h.elim), hkw6.step hkb (fun _ h => h.elim), hszw⟩
      refine .inr (.inr ⟨w6.heap.size, 3, by decide, rfl, ?_, ?_, ?_⟩)
      · have : outQ l.length (.done at_) = at_ := by simp [outQ, hl, hlt]
        rw [this]; exact hbb
      · simp [outC, hl, hlt]
      · simp [outP, hl, hlt]
    · obtain rfl : at_ = len := by omega
      go_wp2_with fail
      go_ret
      refine ⟨.done at_, .nilIface, w3.heap.size, w5, rfl, ?_, freshAt_nil _, hR5, hup, hkw6, hszw⟩
      refine .inl ⟨rfl, ?_, ?_, ?_⟩ <;> simp [outC, outP, outQ, hl]
  · go_wp2_with fail
    go_ret
    refine ⟨.fell q k, _, w3.heap.size, w5, rfl, ?_, freshAt_at (by omega), hR5, hup, hkw6, hszw⟩
    exact .inr (.inr ⟨g, k, hk19, rfl, hb5.keep hk56 (fun e => by have : g = w3.heap.size := e; omega), rfl, rfl⟩)

set_option maxHeartbeats 400000 in
theorem read_idle (g : Nat) (w : World) :
    CallsD Tryd.prog 84 #[.pointer (some ⟨g, 0, none⟩)] .returning w fun e u' w' => u' = .returning ∧ e = .returned (.tuple #[]) ∧ w = w' := by
  refine callsD_recover Tryd.func84 rfl rfl rfl found_idle ?_
  simp only [Tryd.ntmps84, List.size_toArray, List.length_cons, List.length_nil, Nat.reduceAdd, Nat.reduceSub, Array.replicate_succ,
     Array.replicate_zero, List.push_toArray, List.append_toArray, List.nil_append, List.cons_append, Act.put, List.setIfInBounds_toArray, List.set_cons_succ, List.set_cons_zero]
  go_wp2
  go_end0
  exact ⟨rfl, rfl⟩
theorem IsErr.form {w : World} {p : Nat → Addr} {v : Value} {c : Int} {pl : Bool} {q : Int} (h : IsErr w p v c pl q) : v = .nilIface ∨ ∃ u x, v = .iface u x := by
  rcases h with ⟨rfl, _⟩ | ⟨k, _, rfl, _⟩ | ⟨b, k, _, rfl, _⟩
  · exact .inl rfl
  · exact .inr ⟨_, _, rfl⟩
  · exact .inr ⟨_, _, rfl⟩
set_option maxRecDepth 20000 in
set_option maxHeartbeats 1600000 in
theorem lawRead_walk (F : FuncId) (cap : Array Value) (w : World) (hF : ∀ x w, (callFunc F (#[x] ++ cap)).run Tryd.prog w = .ok (.enter F (#[x] ++ cap)) w) {p : Nat → Addr} {w0 : World} (hE0 : ErrTwo w0 p) (h0 : Keeps Nil w0 w) {a : Option Addr} {len capb : Nat} {l : List Int} (hrow : Row .u8 w a len l) (hnil : a = none → capb = 0 ∧ len = 0) (hlen : len ≤ 100000)
    {S : Nat → Prop} (hS0 : ∀ k, S k → w0.heap.size ≤ k ∧ k < w.heap.size) {R : Nat → Out → World → Prop}
    (h : ∀ (c : Nat) (w1 : World) (gr : Nat) (ar : Option Addr) (cr : Nat), Keeps Nil w w1 → w.heap.size ≤ c → c < w1.heap.size → (∀ k, wrOf gr ar k → w.heap.size ≤ k) → gr ≠ c → IsRd 102 w1 gr ar cr l 0 [] → Calls Tryd.prog F (#[.pointer (some ⟨gr, 0, none⟩)] ++ cap) w1 (ReadIn S p l gr (R c) w1)) :
    Calls Tryd.prog 36 #[.slice a len capb, .func (.func F) #[] cap] w (ReadPost S p l R w) := by
  have hmf : ∀ (fn : Fn) (first cap : Array Value) (w : World), (Instr.makeFunc fn first cap).run Tryd.prog w = .ok (.func fn first cap) w := fun _ _ _ _ => rfl
  have hk0 : Keeps Nil w (w.alloc (.cells #[.nilIface] 28)) := (Keeps.refl Nil w).alloc _
  have hB := Blk.new w [.nilIface] 28
  have hsz : (w.alloc (.cells #[.nilIface] 28)).heap.size = w.heap.size + 1 := size_alloc' _ _
  have HR := Lib.hid (codeRead_walk F cap (w.alloc (.cells #[.nilIface] 28)) hF hE0 (h0.trans hk0) (hrow.keep hk0) hnil hlen (S := S) (fun k hk => ⟨(hS0 k hk).1, by have := (hS0 k hk).2; omega⟩) (R := R)
    (fun c w1 gr ar cr h1 h2 h3 h4 h5 h6 => h c w1 gr ar cr (hk0.trans h1) (by omega) h3 (fun k hk => by have := h4 k hk; omega) h5 h6))
  have hSn : ¬ S w.heap.size := fun h => by have := (hS0 _ h).2; omega
  clear h hF hrow
  go_enter_defers Tryd.func36, Tryd.ntmps36
  go_wp2_with fail
  refine HR.out.mono ?_
  rintro e w2 ⟨o, v, c, w3, rfl, hI, hfr, hRo, hup, hkS, hc⟩
  have hB2 := hB.keep hkS hSn
  have c2 := hB2.cell 0 (v := .nilIface) rfl
  have z2 := hB2.frozen 0
  have hkw : Keeps S w w2 := (hk0.nil (S := S)).trans hkS
  have hfin : ReadPost S p l R w (.returned v) (w2.setCell ⟨w.heap.size, 0, none⟩ v) := by
    refine ⟨o, v, c, w3, rfl, ?_, ?_, hRo, ?_, hkw.setCell (p := ⟨w.heap.size, 0, none⟩) (.inr (Nat.le_refl _)) _, by omega⟩
    · refine hI.keepS ((Keeps.refl (One w.heap.size) w2).setOne 0 v) (fun bb hbb e => ?_)
      have h1 : bb = w.heap.size := e
      have := hfr bb hbb
      omega
    · intro bb hbb
      have := hfr bb hbb
      omega
    · exact (hup.mono (fun i hi => ⟨by have := hi.1; omega, hi.2⟩)).setCell (p := ⟨w.heap.size, 0, none⟩) (.inl ⟨Nat.le_refl _, by show w.heap.size ≤ c; omega⟩) v
  have HF := Lib.hid hfin
  have hB3 := (hB2.set 0 v).cell 0 (v := v) rfl
  rcases hI.form with rfl | ⟨u, x, rfl⟩
  · clear hI hfr hRo hup hkS hfin hB2
    go_wp2
    refine leaves_cons (f := 84) (args := #[.pointer (some ⟨w.heap.size, 0, none⟩)]) (by simp) (by simp [go_sem]) ?_
    refine (read_idle w.heap.size _).mono ?_
    rintro e u' w'' ⟨rfl, rfl, rfl⟩
    simp [Leaves, settle, results, Tryd.results36, go_sem, hB3]
    exact HF.out
  · clear hI hfr hRo hup hkS hfin hB2
    go_wp2
    refine leaves_cons (f := 84) (args := #[.pointer (some ⟨w.heap.size, 0, none⟩)]) (by simp) (by simp [go_sem]) ?_
    refine (read_idle w.heap.size _).mono ?_
    rintro e u' w'' ⟨rfl, rfl, rfl⟩
    simp [Leaves, settle, results, Tryd.results36, go_sem, hB3]
    exact HF.out
end Go.Proofs.YtdkfhfflhglmaaaDoor
