/-
  Package code's Reader: what is read, a contract each; Read over whatever function.
-/
import Derived.Test.YtdkfhfflhglmaaaDoorCode
import Derived.Test.YtdkfhfflhglmaaaDoorTrap
import Derived.Laws.BitsAllLaws
import Derived.Test.YtdkfhfflhglmaaaDoorRegion
namespace Go.Proofs.YtdkfhfflhglmaaaDoor
set_option linter.unusedSimpArgs false
set_option linter.unusedVariables false
open Go.RowKit

/-- A reader at block g over bytes that lie somewhere else. -/
structure IsRd (T : TypeId) (w : World) (g : Nat) (a : Option Addr) (cap : Nat) (l : List Int) (at_ : Nat) (more : List Value) : Prop where
  obj : Blk w g (.slice a l.length cap :: .int .i64 at_ :: more) T
  row : Row .u8 w a l.length l
  nil : a = none → cap = 0 ∧ l.length = 0
  le : l.length ≤ cap
  ne : ¬ blkOf a g
  blk : ∀ k, blkOf a k → k < w.heap.size
  pos : at_ ≤ l.length
theorem Row.keepB {k : IntKind} {w w' : World} {a : Option Addr} {len : Nat} {l : List Int} {S : Nat → Prop} (h : Row k w a len l) (hk : Keeps S w w') (hn : ∀ b, blkOf a b → ¬ S b) : Row k w' a len l :=
  ⟨h.llen, h.most, fun h0 => by
    obtain ⟨b, off, ha, hb, hc⟩ := h.cell h0
    exact ⟨b, off, ha, Nat.lt_of_lt_of_le hb hk.size, fun i hi => hk.cell (hc i hi) (hn b ⟨_, ha, rfl⟩)⟩, h.wf⟩
section
variable {T : TypeId} {w w' : World} {g cap at_ : Nat} {a : Option Addr} {l : List Int} {more : List Value}
theorem IsRd.keep {S : Nat → Prop} (h : IsRd T w g a cap l at_ more) (hk : Keeps S w w') (hn : ∀ k, wrOf g a k → ¬ S k) : IsRd T w' g a cap l at_ more :=
  ⟨h.obj.keep hk (hn g (.inl rfl)), h.row.keepB hk (fun k hk' => hn k (.inr hk')), h.nil, h.le, h.ne, fun k hk' => Nat.lt_of_lt_of_le (h.blk k hk') hk.size, h.pos⟩
theorem IsRd.keep0 (h : IsRd T w g a cap l at_ more) (hk : Keeps Nil w w') : IsRd T w' g a cap l at_ more := h.keep hk (fun _ _ h => h)
/-- The place has moved on. -/
theorem IsRd.moved (h : IsRd T w g a cap l at_ more) {n : Nat} (hn : n ≤ l.length) : IsRd T (w.setCell ⟨g, 1, none⟩ (.int .i64 n)) g a cap l n more :=
  ⟨h.obj.set 1 _, h.row.keepB ((Keeps.refl (One g) w).setOne 1 _) (fun b hb e => h.ne (by rw [← show b = g from e]; exact hb)), h.nil, h.le, h.ne, fun k hk => by simpa [World.setCell] using h.blk k hk, hn⟩
end

/-- The bytes from a place on. -/
def cutL (l : List Int) (at_ n : Nat) : List Int := (l.drop at_).take n
theorem cutL_length (l : List Int) (at_ n : Nat) (h : at_ + n ≤ l.length) : (cutL l at_ n).length = n := by simp [cutL]; omega
/-- What 'takes' hands back where there are enough. -/
def TakesPost (T : TypeId) (g : Nat) (a : Option Addr) (cap : Nat) (l : List Int) (at_ n : Nat) (w : World) (e : Ending) (w' : World) : Prop :=
  ∃ a' c', e = .returned (.slice a' n c') ∧ Row .u8 w' a' n (cutL l at_ n) ∧ (a' = none → c' = 0 ∧ n = 0) ∧ IsRd T w' g a cap l (at_ + n) [] ∧ Keeps (One g) w w'

theorem Row.cut {w : World} {b off : Nat} {l : List Int} (h : Row .u8 w (some ⟨b, off, none⟩) l.length l) (at_ n : Nat) (hn : at_ + n ≤ l.length) : Row .u8 w (some ⟨b, off + at_, none⟩) n (cutL l at_ n) := by
  refine ⟨cutL_length l at_ n hn, by have := h.most; omega, fun h0 => ?_, fun x hx => h.wf x (List.mem_of_mem_drop (List.mem_of_mem_take hx))⟩
  obtain ⟨b', o', he, hb, hc⟩ := h.cell (by omega)
  cases he
  refine ⟨b, off + at_, rfl, hb, fun i hi => ?_⟩
  have := hc (at_ + i) (by omega)
  rw [show off + at_ + i = off + (at_ + i) by omega, this]
  simp [cutL, List.getD, List.getElem?_take, hi]
theorem Row.zero {w : World} {a : Option Addr} (l : List Int) (at_ : Nat) : Row .u8 w a 0 (cutL l at_ 0) := ⟨by simp [cutL], by omega, fun h => by omega, fun x hx => by simp [cutL] at hx⟩

set_option maxHeartbeats 1600000 in
theorem takes_ok {w : World} {g cap at_ : Nat} {a : Option Addr} {l : List Int} (h : IsRd 102 w g a cap l at_ []) (from_ : Int) (n : Nat) (hn : at_ + n ≤ l.length) :
    Calls Tryd.prog 86 #[.pointer (some ⟨g, 0, none⟩), .int .i64 from_, .int .i64 n] w (TakesPost 102 g a cap l at_ n w) := by
  have c0 := h.obj.cell 0 (v := .slice a l.length cap) rfl
  have c1 := h.obj.cell 1 (v := .int .i64 at_) rfl
  have z1 := h.obj.frozen 1
  have hm := h.row.most
  have hle := h.le
  have hpos := h.pos
  have hw1 : IntKind.i64.wrap ((l.length : Int) - at_) = (l.length : Int) - at_ := by rw [IntKind.wrap_i64]; omega
  have hc1 : ¬ (l.length : Int) - at_ < n := by omega
  have hc2 : decide ((l.length : Int) - at_ < n) = false := by simpa using hc1
  have hcast : ((at_ : Int) + n) = ((at_ + n : Nat) : Int) := by omega
  have hmv : ∀ q, IsRd 102 ((w.drewN q).setCell ⟨g, 1, none⟩ (.int .i64 (at_ + n : Nat))) g a cap l (at_ + n) [] := fun q => (h.keep0 ((Keeps.refl Nil w).drewN q)).moved hn
  have hkk : ∀ q, Keeps (One g) w ((w.drewN q).setCell ⟨g, 1, none⟩ (.int .i64 (at_ + n : Nat))) := fun q => ((Keeps.refl (One g) w).drewN q).setOne 1 _
  have HM := Lib.hid (And.intro hmv hkk)
  have HC := Lib.hid hcast
  have HR := Lib.hid (And.intro h.row h.nil)
  clear hmv hkk hcast h
  generalize hL : l.length = L at *
  go_enter Tryd.func86, Tryd.ntmps86
  go_wp2_with fail
  go_quiet (fail)
  go_wp2_with fail
  rw [HC.out]
  obtain ⟨hmv, hkk⟩ := HM.out
  have h2 := hmv nq
  have hk2 := hkk nq
  clear HM hmv hkk c0 c1 z1
  have c0 := h2.obj.cell 0 (v := .slice a L cap) (by rw [hL]; rfl)
  have c1 := h2.obj.cell 1 (v := .int .i64 (at_ + n : Nat)) rfl
  have hw2 : IntKind.i64.wrap (((at_ + n : Nat) : Int) - n) = at_ := by rw [IntKind.wrap_i64]; omega
  have H2 := Lib.hid (And.intro h2 hk2)
  clear h2 hk2 HC
  generalize he : at_ + n = e at *
  generalize (w.drewN nq).setCell ⟨g, 1, none⟩ (.int .i64 (e : Int)) = wz at *
  have hl0 : (0 : Int) ≤ at_ := by omega
  have hl1 : (at_ : Int) ≤ e := by omega
  have hl2 : at_ ≤ e := by omega
  have hl3 : e ≤ cap := by omega
  have hen : e - at_ = n := by omega
  have HE := Lib.hid he
  have hl4 : (e : Int) ≤ cap := by omega
  clear he
  cases a with
  | none =>
    obtain ⟨hc0, hL0⟩ := HR.out.2 rfl
    subst hc0 hL0
    obtain rfl : e = 0 := by omega
    obtain rfl : at_ = 0 := by omega
    obtain rfl : n = 0 := by omega
    go_quiet (fail)
    go_wp2_with fail
    go_ret
    exact ⟨none, 0, rfl, Row.zero l 0, fun _ => ⟨rfl, rfl⟩, H2.out.1.keep0 ((Keeps.refl Nil wz).drewN _), H2.out.2.drewN _⟩
  | some ad =>
    obtain ⟨b, off, s⟩ := ad
    by_cases hcap : cap = at_
    · obtain rfl : n = 0 := by omega
      go_quiet (fail)
      go_wp2_with fail
      go_ret
      have h2 := H2.out.1.keep0 ((Keeps.refl Nil wz).drewN nq)
      rw [← HE.out] at h2
      exact ⟨some ⟨b, off, s⟩, 0, rfl, Row.zero l _, (fun h => by cases h), h2, H2.out.2.drewN _⟩
    · go_quiet (fail)
      go_wp2_with fail
      go_ret
      have h2 := H2.out.1.keep0 ((Keeps.refl Nil wz).drewN nq)
      refine ⟨_, _, rfl, ?_, (fun h => by cases h), by rw [HE.out]; exact h2, H2.out.2.drewN _⟩
      by_cases hn0 : n = 0
      · subst hn0
        exact Row.zero l _
      · have hrow := h2.row
        obtain ⟨b', o', hb', _, _⟩ := hrow.cell (by omega)
        cases hb'
        rw [Addr.add_lit]
        exact hrow.cut at_ n (by omega)

/-- A failure that may have changed the blocks of S. -/
def FailS (S : Nat → Prop) (at_ : Int) (v : Value) (w : World) (e : Ending) (w' : World) : Prop :=
  ∃ g, e = .panicked (chainOf (thrownV (.iface 96 (.pointer (some ⟨g, 0, none⟩))))) ∧ Blk w' g [.int .i64 at_, v] 98 ∧ w.heap.size ≤ g ∧ Keeps S w w'
theorem FailPost.to {S : Nat → Prop} {at_ : Int} {v : Value} {w w' : World} {e : Ending} (h : FailPost at_ v w e w') : FailS S at_ v w e w' := by
  obtain ⟨g, h1, h2, h3, h4⟩ := h
  exact ⟨g, h1, h2, h3, h4.nil⟩
theorem FailS.from {S : Nat → Prop} {at_ : Int} {v : Value} {w w1 w' : World} {e : Ending} (h : FailS S at_ v w1 e w') (hk : Keeps S w w1) : FailS S at_ v w e w' := by
  obtain ⟨g, h1, h2, h3, h4⟩ := h
  exact ⟨g, h1, h2, Nat.le_trans hk.size h3, hk.trans h4⟩
theorem FailS.panicked {S : Nat → Prop} {at_ : Int} {v : Value} {w w' : World} {e : Ending} (h : FailS S at_ v w e w') : ∃ g, e = .panicked (chainOf (thrownV (.iface 96 (.pointer (some ⟨g, 0, none⟩))))) := by
  obtain ⟨g, h1, _⟩ := h
  exact ⟨g, h1⟩

set_option maxHeartbeats 800000 in
theorem takes_short {w : World} {p : Nat → Addr} (hE : Errs w p) {g cap at_ : Nat} {a : Option Addr} {l : List Int} (h : IsRd 102 w g a cap l at_ []) (from_ : Int) (n : Nat) (hn : l.length < at_ + n) (hn2 : n ≤ 9223372036854775807) :
    Calls Tryd.prog 86 #[.pointer (some ⟨g, 0, none⟩), .int .i64 from_, .int .i64 n] w (FailPost from_ (errV p 2) w) := by
  have c0 := h.obj.cell 0 (v := .slice a l.length cap) rfl
  have c1 := h.obj.cell 1 (v := .int .i64 at_) rfl
  have g2 : w.cell? ⟨3, 0, none⟩ = some (errV p 2) := hE.at_ 2 (by decide)
  unfold errV at g2 ⊢
  have hm := h.row.most
  have hp := h.pos
  have hw1 : IntKind.i64.wrap ((l.length : Int) - at_) = (l.length : Int) - at_ := by rw [IntKind.wrap_i64]; omega
  have hc1 : (l.length : Int) - at_ < n := by omega
  have hc2 : decide ((l.length : Int) - at_ < n) = true := by simpa using hc1
  clear h
  generalize hL : l.length = L at *
  go_enter Tryd.func86, Tryd.ntmps86
  go_wp2_with fail
  go_quiet (fail)
  go_wp2_with fail
  refine (fail_err _ _ _ _).mono ?_
  rintro e w2 ⟨gg, rfl, hb, hge, hk⟩
  go_wp2
  exact ⟨rfl, gg, rfl, hb, hge, ((Keeps.refl Nil w).drewN _).trans hk⟩

/-- What a read hands back. -/
def RdOk (v : Value) (T : TypeId) (g : Nat) (a : Option Addr) (cap : Nat) (l : List Int) (at_ : Nat) (w : World) (e : Ending) (w' : World) : Prop :=
  e = .returned v ∧ IsRd T w' g a cap l at_ [] ∧ Keeps (One g) w w'
theorem cutL_getD (l : List Int) (at_ n i : Nat) (hi : i < n) : (cutL l at_ n).getD i 0 = l.getD (at_ + i) 0 := by
  simp [cutL, List.getD, List.getElem?_take, hi]
set_option maxHeartbeats 800000 in
theorem rdU8_ok {w : World} {g cap at_ : Nat} {a : Option Addr} {l : List Int} (h : IsRd 102 w g a cap l at_ []) (hn : at_ + 1 ≤ l.length) :
    Calls Tryd.prog 39 #[.pointer (some ⟨g, 0, none⟩)] w (RdOk (.int .i64 (l.getD at_ 0)) 102 g a cap l (at_ + 1) w) := by
  have c1 := h.obj.cell 1 (v := .int .i64 at_) rfl
  have HT := Lib.hid (takes_ok h at_ 1 hn)
  have hb := u8_wf (h.row.wf (l.getD at_ 0) (by simp [List.getD, show at_ < l.length by omega]))
  clear h
  go_enter Tryd.func39, Tryd.ntmps39
  go_wp2_with fail
  refine HT.out.mono ?_
  rintro e w2 ⟨a', c', rfl, hr, _, h2, hk2⟩
  obtain ⟨b, off, rfl, hbb, hc⟩ := hr.cell (by omega)
  have c0 := hc 0 (by omega)
  rw [cutL_getD l at_ 1 0 (by omega)] at c0
  simp only [Nat.add_zero] at c0
  clear hc hr HT
  generalize l.getD at_ 0 = x at *
  go_wp2_with fail
  go_ret
  exact ⟨rfl, h2, hk2⟩
set_option maxHeartbeats 800000 in
theorem rdU8_short {w : World} {p : Nat → Addr} (hE : Errs w p) {g cap at_ : Nat} {a : Option Addr} {l : List Int} (h : IsRd 102 w g a cap l at_ []) (hn : l.length < at_ + 1) :
    Calls Tryd.prog 39 #[.pointer (some ⟨g, 0, none⟩)] w (FailPost at_ (errV p 2) w) := by
  have c1 := h.obj.cell 1 (v := .int .i64 at_) rfl
  have HT := Lib.hid (takes_short hE h at_ 1 hn (by omega))
  clear h hE
  go_enter Tryd.func39, Tryd.ntmps39
  go_wp2_with fail
  refine HT.out.mono ?_
  rintro e w2 ⟨gg, rfl, hb, hge, hk⟩
  go_wp2
  exact ⟨rfl, gg, rfl, hb, hge, hk⟩

theorem or32 (n P : Nat) (hP : 2 ^ n = P) (a x : Int) (ha : 0 ≤ a) (ha2 : a < P) (hx : 0 ≤ x) (h : a + P * x < 4294967296) : bits .or .u32 a (x * P) = a + P * x := by
  obtain ⟨A, rfl⟩ := Int.eq_ofNat_of_zero_le ha
  obtain ⟨X, rfl⟩ := Int.eq_ofNat_of_zero_le hx
  have h1 : A < 2 ^ n := by rw [hP]; omega
  have h5 : ((P : Int) * (X : Int)) = ((P * X : Nat) : Int) := by simp
  have h2 : A + P * X < 4294967296 := by rw [h5] at h; omega
  have h3 : ((X : Int) * (P : Int)) = ((X * P : Nat) : Int) := by simp
  have h4 : X * P = P * X := Nat.mul_comm _ _
  rw [h3, h5, h4, u32_or_nat A (P * X) (by omega) (by omega), Nat.or_comm, ← hP, ← Nat.two_pow_add_eq_or_of_lt h1]
  omega
theorem or4 (a b c d : Int) (ha : 0 ≤ a ∧ a ≤ 255) (hb : 0 ≤ b ∧ b ≤ 255) (hc : 0 ≤ c ∧ c ≤ 255) (hd : 0 ≤ d ∧ d ≤ 255) :
    bits .or .u32 (bits .or .u32 (bits .or .u32 a (b * 256)) (c * 65536)) (d * 16777216) = a + 256 * b + 65536 * c + 16777216 * d := by
  have h1 := or32 8 256 (by decide) a b ha.1 (by omega) hb.1 (by omega)
  have h2 := or32 16 65536 (by decide) (a + 256 * b) c (by omega) (by omega) hc.1 (by omega)
  have h3 := or32 24 16777216 (by decide) (a + 256 * b + 65536 * c) d (by omega) (by omega) hd.1 (by omega)
  have e1 : ((256 : Nat) : Int) = 256 := rfl
  have e2 : ((65536 : Nat) : Int) = 65536 := rfl
  have e3 : ((16777216 : Nat) : Int) = 16777216 := rfl
  rw [e1] at h1
  rw [e2] at h2
  rw [e3] at h3
  rw [h1, h2, h3]
/-- Four bytes' number, the least first. -/
def num4 (l : List Int) (at_ : Nat) : Int := l.getD at_ 0 + 256 * l.getD (at_ + 1) 0 + 65536 * l.getD (at_ + 2) 0 + 16777216 * l.getD (at_ + 3) 0
set_option maxHeartbeats 1600000 in
theorem rdU32_ok {w : World} {g cap at_ : Nat} {a : Option Addr} {l : List Int} (h : IsRd 102 w g a cap l at_ []) (hn : at_ + 4 ≤ l.length) :
    Calls Tryd.prog 44 #[.pointer (some ⟨g, 0, none⟩)] w (RdOk (.int .u32 (num4 l at_)) 102 g a cap l (at_ + 4) w) := by
  have c1 := h.obj.cell 1 (v := .int .i64 at_) rfl
  have HT := Lib.hid (takes_ok h at_ 4 hn)
  have hb : ∀ i, i < 4 → 0 ≤ l.getD (at_ + i) 0 ∧ l.getD (at_ + i) 0 ≤ 255 := fun i hi => u8_wf (h.row.wf (l.getD (at_ + i) 0) (by simp [List.getD, show at_ + i < l.length by omega]))
  have hb0 := hb 0 (by omega)
  have hb1 := hb 1 (by omega)
  have hb2 := hb 2 (by omega)
  have hb3 := hb 3 (by omega)
  clear h hb
  have HN := Lib.hid (show num4 l at_ = l.getD (at_ + 0) 0 + 256 * l.getD (at_ + 1) 0 + 65536 * l.getD (at_ + 2) 0 + 16777216 * l.getD (at_ + 3) 0 from rfl)
  go_enter Tryd.func44, Tryd.ntmps44
  go_wp2_with fail
  refine HT.out.mono ?_
  rintro e w2 ⟨a', c', rfl, hr, _, h2, hk2⟩
  obtain ⟨b, off, rfl, hbb, hc⟩ := hr.cell (by omega)
  have d0 := hc 0 (by omega)
  have d1 := hc 1 (by omega)
  have d2 := hc 2 (by omega)
  have d3 := hc 3 (by omega)
  rw [cutL_getD l at_ 4 _ (by omega)] at d0 d1 d2 d3
  simp only [Nat.add_zero] at d0
  simp only [Nat.add_zero] at hb0
  clear hc hr HT
  rw [Nat.add_zero] at HN
  generalize l.getD at_ 0 = x0 at *
  generalize l.getD (at_ + 1) 0 = x1 at *
  generalize l.getD (at_ + 2) 0 = x2 at *
  generalize l.getD (at_ + 3) 0 = x3 at *
  go_wp2_with fail
  go_quiet (fail)
  go_wp2_with fail
  go_ret
  refine ⟨?_, h2.keep0 ((Keeps.refl Nil w2).drewN _), hk2.drewN _⟩
  rw [HN.out, ← or4 x0 x1 x2 x3 hb0 hb1 hb2 hb3]
  rfl
set_option maxHeartbeats 800000 in
theorem rdU32_short {w : World} {p : Nat → Addr} (hE : Errs w p) {g cap at_ : Nat} {a : Option Addr} {l : List Int} (h : IsRd 102 w g a cap l at_ []) (hn : l.length < at_ + 4) :
    Calls Tryd.prog 44 #[.pointer (some ⟨g, 0, none⟩)] w (FailPost at_ (errV p 2) w) := by
  have c1 := h.obj.cell 1 (v := .int .i64 at_) rfl
  have HT := Lib.hid (takes_short hE h at_ 4 hn (by omega))
  clear h hE
  go_enter Tryd.func44, Tryd.ntmps44
  go_wp2_with fail
  refine HT.out.mono ?_
  rintro e w2 ⟨gg, rfl, hb, hge, hk⟩
  go_wp2
  exact ⟨rfl, gg, rfl, hb, hge, hk⟩
theorem num4_bounds {l : List Int} (hb : ∀ x ∈ l, 0 ≤ x ∧ x < 256) (at_ : Nat) (h : at_ + 4 ≤ l.length) : 0 ≤ num4 l at_ ∧ num4 l at_ < 4294967296 := by
  have : ∀ i, i < l.length → 0 ≤ l.getD i 0 ∧ l.getD i 0 < 256 := fun i hi => hb _ (by simp [List.getD, hi])
  have h0 := this at_ (by omega)
  have h1 := this (at_ + 1) (by omega)
  have h2 := this (at_ + 2) (by omega)
  have h3 := this (at_ + 3) (by omega)
  unfold num4
  omega
theorem Row.bytes {w : World} {a : Option Addr} {n : Nat} {l : List Int} (h : Row .u8 w a n l) : ∀ x ∈ l, 0 ≤ x ∧ x < 256 := fun x hx => by
  have := u8_wf (h.wf x hx)
  omega

/-- What a read of bytes hands back: they lie in new memory. -/
def RdBytes (r : List Int) (T : TypeId) (g : Nat) (a : Option Addr) (cap : Nat) (l : List Int) (at_ : Nat) (w : World) (e : Ending) (w' : World) : Prop :=
  ∃ a' c', e = .returned (.slice a' r.length c') ∧ Own w' 5 1 a' c' r.length (byteV r) ∧ (∀ k, blkOf a' k → w.heap.size ≤ k) ∧ IsRd T w' g a cap l at_ [] ∧ Keeps (One g) w w'
set_option maxHeartbeats 800000 in
theorem rdRaw_ok {w : World} {g cap at_ : Nat} {a : Option Addr} {l : List Int} (h : IsRd 102 w g a cap l at_ []) (n : Nat) (hn : at_ + n ≤ l.length) (hl : l.length ≤ 100000) :
    Calls Tryd.prog 38 #[.pointer (some ⟨g, 0, none⟩), .int .i64 n] w (RdBytes (cutL l at_ n) 102 g a cap l (at_ + n) w) := by
  have c1 := h.obj.cell 1 (v := .int .i64 at_) rfl
  have HT := Lib.hid (takes_ok h at_ n hn)
  have hlen := cutL_length l at_ n hn
  clear h
  have hn0 : ¬ (n : Int) < 0 := by omega
  go_enter Tryd.func38, Tryd.ntmps38
  go_wp2_with fail
  refine HT.out.mono ?_
  rintro e w2 ⟨a', c', rfl, hr, hnil, h2, hk2⟩
  go_wp2_with fail
  refine (cloneB_walk hr hnil (by omega)).mono ?_
  rintro e w3 ⟨a3, c3, rfl, ho3, hk3, hf3⟩
  have h3 := h2.keep0 hk3
  have hk4 := hk2.step hk3 (fun _ h => h.elim)
  go_wp2_with fail
  go_ret
  exact ⟨a3, c3, by rw [hlen]; rfl, ho3, fun k hk => Nat.le_trans hk2.size (hf3 k hk), h3, hk4⟩
set_option maxHeartbeats 800000 in
theorem rdRaw_short {w : World} {p : Nat → Addr} (hE : Errs w p) {g cap at_ : Nat} {a : Option Addr} {l : List Int} (h : IsRd 102 w g a cap l at_ []) (n : Nat) (hn : l.length < at_ + n) (hn2 : n ≤ 9223372036854775807) :
    Calls Tryd.prog 38 #[.pointer (some ⟨g, 0, none⟩), .int .i64 n] w (FailPost at_ (errV p 2) w) := by
  have c1 := h.obj.cell 1 (v := .int .i64 at_) rfl
  have HT := Lib.hid (takes_short hE h at_ n hn hn2)
  clear h hE
  have hn0 : ¬ (n : Int) < 0 := by omega
  go_enter Tryd.func38, Tryd.ntmps38
  go_wp2_with fail
  refine HT.out.mono ?_
  rintro e w2 ⟨gg, rfl, hb, hge, hk⟩
  go_wp2
  exact ⟨rfl, gg, rfl, hb, hge, hk⟩
set_option maxHeartbeats 800000 in
theorem rdRaw_neg {w : World} {p : Nat → Addr} (hE : Errs w p) {g cap at_ : Nat} {a : Option Addr} {l : List Int} (h : IsRd 102 w g a cap l at_ []) (n : Int) (hn : n < 0) :
    Calls Tryd.prog 38 #[.pointer (some ⟨g, 0, none⟩), .int .i64 n] w (FailPost at_ (errV p 1) w) := by
  have c1 := h.obj.cell 1 (v := .int .i64 at_) rfl
  have g1 : w.cell? ⟨2, 0, none⟩ = some (errV p 1) := hE.at_ 1 (by decide)
  unfold errV at g1 ⊢
  clear h hE
  go_enter Tryd.func38, Tryd.ntmps38
  go_wp2_with fail
  refine wp_region_held_drew (S := fun w' => w'.cell? ⟨g, 1, none⟩ = some (.int .i64 at_) ∧ w'.cell? ⟨2, 0, none⟩ = some (.iface 115 (.pointer (some (p 1))))) (by kernel_rfl) ⟨c1, g1⟩ (fun hHeld => ?_)
  refine takeL (i := 0) (v := _) rfl (by kernel_rfl) (by kernel_rfl) (by kernel_rfl) (fun _ _ _ h => h) (Or.inl ⟨by rfl, by intro w hSw; (try dsimp only at hSw); go_simp; try with_reducible rfl⟩) (by assumption) ?_
  try simp only [Act.put, List.setIfInBounds_toArray, List.set_cons_zero, List.set_cons_succ]
  refine takeL (i := 1) (v := _) rfl (by kernel_rfl) (by kernel_rfl) (by kernel_rfl) (fun _ _ _ h => h) (Or.inl ⟨by rfl, by intro w hSw; (try dsimp only at hSw); go_simp; try with_reducible rfl⟩) (by assumption) ?_
  try simp only [Act.put, List.setIfInBounds_toArray, List.set_cons_zero, List.set_cons_succ]
  refine takeL (i := 2) (v := _) rfl (by kernel_rfl) (by kernel_rfl) (by kernel_rfl) (fun _ _ _ h => h) (Or.inl ⟨by rfl, by intro w hSw; (try dsimp only at hSw); go_simp; try with_reducible rfl⟩) (by assumption) ?_
  try simp only [Act.put, List.setIfInBounds_toArray, List.set_cons_zero, List.set_cons_succ]
  refine takeL (i := 3) (v := _) rfl (by kernel_rfl) (by kernel_rfl) (by kernel_rfl) (fun _ _ _ h => h) (Or.inl ⟨by rfl, by intro w hSw; (try dsimp only at hSw); go_simp; try with_reducible rfl⟩) (by assumption) ?_
  try simp only [Act.put, List.setIfInBounds_toArray, List.set_cons_zero, List.set_cons_succ]
  refine takeL (i := 4) (v := _) rfl (by kernel_rfl) (by kernel_rfl) (by kernel_rfl) (fun _ _ _ h => h) (Or.inl ⟨by rfl, by intro w hSw; (try dsimp only at hSw); go_simp; try with_reducible rfl⟩) (by assumption) ?_
  try simp only [Act.put, List.setIfInBounds_toArray, List.set_cons_zero, List.set_cons_succ]
  have HF := Lib.hid (fail_err at_ 115 (.pointer (some (p 1))) w.drew)
  refine onlyL (i := 5) rfl (by kernel_rfl) (fun K hK => ?_)
  go_simp
  refine HF.out.mono ?_
  rintro e w2 ⟨gg, rfl, hb, hge, hk⟩
  go_wp2
  exact ⟨rfl, gg, rfl, hb, hge, (Keeps.refl Nil w).drew.trans hk⟩
end Go.Proofs.YtdkfhfflhglmaaaDoor
