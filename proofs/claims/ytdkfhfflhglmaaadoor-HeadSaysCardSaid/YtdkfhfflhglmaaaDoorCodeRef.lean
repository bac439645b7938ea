/-
  courierref9's Reader: behind an error nothing is read any more.
-/
import Derived.Test.YtdkfhfflhglmaaaDoorCodeFirst
import Derived.Test.YtdkfhfflhglmaaaDoorRegion
namespace Go.Proofs.YtdkfhfflhglmaaaDoor
set_option linter.unusedSimpArgs false
set_option linter.unusedVariables false
open Go.RowKit

structure IsRf (w : World) (g : Nat) (a : Option Addr) (cap : Nat) (l : List Int) (at_ : Nat) (c : Int) (p : Bool) (q : Int) : Prop where
  obj : Blk w g [.slice a l.length cap, .int .i64 at_, .int .i64 c, .bool p, .int .i64 q] 70
  row : Row .u8 w a l.length l
  nil : a = none → cap = 0 ∧ l.length = 0
  le : l.length ≤ cap
  far : 0 < l.length → ¬ blkOf a g
  pos : at_ ≤ l.length
section
variable {w w' : World} {g cap at_ : Nat} {a : Option Addr} {l : List Int} {c : Int} {p : Bool} {q : Int}
theorem Row.keepP {k : IntKind} {len : Nat} {S : Nat → Prop} (h : Row k w a len l) (hk : Keeps S w w') (hn : 0 < len → ∀ b, blkOf a b → ¬ S b) : Row k w' a len l :=
  ⟨h.llen, h.most, fun h0 => by
    obtain ⟨b, off, ha, hb, hc⟩ := h.cell h0
    exact ⟨b, off, ha, Nat.lt_of_lt_of_le hb hk.size, fun i hi => hk.cell (hc i hi) (hn h0 b ⟨_, ha, rfl⟩)⟩, h.wf⟩
theorem IsRf.keep {S : Nat → Prop} (h : IsRf w g a cap l at_ c p q) (hk : Keeps S w w') (hg : ¬ S g) (hn : 0 < l.length → ∀ b, blkOf a b → ¬ S b) : IsRf w' g a cap l at_ c p q :=
  ⟨h.obj.keep hk hg, h.row.keepP hk hn, h.nil, h.le, h.far, h.pos⟩
theorem IsRf.keep0 (h : IsRf w g a cap l at_ c p q) (hk : Keeps Nil w w') : IsRf w' g a cap l at_ c p q := h.keep hk (fun h => h) (fun _ _ _ h => h)
theorem IsRf.moved (h : IsRf w g a cap l at_ c p q) {n : Nat} (hn : n ≤ l.length) : IsRf (w.setCell ⟨g, 1, none⟩ (.int .i64 n)) g a cap l n c p q :=
  ⟨h.obj.set 1 _, h.row.keepP ((Keeps.refl (One g) w).setOne 1 _) (fun h0 b hb e => h.far h0 (by rw [← show b = g from e]; exact hb)), h.nil, h.le, h.far, hn⟩
end

def RfOk (v : Value) (g : Nat) (a : Option Addr) (cap : Nat) (l : List Int) (at_ : Nat) (c : Int) (p : Bool) (q : Int) (w : World) (e : Ending) (w' : World) : Prop :=
  e = .returned v ∧ IsRf w' g a cap l at_ c p q ∧ Keeps (One g) w w'
def RfBytes (r : List Int) (g : Nat) (a : Option Addr) (cap : Nat) (l : List Int) (at_ : Nat) (w : World) (e : Ending) (w' : World) : Prop :=
  ∃ a' c', e = .returned (.slice a' r.length c') ∧ Own w' 5 1 a' c' r.length (byteV r) ∧ (∀ k, blkOf a' k → w.heap.size ≤ k) ∧ IsRf w' g a cap l at_ 0 false 0 ∧ Keeps (One g) w w'

set_option maxHeartbeats 400000 in
theorem bad_walk (c : Int) (p : Bool) (q : Int) (w : World) : Calls Tryd.prog 91 #[faultV c p q] w fun e w' => e = .returned (.bool (c != 0)) ∧ Keeps Nil w w' := by
  have hb := Blk.new w [.int .i64 c, .bool p, .int .i64 q] 57
  have hk := (Keeps.refl Nil w).alloc (.cells #[.int .i64 c, .bool p, .int .i64 q] 57)
  have c0 := hb.cell 0 (v := .int .i64 c) rfl
  go_enter Tryd.func91, Tryd.ntmps91
  go_wp2_with fail
  go_ret
  exact ⟨by first | rfl | simp, hk⟩
set_option maxHeartbeats 400000 in
theorem fine_walk {w : World} {g cap at_ : Nat} {a : Option Addr} {l : List Int} {c : Int} {p : Bool} {q : Int} (h : IsRf w g a cap l at_ c p q) :
    Calls Tryd.prog 56 #[.pointer (some ⟨g, 0, none⟩)] w fun e w' => e = .returned (.bool (c == 0)) ∧ Keeps Nil w w' := by
  have c2 := h.obj.cell 2 (v := .int .i64 c) rfl
  have c3 := h.obj.cell 3 (v := .bool p) rfl
  have c4 := h.obj.cell 4 (v := .int .i64 q) rfl
  go_enter Tryd.func56, Tryd.ntmps56
  go_wp2_with fail
  refine (bad_walk c p q w).mono ?_
  rintro e w2 ⟨rfl, hk2⟩
  go_wp2_with fail
  go_ret
  exact ⟨by simp [bne], hk2⟩
set_option maxHeartbeats 800000 in
theorem rfail_walk {w : World} {g cap at_ : Nat} {a : Option Addr} {l : List Int} (h : IsRf w g a cap l at_ 0 false 0) (c q : Int) (hc : c ≠ 0) :
    Calls Tryd.prog 90 #[.pointer (some ⟨g, 0, none⟩), .int .i64 c, .int .i64 q] w (RfOk (.tuple #[]) g a cap l at_ c true q w) := by
  have HF := Lib.hid (fine_walk h)
  go_enter Tryd.func90, Tryd.ntmps90
  go_wp2_with fail
  refine HF.out.mono ?_
  rintro e w1 ⟨rfl, hk1⟩
  go_wp2_with fail
  refine (placed_walk c q w1 hc).mono ?_
  rintro e w2 ⟨rfl, hk2⟩
  have h2 := (h.keep0 hk1).keep0 hk2
  go_wp2_with (refine wpl_store_at rfl 57 _ _ rfl g 2 rfl [.int .i64 c, .bool true, .int .i64 q] rfl h2.obj (by simp) Tryd.sizeFault (by simp [Value.oneCell']) ?_)
  intro w3 hb3 hk3 hs3
  have h3 : IsRf w3 g a cap l at_ c true q := ⟨hb3, h2.row.keepP hk3 (fun h0 b hb e => h2.far h0 (by rw [← show b = g from e]; exact hb)), h2.nil, h2.le, h2.far, h2.pos⟩
  go_wp2_with fail
  go_end0
  exact ⟨rfl, h3, ((hk1.trans hk2).nil (S := One g)).step hk3 (fun i hi => .inl hi)⟩
set_option maxHeartbeats 1600000 in
theorem rfRaw_neg {w : World} {g cap at_ : Nat} {a : Option Addr} {l : List Int} (h : IsRf w g a cap l at_ 0 false 0) (n : Int) (hn : n < 0) :
    Calls Tryd.prog 53 #[.pointer (some ⟨g, 0, none⟩), .int .i64 n] w (RfOk (.slice none 0 0) g a cap l at_ 102 true at_ w) := by
  have c1 := h.obj.cell 1 (v := .int .i64 at_) rfl
  have HF := Lib.hid (rfail_walk h 102 at_ (by omega))
  clear h
  generalize hL : l.length = L at *
  go_enter Tryd.func53, Tryd.ntmps53
  go_wp2_with fail
  refine HF.out.mono ?_
  rintro e w1 ⟨rfl, h1, hk1⟩
  have H1 := Lib.hid h1
  have c0 := h1.obj.cell 0 (v := .slice a L cap) (by rw [hL]; rfl)
  clear c1
  have c1 := h1.obj.cell 1 (v := .int .i64 at_) rfl
  clear h1 HF
  go_wp2_with fail
  refine wp_region_held_drew (S := fun w' => w'.cell? ⟨g, 0, none⟩ = some (.slice a L cap) ∧ w'.cell? ⟨g, 1, none⟩ = some (.int .i64 at_)) (by kernel_rfl) ⟨c0, c1⟩ (fun hHeld => ?_)
  refine takeL (i := 0) (v := _) rfl (by kernel_rfl) (by kernel_rfl) (by kernel_rfl) (fun _ _ _ h => h) (Or.inl ⟨by rfl, by intro w hSw; (try dsimp only at hSw); go_simp; try with_reducible rfl⟩) (by assumption) ?_
  try simp only [Act.put, List.setIfInBounds_toArray, List.set_cons_zero, List.set_cons_succ]
  refine onlyL (i := 1) rfl (by kernel_rfl) (fun K hK => ?_)
  go_simp
  refine (fine_walk (H1.out.keep0 (Keeps.refl Nil _).drew)).mono ?_
  rintro e w2 ⟨rfl, hk2⟩
  have hkB := (Keeps.refl Nil w1).drew.trans hk2
  refine (fun hHeld => hK _ _ hHeld ?_) (⟨hkB.cell c0 (fun h => h), hkB.cell c1 (fun h => h)⟩)
  clear hK
  try simp only [Act.put, List.setIfInBounds_toArray, List.set_cons_zero, List.set_cons_succ]
  refine takeL (i := 2) (v := _) rfl (by kernel_rfl) (by kernel_rfl) (by kernel_rfl) (fun _ _ _ h => h) (Or.inl ⟨by rfl, by intro w hSw; (try dsimp only at hSw); go_simp; try with_reducible rfl⟩) (by assumption) ?_
  try simp only [Act.put, List.setIfInBounds_toArray, List.set_cons_zero, List.set_cons_succ]
  refine takeL (i := 3) (v := undef) rfl (by kernel_rfl) (by kernel_rfl) (by kernel_rfl) (fun _ _ _ h => h) (Or.inr ⟨by rfl, rfl⟩) (by assumption) ?_
  try simp only [Act.put, List.setIfInBounds_toArray, List.set_cons_zero, List.set_cons_succ]
  refine takeL (i := 4) (v := undef) rfl (by kernel_rfl) (by kernel_rfl) (by kernel_rfl) (fun _ _ _ h => h) (Or.inr ⟨by rfl, rfl⟩) (by assumption) ?_
  try simp only [Act.put, List.setIfInBounds_toArray, List.set_cons_zero, List.set_cons_succ]
  refine takeL (i := 5) (v := undef) rfl (by kernel_rfl) (by kernel_rfl) (by kernel_rfl) (fun _ _ _ h => h) (Or.inr ⟨by rfl, rfl⟩) (by assumption) ?_
  try simp only [Act.put, List.setIfInBounds_toArray, List.set_cons_zero, List.set_cons_succ]
  refine takeL (i := 6) (v := undef) rfl (by kernel_rfl) (by kernel_rfl) (by kernel_rfl) (fun _ _ _ h => h) (Or.inr ⟨by rfl, rfl⟩) (by assumption) ?_
  try simp only [Act.put, List.setIfInBounds_toArray, List.set_cons_zero, List.set_cons_succ]
  refine takeL (i := 7) (v := undef) rfl (by kernel_rfl) (by kernel_rfl) (by kernel_rfl) (fun _ _ _ h => h) (Or.inr ⟨by rfl, rfl⟩) (by assumption) ?_
  try simp only [Act.put, List.setIfInBounds_toArray, List.set_cons_zero, List.set_cons_succ]
  refine takeL (i := 8) (v := undef) rfl (by kernel_rfl) (by kernel_rfl) (by kernel_rfl) (fun _ _ _ h => h) (Or.inr ⟨by rfl, rfl⟩) (by assumption) ?_
  try simp only [Act.put, List.setIfInBounds_toArray, List.set_cons_zero, List.set_cons_succ]
  refine takeL (i := 9) (v := undef) rfl (by kernel_rfl) (by kernel_rfl) (by kernel_rfl) (fun _ _ _ h => h) (Or.inr ⟨by rfl, rfl⟩) (by assumption) ?_
  try simp only [Act.put, List.setIfInBounds_toArray, List.set_cons_zero, List.set_cons_succ]
  refine takeL (i := 10) (v := undef) rfl (by kernel_rfl) (by kernel_rfl) (by kernel_rfl) (fun _ _ _ h => h) (Or.inr ⟨by rfl, rfl⟩) (by assumption) ?_
  try simp only [Act.put, List.setIfInBounds_toArray, List.set_cons_zero, List.set_cons_succ]
  refine takeL (i := 11) (v := undef) rfl (by kernel_rfl) (by kernel_rfl) (by kernel_rfl) (fun _ _ _ h => h) (Or.inr ⟨by rfl, rfl⟩) (by assumption) ?_
  try simp only [Act.put, List.setIfInBounds_toArray, List.set_cons_zero, List.set_cons_succ]
  refine takeL (i := 12) (v := undef) rfl (by kernel_rfl) (by kernel_rfl) (by kernel_rfl) (fun _ _ _ h => h) (Or.inr ⟨by rfl, rfl⟩) (by assumption) ?_
  try simp only [Act.put, List.setIfInBounds_toArray, List.set_cons_zero, List.set_cons_succ]
  refine takeL (i := 13) (v := undef) rfl (by kernel_rfl) (by kernel_rfl) (by kernel_rfl) (fun _ _ _ h => h) (Or.inr ⟨by rfl, rfl⟩) (by assumption) ?_
  try simp only [Act.put, List.setIfInBounds_toArray, List.set_cons_zero, List.set_cons_succ]
  refine takeL (i := 14) (v := undef) rfl (by kernel_rfl) (by kernel_rfl) (by kernel_rfl) (fun _ _ _ h => h) (Or.inr ⟨by rfl, rfl⟩) (by assumption) ?_
  try simp only [Act.put, List.setIfInBounds_toArray, List.set_cons_zero, List.set_cons_succ]
  refine takeL (i := 15) (v := _) rfl (by kernel_rfl) (by kernel_rfl) (by kernel_rfl) (fun _ _ _ h => h) (Or.inl ⟨by rfl, by intro w hSw; (try dsimp only at hSw); go_simp; try with_reducible rfl⟩) (by assumption) ?_
  try simp only [Act.put, List.setIfInBounds_toArray, List.set_cons_zero, List.set_cons_succ]
  refine wpAnyH_done (by kernel_rfl) ?_ _
  have h2 := H1.out.keep0 hkB
  have H2 := Lib.hid h2
  have hkC := hk1.step hkB (fun _ h => h.elim)
  clear c0 c1 h2 H1 hkB hk1 hk2
  go_wp2_with fail
  refine (fine_walk H2.out).mono ?_
  rintro e w3 ⟨rfl, hk3⟩
  go_wp2_with fail
  go_ret
  exact ⟨rfl, H2.out.keep0 hk3, hkC.step hk3 (fun _ h => h.elim)⟩
set_option maxHeartbeats 1600000 in
theorem rfRaw_short {w : World} {g cap at_ : Nat} {a : Option Addr} {l : List Int} (h : IsRf w g a cap l at_ 0 false 0) (n : Nat) (hn : l.length < at_ + n) (hn2 : n ≤ 9223372036854775807) :
    Calls Tryd.prog 53 #[.pointer (some ⟨g, 0, none⟩), .int .i64 n] w (RfOk (.slice none 0 0) g a cap l at_ 103 true at_ w) := by
  have c1 := h.obj.cell 1 (v := .int .i64 at_) rfl
  have hm := h.row.most
  have hpos := h.pos
  have H0 := Lib.hid h
  generalize hL : l.length = L at *
  have c0 := h.obj.cell 0 (v := .slice a L cap) (by rw [hL]; rfl)
  clear h
  have hw1 : IntKind.i64.wrap ((L : Int) - at_) = (L : Int) - at_ := by rw [IntKind.wrap_i64]; omega
  have hc1 : (L : Int) - at_ < n := by omega
  have hc2 : decide ((L : Int) - at_ < n) = true := by simpa using hc1
  have hn0 : ¬ (n : Int) < 0 := by omega
  have hn1 : decide ((n : Int) < 0) = false := by simp
  go_enter Tryd.func53, Tryd.ntmps53
  go_wp2_with fail
  go_region_held3 (fun w' => w'.cell? ⟨g, 0, none⟩ = some (.slice a L cap) ∧ w'.cell? ⟨g, 1, none⟩ = some (.int .i64 at_)) (first | go_keep | exact ⟨hkB.cell c0 (fun h => h), hkB.cell c1 (fun h => h)⟩ | exact ⟨c0, c1⟩) (first | (go_at_call 56; refine (fine_walk (H0.out.keep0 (Keeps.refl Nil _).drew)).mono ?_; rintro e w2 ⟨rfl, hk2⟩; have hkB := (Keeps.refl Nil w).drew.trans hk2))
  have h2 := H0.out.keep0 hkB
  clear c0 c1
  have c1 := h2.obj.cell 1 (v := .int .i64 at_) rfl
  have HF := Lib.hid (rfail_walk h2 103 at_ (by omega))
  clear h2 H0 hw1 hc1 hc2
  go_wp2_with fail
  refine HF.out.mono ?_
  rintro e w3 ⟨rfl, h3, hk3⟩
  have H3 := Lib.hid h3
  clear h3 c1 HF
  go_wp2_with fail
  refine (fine_walk H3.out).mono ?_
  rintro e w4 ⟨rfl, hk4⟩
  go_wp2_with fail
  go_ret
  exact ⟨rfl, H3.out.keep0 hk4, ((hkB.nil (S := One g)).step hk3 (fun i hi => .inl hi)).step hk4 (fun _ h => h.elim)⟩
theorem Row.cutP {w : World} {a : Option Addr} {l : List Int} (h : Row .u8 w a l.length l) {b off : Nat} (ha : a = some ⟨b, off, none⟩) (at_ n : Nat) (hn : at_ + n ≤ l.length) : Row .u8 w (some ⟨b, off + at_, none⟩) n (cutL l at_ n) := by
  subst ha
  exact h.cut at_ n hn
set_option maxRecDepth 20000 in
set_option maxHeartbeats 3200000 in
theorem rfRaw_ok {w : World} {g cap at_ : Nat} {a : Option Addr} {l : List Int} (h : IsRf w g a cap l at_ 0 false 0) (n : Nat) (hn : at_ + n ≤ l.length) (hl : l.length ≤ 100000) :
    Calls Tryd.prog 53 #[.pointer (some ⟨g, 0, none⟩), .int .i64 n] w (RfBytes (cutL l at_ n) g a cap l (at_ + n) w) := by
  have c1 := h.obj.cell 1 (v := .int .i64 at_) rfl
  have hm := h.row.most
  have hpos := h.pos
  have hle := h.le
  have hcl := cutL_length l at_ n hn
  have H0 := Lib.hid h
  generalize hL : l.length = L at *
  have c0 := h.obj.cell 0 (v := .slice a L cap) (by rw [hL]; rfl)
  clear h
  have hw1 : IntKind.i64.wrap ((L : Int) - at_) = (L : Int) - at_ := by rw [IntKind.wrap_i64]; omega
  have hc1 : ¬ (L : Int) - at_ < n := by omega
  have hc2 : decide ((L : Int) - at_ < n) = false := by simpa using hc1
  have hn0 : ¬ (n : Int) < 0 := by omega
  have hn1 : decide ((n : Int) < 0) = false := by simp
  go_enter Tryd.func53, Tryd.ntmps53
  go_wp2_with fail
  go_region_held3 (fun w' => w'.cell? ⟨g, 0, none⟩ = some (.slice a L cap) ∧ w'.cell? ⟨g, 1, none⟩ = some (.int .i64 at_)) (first | go_keep | exact ⟨hkB.cell c0 (fun h => h), hkB.cell c1 (fun h => h)⟩ | exact ⟨c0, c1⟩) (first | (go_at_call 56; refine (fine_walk (H0.out.keep0 (Keeps.refl Nil _).drew)).mono ?_; rintro e w2 ⟨rfl, hk2⟩; have hkB := (Keeps.refl Nil w).drew.trans hk2))
  have H2' := Lib.hid (H0.out.keep0 hkB)
  clear c0 c1 hw1 hc1 hc2
  go_wp2_with fail
  refine (fine_walk H2'.out).mono ?_
  rintro e w3 ⟨rfl, hk3⟩
  have h3 := H2'.out.keep0 hk3
  have c1 := h3.obj.cell 1 (v := .int .i64 at_) rfl
  have z1 := h3.obj.frozen 1
  have hcast : ((at_ : Int) + n) = ((at_ + n : Nat) : Int) := by omega
  have hmv := h3.moved (n := at_ + n) (by omega)
  have hkk : Keeps (One g) w (w3.setCell ⟨g, 1, none⟩ (.int .i64 (at_ + n : Nat))) := (((hkB.trans hk3).nil (S := One g)).step ((Keeps.refl (One g) w3).setOne 1 _) (fun i hi => .inl hi))
  have H2 := Lib.hid (And.intro hmv hkk)
  clear h3 H2' H0 hkB hk2 hk3 hmv hkk
  clear hn0 hn1 hcast
  go_wp2_with fail
  rw [show (at_ : Int) + n = ((at_ + n : Nat) : Int) by omega]
  obtain ⟨h2, hk2⟩ := H2.out
  clear c1 z1
  have c0 := h2.obj.cell 0 (v := .slice a L cap) (by rw [hL]; rfl)
  have c1 := h2.obj.cell 1 (v := .int .i64 (at_ + n : Nat)) rfl
  have hw2 : IntKind.i64.wrap (((at_ + n : Nat) : Int) - n) = at_ := by rw [IntKind.wrap_i64]; omega
  clear h2 hk2
  generalize he : at_ + n = e at *
  generalize w3.setCell ⟨g, 1, none⟩ (.int .i64 (e : Int)) = wz at *
  have hl0 : (0 : Int) ≤ at_ := by omega
  have hl1 : (at_ : Int) ≤ e := by omega
  have hl2 : at_ ≤ e := by omega
  have hl3 : e ≤ cap := by omega
  have hen : e - at_ = n := by omega
  have HE := Lib.hid he
  have hl4 : (e : Int) ≤ cap := by omega
  clear he
  cases a with
  | none =>
    obtain ⟨hc0, hL0⟩ := H2.out.1.nil rfl
    have hn0' : n = 0 := by omega
    have HN := Lib.hid hn0'
    clear hn0' hc0 hL0
    go_region_held3 (fun w' => w'.cell? ⟨g, 0, none⟩ = some (.slice none L cap) ∧ w'.cell? ⟨g, 1, none⟩ = some (.int .i64 (e : Int))) (first | go_keep | exact ⟨hkB.cell c0 (fun h => h), hkB.cell c1 (fun h => h)⟩ | exact ⟨c0, c1⟩) (first | (go_at_call 49; refine (refBytes_walk (l := cutL l at_ n) (by rw [HN.out]; exact Row.zero l at_) (by omega)).mono ?_; rintro e4 w4 ⟨a4, c4, rfl, ho4, hk4, hf4⟩; have hkB := (Keeps.refl Nil wz).drew.trans hk4))
    go_wp2_with fail
    go_ret
    exact ⟨a4, c4, by rw [hcl]; rfl, ho4, fun k hk => Nat.le_trans H2.out.2.size (hf4 k hk), HE.out ▸ H2.out.1.keep0 hkB, H2.out.2.step hkB (fun _ h => h.elim)⟩
  | some ad =>
    obtain ⟨b, off, sp⟩ := ad
    by_cases hcap : cap = at_
    · have hn0' : n = 0 := by omega
      have HN := Lib.hid hn0'
      have hcap' := hcap.symm
      subst hcap'
      clear hn0' hcap
      go_region_held3 (fun w' => w'.cell? ⟨g, 0, none⟩ = some (.slice (some ⟨b, off, sp⟩) L at_) ∧ w'.cell? ⟨g, 1, none⟩ = some (.int .i64 (e : Int))) (first | go_keep | exact ⟨hkB.cell c0 (fun h => h), hkB.cell c1 (fun h => h)⟩ | exact ⟨c0, c1⟩) (first | (go_at_call 49; refine (refBytes_walk (l := cutL l at_ n) (by rw [HN.out]; exact Row.zero l at_) (by omega)).mono ?_; rintro e4 w4 ⟨a4, c4, rfl, ho4, hk4, hf4⟩; have hkB := (Keeps.refl Nil wz).drew.trans hk4))
      go_wp2_with fail
      go_ret
      exact ⟨a4, c4, by rw [hcl]; rfl, ho4, fun k hk => Nat.le_trans H2.out.2.size (hf4 k hk), HE.out ▸ H2.out.1.keep0 hkB, H2.out.2.step hkB (fun _ h => h.elim)⟩
    · have hrowc : Row .u8 wz (some ((⟨b, off, sp⟩ : Addr).add at_)) n (cutL l at_ n) := by
        by_cases hn0 : n = 0
        · subst hn0
          exact Row.zero l _
        · obtain ⟨b', o', hb', _, _⟩ := H2.out.1.row.cell (by omega)
          cases hb'
          rw [Addr.add_lit]
          exact H2.out.1.row.cutP rfl at_ n (by omega)
      have HRC := Lib.hid hrowc
      clear hrowc
      go_region_held3 (fun w' => w'.cell? ⟨g, 0, none⟩ = some (.slice (some ⟨b, off, sp⟩) L cap) ∧ w'.cell? ⟨g, 1, none⟩ = some (.int .i64 (e : Int))) (first | go_keep | exact ⟨hkB.cell c0 (fun h => h), hkB.cell c1 (fun h => h)⟩ | exact ⟨c0, c1⟩) (first | (go_at_call 49; refine (refBytes_walk (l := cutL l at_ n) (HRC.out.keep (Keeps.refl Nil _).drew) (by omega)).mono ?_; rintro e4 w4 ⟨a4, c4, rfl, ho4, hk4, hf4⟩; have hkB := (Keeps.refl Nil wz).drew.trans hk4))
      go_wp2_with fail
      go_ret
      exact ⟨a4, c4, by rw [hcl]; rfl, ho4, fun k hk => Nat.le_trans H2.out.2.size (hf4 k hk), HE.out ▸ H2.out.1.keep0 hkB, H2.out.2.step hkB (fun _ h => h.elim)⟩
end Go.Proofs.YtdkfhfflhglmaaaDoor
