/-
  Floats as text: fmtEFG, the shortest form.
-/
import Derived.Test.YtmlfekcnpmlfkaaDoorFt5
namespace Go.Proofs.YtmlfekcnpmlfkaaDoor
set_option linter.unusedSimpArgs false
set_option linter.unusedVariables false
open Go.RowKit

theorem Src.lit {w : World} {g : Nat} {vs : List Value} {T : TypeId} (h : Blk w g vs T) (n : Nat) (hn : n = vs.length) (h1 : ∀ v ∈ vs, v.oneCell' = true) : Src w (some ⟨g, 0, none⟩) n n 1 vs := by
  subst hn
  refine ⟨by simp, h1, .inr ⟨_, rfl, fun j u hu => ?_⟩⟩
  rw [Addr.add_lit]
  simpa using h.cell j hu
/-- A text that is being written, the digits beside it. -/
structure Buf (w0 w : World) (g : Nat) (L : List Int) (T : TypeId) (a : Option Addr) (c n : Nat) (X : List Int) : Prop where
  own : Own w 5 1 a c n (byteV X)
  fresh : ∀ k, blkOf a k → w0.heap.size ≤ k
  keeps : Keeps Nil w0 w
  blk : Blk w g (byteV L) T
  ne : ∀ k, blkOf a k → k ≠ g
theorem byteV_append (l r : List Int) : byteV (l ++ r) = byteV l ++ byteV r := by simp [byteV]
theorem Buf.app {w0 w w2 : World} {g : Nat} {L : List Int} {T : TypeId} {a : Option Addr} {c n : Nat} {X : List Int} (h : Buf w0 w g L T a c n X) (vs : List Value) (Y : List Int) (hv : vs = byteV Y) {T2 : TypeId} {a2 : Option Addr} {c2 n2 : Nat}
    (ho : Own w2 5 1 a2 c2 n2 (byteV X ++ vs)) (hk : Keeps (blkOf a) (w.alloc (.cells vs.toArray T2)) w2) (hf : ∀ k, blkOf a2 k → blkOf a k ∨ k = w.heap.size + 1) : Buf w0 w2 g L T a2 c2 n2 (X ++ Y) := by
  refine ⟨by rw [byteV_append, ← hv]; exact ho, fun k hk' => ?_, (h.keeps.alloc _).step hk (fun k hk' => .inr (h.fresh k hk')), (h.blk.alloc _).keep hk (fun e => h.ne g e rfl), fun k hk' => ?_⟩
  · rcases hf k hk' with h1 | h1
    · exact h.fresh k h1
    · have := h.keeps.size; omega
  · rcases hf k hk' with h1 | h1
    · exact h.ne k h1
    · have := h.blk.lt; omega
theorem Buf.appS {w0 w w2 : World} {g : Nat} {L : List Int} {T : TypeId} {a : Option Addr} {c n : Nat} {X : List Int} (h : Buf w0 w g L T a c n X) (Y : List Int) {a2 : Option Addr} {c2 n2 : Nat}
    (ho : Own w2 5 1 a2 c2 n2 (byteV X ++ byteV Y)) (hk : Keeps (blkOf a) w w2) (hf : ∀ k, blkOf a2 k → blkOf a k ∨ k = w.heap.size) : Buf w0 w2 g L T a2 c2 n2 (X ++ Y) := by
  refine ⟨by rw [byteV_append]; exact ho, fun k hk' => ?_, h.keeps.step hk (fun k hk' => .inr (h.fresh k hk')), h.blk.keep hk (fun e => h.ne g e rfl), fun k hk' => ?_⟩
  · rcases hf k hk' with h1 | h1
    · exact h.fresh k h1
    · have := h.keeps.size; omega
  · rcases hf k hk' with h1 | h1
    · exact h.ne k h1
    · have := h.blk.lt; omega
def expL (x : Int) : List Int := if x < 10 then [48, x + 48] else if x < 100 then [x / 10 + 48, x % 10 + 48] else [x / 100 + 48, x / 10 % 10 + 48, x % 10 + 48]
def textE (neg : Bool) (L : List Int) (nd : Nat) (dp : Int) : List Int :=
  ((if neg then [45] else []) ++ [if nd = 0 then 48 else L.getD 0 0]) ++ ((if 1 < nd then [46] ++ (L.take nd).drop 1 else []) ++ ([101] ++ ([if nd ≠ 0 ∧ dp - 1 < 0 then 45 else 43] ++ expL (if nd = 0 then 0 else if dp - 1 < 0 then -(dp - 1) else dp - 1))))
def textF (neg : Bool) (L : List Int) (nd : Nat) (dp : Int) : List Int :=
  (if neg then [45] else []) ++ (if 0 < dp then (L.take (min nd dp.toNat) ++ List.replicate (dp.toNat - min nd dp.toNat) 48) ++ (if dp < nd then [46] ++ (L.take nd).drop dp.toNat else [])
    else [48] ++ (if 0 < (nd : Int) - dp then [46] ++ (List.replicate (-dp).toNat 48 ++ L.take nd) else []))
def textG (neg : Bool) (L : List Int) (nd : Nat) (dp : Int) : List Int := if dp - 1 < -4 ∨ 6 ≤ dp - 1 then textE neg L nd dp else textF neg L nd dp
/-- What fmtEFG leaves. -/
def FmtP (w0 : World) (X Y : List Int) (n : Nat) (e : Ending) (w' : World) : Prop := ∃ a c, e = .returned (.slice a (n + Y.length) c) ∧ Own w' 5 1 a c (n + Y.length) (byteV (X ++ Y)) ∧ Keeps Nil w0 w' ∧ ∀ k, blkOf a k → w0.heap.size ≤ k
theorem Src.sub {w : World} {g : Nat} {L : List Int} {T : TypeId} (h : Blk w g (byteV L) T) (i j c : Nat) (hij : i ≤ j) (hj : j ≤ L.length) : Src w (some ⟨g, i, none⟩) (j - i) c 1 (byteV ((L.take j).drop i)) := by
  have hl : (byteV ((L.take j).drop i)).length = j - i := by unfold byteV; rw [List.length_map, List.length_drop, List.length_take]; omega
  refine ⟨by rw [hl]; omega, fun u hu => by obtain ⟨x, _, rfl⟩ := List.mem_map.1 hu; rfl, .inr ⟨_, rfl, fun k u hu => ?_⟩⟩
  rw [Addr.add_lit]
  have hk : k < j - i := by
    rcases Nat.lt_or_ge k (byteV ((L.take j).drop i)).length with h1 | h1
    · omega
    · rw [List.getElem?_eq_none h1] at hu; cases hu
  refine h.cell (i + k) ?_
  unfold byteV at hu ⊢
  rw [List.getElem?_map, List.getElem?_drop, List.getElem?_take_of_lt (by omega)] at hu
  rw [List.getElem?_map]
  exact hu
theorem fmt_end {w0 w : World} {g : Nat} {L : List Int} {T : TypeId} {a : Option Addr} {c n N : Nat} {X Y Z : List Int} (h : Buf w0 w g L T a c N Z) (hz : Z = X ++ Y) (hN : N = n + Y.length) : FmtP w0 X Y n (.returned (.slice a N c)) w := by
  subst hz hN
  exact ⟨a, c, rfl, h.own, h.keeps, h.fresh⟩
set_option maxRecDepth 20000 in
set_option maxHeartbeats 3200000 in
theorem fmtE_walk {w0 w : World} {g : Nat} {L : List Int} {T : TypeId} {a : Option Addr} {c n : Nat} {X : List Int} (h : Buf w0 w g L T a c n X) (hL : L.length = 32) (hn : n ≤ 1000) (neg : Bool) (nd : Nat) (hnd : nd ≤ 20) (dp : Int) (hdp : -900 < dp ∧ dp < 900) (hE : dp - 1 < -4 ∨ 6 ≤ dp - 1) :
    Calls Tryd.prog 47 #[.slice a n c, .bool neg, .slice (some ⟨g, 0, none⟩) 32 32, .int .i64 dp, .int .i64 nd, .int .i64 nd, .int .u8 103, .bool true] w (FmtP w0 X (textE neg L nd dp) n) := by
  have HB := Lib.hid h
  have HL := Lib.hid hL
  obtain ⟨hdp1, hdp2⟩ := hdp
  clear h hL
  have hpw : IntKind.i64.wrap ((nd : Int) - 1) = (nd : Int) - 1 := by rw [IntKind.wrap_i64]; omega
  obtain ⟨P1, hP1⟩ : ∃ P1 : List Int, P1 = if neg then [45] else [] := ⟨_, rfl⟩
  have HP1 := Lib.hid hP1
  by_cases h0 : nd = 0
  · subst h0
    rw [show ((0 : Nat) : Int) = 0 from rfl]
    have HTX : Hid (textE neg L 0 dp = (P1 ++ [48]) ++ ([101] ++ ([43] ++ [48, 48]))) := Lib.hid (by
      have h3 : ¬ ((0 : Nat) ≠ 0 ∧ dp - 1 < 0) := fun h => h.1 rfl
      have h4 : ¬ (1 : Nat) < 0 := by omega
      unfold textE
      simp only [if_neg h3, if_neg h4, if_pos, hP1]
      rfl)
    have hEw : IntKind.i64.wrap (dp - 1) = dp - 1 := by rw [IntKind.wrap_i64]; omega
    clear hpw hP1
    rcases (show dp - 1 < -4 ∨ ¬ (dp - 1 < -4) ∧ 6 ≤ dp - 1 by omega) with hx1 | ⟨hx1, hx2⟩
    · have hx1d : decide (dp - 1 < -4) = true := decide_eq_true hx1
      clear hE
      go_enter Tryd.func47, Tryd.ntmps47
      go_upto_if 78 with fail
      go_cut [0] from 79 to 81 (fun v0 wx => ∃ (a2 : Option Addr) (c2 n2 : Nat) (Z : List Int), v0 = .slice a2 n2 c2 ∧ Hid (n2 = n + P1.length) ∧ n2 ≤ 1001 ∧ Hid (Z = X ++ P1) ∧ Hid (Buf w0 wx g L T a2 c2 n2 Z))
      case first =>
        cases neg with
        | true =>
          go_wp2_with (first | (refine wpList_bs rfl 48 5 1 _ rfl [.int .u8 45] Tryd.underlying48 Tryd.bs8 rfl (by decide) (by decide) (by first | rfl | simp [Act.eval]) (by simp [Value.cells]) ?_) | (at_builtin; go_must (refine wpl_append rfl _ _ 48 rfl 5 1 1 Tryd.underlying48 Tryd.info8s (by omega) _ _ n _ rfl (HB.out.own.keep0 ((Keeps.refl _ _).alloc _)) _ 1 1 [.int .u8 45] rfl (Src.lit (Blk.new _ _ _) 1 rfl (by simp [Value.oneCell'])) (by unfold maxLen; omega) (by omega) ?_)))
          intro a2 c2 w2 hown2 hk2 hf2 _
          obtain ⟨Z2, hzz⟩ : ∃ z, z = X ++ [45] := ⟨_, rfl⟩
          have HB2 := Lib.hid (hzz ▸ HB.out.app [.int .u8 45] [45] rfl hown2 hk2 hf2)
          have EZ2 := Lib.hid hzz
          clear hown2 hk2 hf2 hzz
          go_wp2_with fail
          go_meet
          exact ⟨a2, c2, n + 1, Z2, rfl, Lib.hid (by rw [HP1.out]; rfl), by omega, Lib.hid (by rw [HP1.out]; exact EZ2.out), HB2⟩
        | false =>
          go_wp2_with fail
          go_meet
          exact ⟨a, c, n, X, rfl, Lib.hid (by rw [HP1.out]; rfl), by omega, Lib.hid (by rw [HP1.out]; simp), HB⟩
      case rest =>
      obtain ⟨a1, c1, n1, Z1, rfl, hn1, hn1b, EZ1, HB1⟩ := hcut
      clear HB
      go_wp2_with (first | (refine wpList_bs rfl 48 5 1 _ rfl [.int .u8 48] Tryd.underlying48 Tryd.bs8 rfl (by decide) (by decide) (by first | rfl | simp [Act.eval]) (by simp [Value.cells]) ?_) | (at_builtin; go_must (refine wpl_append rfl _ _ 48 rfl 5 1 1 Tryd.underlying48 Tryd.info8s (by omega) _ _ n1 _ rfl (HB1.out.own.keep0 ((Keeps.refl _ _).alloc _)) _ 1 1 [.int .u8 48] rfl (Src.lit (Blk.new _ _ _) 1 rfl (by simp [Value.oneCell'])) (by unfold maxLen; omega) (by omega) ?_)))
      intro a3 c3 w3 hown2 hk2 hf2 _
      obtain ⟨Z3, hzz⟩ : ∃ z, z = Z1 ++ [48] := ⟨_, rfl⟩
      have HB3 := Lib.hid (hzz ▸ HB1.out.app [.int .u8 48] [48] rfl hown2 hk2 hf2)
      have EZ3 := Lib.hid hzz
      clear hown2 hk2 hf2 hzz
      clear HB1
      go_wp2_with (first | (refine wpList_bs rfl 48 5 1 _ rfl [.int .u8 101] Tryd.underlying48 Tryd.bs8 rfl (by decide) (by decide) (by first | rfl | simp [Act.eval]) (by simp [Value.cells]) ?_) | (at_builtin; go_must (refine wpl_append rfl _ _ 48 rfl 5 1 1 Tryd.underlying48 Tryd.info8s (by omega) _ _ (n1 + 1) _ rfl (HB3.out.own.keep0 ((Keeps.refl _ _).alloc _)) _ 1 1 [.int .u8 101] rfl (Src.lit (Blk.new _ _ _) 1 rfl (by simp [Value.oneCell'])) (by unfold maxLen; omega) (by omega) ?_)))
      intro a7 c7 w7 hown2 hk2 hf2 _
      obtain ⟨Z7, hzz⟩ : ∃ z, z = Z3 ++ [101] := ⟨_, rfl⟩
      have HB7 := Lib.hid (hzz ▸ HB3.out.app [.int .u8 101] [101] rfl hown2 hk2 hf2)
      have EZ7 := Lib.hid hzz
      clear hown2 hk2 hf2 hzz
      clear HB3
      go_wp2_with (first | (refine wpList_bs rfl 48 5 1 _ rfl [.int .u8 43] Tryd.underlying48 Tryd.bs8 rfl (by decide) (by decide) (by first | rfl | simp [Act.eval]) (by simp [Value.cells]) ?_) | (at_builtin; go_must (refine wpl_append rfl _ _ 48 rfl 5 1 1 Tryd.underlying48 Tryd.info8s (by omega) _ _ (n1 + 1 + 1) _ rfl (HB7.out.own.keep0 ((Keeps.refl _ _).alloc _)) _ 1 1 [.int .u8 43] rfl (Src.lit (Blk.new _ _ _) 1 rfl (by simp [Value.oneCell'])) (by unfold maxLen; omega) (by omega) ?_)))
      intro a8 c8 w8 hown2 hk2 hf2 _
      obtain ⟨Z8, hzz⟩ : ∃ z, z = Z7 ++ [43] := ⟨_, rfl⟩
      have HB8 := Lib.hid (hzz ▸ HB7.out.app [.int .u8 43] [43] rfl hown2 hk2 hf2)
      have EZ8 := Lib.hid hzz
      clear hown2 hk2 hf2 hzz
      clear HB7
      go_wp2_with (first | (refine wpList_bs rfl 48 5 2 _ rfl [.int .u8 48, .int .u8 48] Tryd.underlying48 Tryd.bs8 rfl (by decide) (by decide) (by first | rfl | simp [Act.eval]) (by simp [Value.cells]) ?_) | (at_builtin; go_must (refine wpl_append rfl _ _ 48 rfl 5 1 1 Tryd.underlying48 Tryd.info8s (by omega) _ _ (n1 + 1 + 1 + 1) _ rfl (HB8.out.own.keep0 ((Keeps.refl _ _).alloc _)) _ 2 2 [.int .u8 48, .int .u8 48] rfl (Src.lit (Blk.new _ _ _) 2 rfl (by simp [Value.oneCell'])) (by unfold maxLen; omega) (by omega) ?_)))
      intro a9 c9 w9 hown2 hk2 hf2 _
      obtain ⟨Z9, hzz⟩ : ∃ z, z = Z8 ++ [48, 48] := ⟨_, rfl⟩
      have HB9 := Lib.hid (hzz ▸ HB8.out.app [.int .u8 48, .int .u8 48] [48, 48] rfl hown2 hk2 hf2)
      have EZ9 := Lib.hid hzz
      clear hown2 hk2 hf2 hzz
      clear HB8
      go_wp2_with fail
      go_ret
      exact fmt_end HB9.out (by rw [EZ9.out, EZ8.out, EZ7.out, EZ3.out, EZ1.out, HTX.out]; simp [List.append_assoc]) (by rw [HTX.out, hn1.out]; simp; omega)
    · have hx1d : decide (dp - 1 < -4) = false := decide_eq_false hx1
      have hx2d : decide (6 ≤ dp - 1) = true := decide_eq_true hx2
      clear hE
      go_enter Tryd.func47, Tryd.ntmps47
      go_upto_if 78 with fail
      go_cut [0] from 79 to 81 (fun v0 wx => ∃ (a2 : Option Addr) (c2 n2 : Nat) (Z : List Int), v0 = .slice a2 n2 c2 ∧ Hid (n2 = n + P1.length) ∧ n2 ≤ 1001 ∧ Hid (Z = X ++ P1) ∧ Hid (Buf w0 wx g L T a2 c2 n2 Z))
      case first =>
        cases neg with
        | true =>
          go_wp2_with (first | (refine wpList_bs rfl 48 5 1 _ rfl [.int .u8 45] Tryd.underlying48 Tryd.bs8 rfl (by decide) (by decide) (by first | rfl | simp [Act.eval]) (by simp [Value.cells]) ?_) | (at_builtin; go_must (refine wpl_append rfl _ _ 48 rfl 5 1 1 Tryd.underlying48 Tryd.info8s (by omega) _ _ n _ rfl (HB.out.own.keep0 ((Keeps.refl _ _).alloc _)) _ 1 1 [.int .u8 45] rfl (Src.lit (Blk.new _ _ _) 1 rfl (by simp [Value.oneCell'])) (by unfold maxLen; omega) (by omega) ?_)))
          intro a2 c2 w2 hown2 hk2 hf2 _
          obtain ⟨Z2, hzz⟩ : ∃ z, z = X ++ [45] := ⟨_, rfl⟩
          have HB2 := Lib.hid (hzz ▸ HB.out.app [.int .u8 45] [45] rfl hown2 hk2 hf2)
          have EZ2 := Lib.hid hzz
          clear hown2 hk2 hf2 hzz
          go_wp2_with fail
          go_meet
          exact ⟨a2, c2, n + 1, Z2, rfl, Lib.hid (by rw [HP1.out]; rfl), by omega, Lib.hid (by rw [HP1.out]; exact EZ2.out), HB2⟩
        | false =>
          go_wp2_with fail
          go_meet
          exact ⟨a, c, n, X, rfl, Lib.hid (by rw [HP1.out]; rfl), by omega, Lib.hid (by rw [HP1.out]; simp), HB⟩
      case rest =>
      obtain ⟨a1, c1, n1, Z1, rfl, hn1, hn1b, EZ1, HB1⟩ := hcut
      clear HB
      go_wp2_with (first | (refine wpList_bs rfl 48 5 1 _ rfl [.int .u8 48] Tryd.underlying48 Tryd.bs8 rfl (by decide) (by decide) (by first | rfl | simp [Act.eval]) (by simp [Value.cells]) ?_) | (at_builtin; go_must (refine wpl_append rfl _ _ 48 rfl 5 1 1 Tryd.underlying48 Tryd.info8s (by omega) _ _ n1 _ rfl (HB1.out.own.keep0 ((Keeps.refl _ _).alloc _)) _ 1 1 [.int .u8 48] rfl (Src.lit (Blk.new _ _ _) 1 rfl (by simp [Value.oneCell'])) (by unfold maxLen; omega) (by omega) ?_)))
      intro a3 c3 w3 hown2 hk2 hf2 _
      obtain ⟨Z3, hzz⟩ : ∃ z, z = Z1 ++ [48] := ⟨_, rfl⟩
      have HB3 := Lib.hid (hzz ▸ HB1.out.app [.int .u8 48] [48] rfl hown2 hk2 hf2)
      have EZ3 := Lib.hid hzz
      clear hown2 hk2 hf2 hzz
      clear HB1
      go_wp2_with (first | (refine wpList_bs rfl 48 5 1 _ rfl [.int .u8 101] Tryd.underlying48 Tryd.bs8 rfl (by decide) (by decide) (by first | rfl | simp [Act.eval]) (by simp [Value.cells]) ?_) | (at_builtin; go_must (refine wpl_append rfl _ _ 48 rfl 5 1 1 Tryd.underlying48 Tryd.info8s (by omega) _ _ (n1 + 1) _ rfl (HB3.out.own.keep0 ((Keeps.refl _ _).alloc _)) _ 1 1 [.int .u8 101] rfl (Src.lit (Blk.new _ _ _) 1 rfl (by simp [Value.oneCell'])) (by unfold maxLen; omega) (by omega) ?_)))
      intro a7 c7 w7 hown2 hk2 hf2 _
      obtain ⟨Z7, hzz⟩ : ∃ z, z = Z3 ++ [101] := ⟨_, rfl⟩
      have HB7 := Lib.hid (hzz ▸ HB3.out.app [.int .u8 101] [101] rfl hown2 hk2 hf2)
      have EZ7 := Lib.hid hzz
      clear hown2 hk2 hf2 hzz
      clear HB3
      go_wp2_with (first | (refine wpList_bs rfl 48 5 1 _ rfl [.int .u8 43] Tryd.underlying48 Tryd.bs8 rfl (by decide) (by decide) (by first | rfl | simp [Act.eval]) (by simp [Value.cells]) ?_) | (at_builtin; go_must (refine wpl_append rfl _ _ 48 rfl 5 1 1 Tryd.underlying48 Tryd.info8s (by omega) _ _ (n1 + 1 + 1) _ rfl (HB7.out.own.keep0 ((Keeps.refl _ _).alloc _)) _ 1 1 [.int .u8 43] rfl (Src.lit (Blk.new _ _ _) 1 rfl (by simp [Value.oneCell'])) (by unfold maxLen; omega) (by omega) ?_)))
      intro a8 c8 w8 hown2 hk2 hf2 _
      obtain ⟨Z8, hzz⟩ : ∃ z, z = Z7 ++ [43] := ⟨_, rfl⟩
      have HB8 := Lib.hid (hzz ▸ HB7.out.app [.int .u8 43] [43] rfl hown2 hk2 hf2)
      have EZ8 := Lib.hid hzz
      clear hown2 hk2 hf2 hzz
      clear HB7
      go_wp2_with (first | (refine wpList_bs rfl 48 5 2 _ rfl [.int .u8 48, .int .u8 48] Tryd.underlying48 Tryd.bs8 rfl (by decide) (by decide) (by first | rfl | simp [Act.eval]) (by simp [Value.cells]) ?_) | (at_builtin; go_must (refine wpl_append rfl _ _ 48 rfl 5 1 1 Tryd.underlying48 Tryd.info8s (by omega) _ _ (n1 + 1 + 1 + 1) _ rfl (HB8.out.own.keep0 ((Keeps.refl _ _).alloc _)) _ 2 2 [.int .u8 48, .int .u8 48] rfl (Src.lit (Blk.new _ _ _) 2 rfl (by simp [Value.oneCell'])) (by unfold maxLen; omega) (by omega) ?_)))
      intro a9 c9 w9 hown2 hk2 hf2 _
      obtain ⟨Z9, hzz⟩ : ∃ z, z = Z8 ++ [48, 48] := ⟨_, rfl⟩
      have HB9 := Lib.hid (hzz ▸ HB8.out.app [.int .u8 48, .int .u8 48] [48, 48] rfl hown2 hk2 hf2)
      have EZ9 := Lib.hid hzz
      clear hown2 hk2 hf2 hzz
      clear HB8
      go_wp2_with fail
      go_ret
      exact fmt_end HB9.out (by rw [EZ9.out, EZ8.out, EZ7.out, EZ3.out, EZ1.out, HTX.out]; simp [List.append_assoc]) (by rw [HTX.out, hn1.out]; simp; omega)
  · have h0i : ((nd : Int) == 0) = false := by rw [beq_eq_false_iff_ne]; omega
    have h0n : ((nd : Int) != 0) = true := by rw [bne_iff_ne]; omega
    have hnd1 : 1 ≤ nd := by omega
    by_cases hx1 : dp - 1 < -4
    · have hx1d : decide (dp - 1 < -4) = true := decide_eq_true hx1
      obtain ⟨E, hEe⟩ : ∃ E, E = -(dp - 1) := ⟨_, rfl⟩
      have hEn : -(dp - 1) = E := hEe.symm
      have hEb : 5 ≤ E ∧ E < 1000 := by omega
      have hEw : IntKind.i64.wrap (dp - 1) = dp - 1 := by rw [IntKind.wrap_i64]; omega
      have hs0 : decide (dp - 1 < 0) = true := decide_eq_true (by omega)
      have HTX : Hid (textE neg L nd dp = (P1 ++ [L.getD 0 0]) ++ ((if 1 < nd then [46] ++ (L.take nd).drop 1 else []) ++ ([101] ++ ([45] ++ expL E)))) := Lib.hid (by
        have h2 : dp - 1 < 0 := by omega
        have h3 : nd ≠ 0 ∧ dp - 1 < 0 := ⟨h0, h2⟩
        unfold textE
        simp only [if_neg h0, if_pos h3, if_pos h2, hEe, hP1])
      clear hE hEe hP1
      go_enter Tryd.func47, Tryd.ntmps47
      go_upto_if 78 with fail
      go_cut [0] from 79 to 81 (fun v0 wx => ∃ (a2 : Option Addr) (c2 n2 : Nat) (Z : List Int), v0 = .slice a2 n2 c2 ∧ Hid (n2 = n + P1.length) ∧ n2 ≤ 1001 ∧ Hid (Z = X ++ P1) ∧ Hid (Buf w0 wx g L T a2 c2 n2 Z))
      case first =>
        cases neg with
        | true =>
          go_wp2_with (first | (refine wpList_bs rfl 48 5 1 _ rfl [.int .u8 45] Tryd.underlying48 Tryd.bs8 rfl (by decide) (by decide) (by first | rfl | simp [Act.eval]) (by simp [Value.cells]) ?_) | (at_builtin; go_must (refine wpl_append rfl _ _ 48 rfl 5 1 1 Tryd.underlying48 Tryd.info8s (by omega) _ _ n _ rfl (HB.out.own.keep0 ((Keeps.refl _ _).alloc _)) _ 1 1 [.int .u8 45] rfl (Src.lit (Blk.new _ _ _) 1 rfl (by simp [Value.oneCell'])) (by unfold maxLen; omega) (by omega) ?_)))
          intro a2 c2 w2 hown2 hk2 hf2 _
          obtain ⟨Z2, hzz⟩ : ∃ z, z = X ++ [45] := ⟨_, rfl⟩
          have HB2 := Lib.hid (hzz ▸ HB.out.app [.int .u8 45] [45] rfl hown2 hk2 hf2)
          have EZ2 := Lib.hid hzz
          clear hown2 hk2 hf2 hzz
          go_wp2_with fail
          go_meet
          exact ⟨a2, c2, n + 1, Z2, rfl, Lib.hid (by rw [HP1.out]; rfl), by omega, Lib.hid (by rw [HP1.out]; exact EZ2.out), HB2⟩
        | false =>
          go_wp2_with fail
          go_meet
          exact ⟨a, c, n, X, rfl, Lib.hid (by rw [HP1.out]; rfl), by omega, Lib.hid (by rw [HP1.out]; simp), HB⟩
      case rest =>
      obtain ⟨a1, c1, n1, Z1, rfl, hn1, hn1b, EZ1, HB1⟩ := hcut
      clear HB
      have hl0 := HB1.out.blk.cell 0 (byteV_get HL.out (by omega))
      obtain ⟨ch, hch⟩ : ∃ ch, ch = L.getD 0 0 := ⟨_, rfl⟩
      rw [← hch] at hl0 HTX
      clear hch
      go_wp2_with (first | (refine wpList_bs rfl 48 5 1 _ rfl [.int .u8 ch] Tryd.underlying48 Tryd.bs8 rfl (by decide) (by decide) (by first | rfl | simp [Act.eval]) (by simp [Value.cells]) ?_) | (at_builtin; go_must (refine wpl_append rfl _ _ 48 rfl 5 1 1 Tryd.underlying48 Tryd.info8s (by omega) _ _ n1 _ rfl (HB1.out.own.keep0 ((Keeps.refl _ _).alloc _)) _ 1 1 [.int .u8 ch] rfl (Src.lit (Blk.new _ _ _) 1 rfl (by simp [Value.oneCell'])) (by unfold maxLen; omega) (by omega) ?_)))
      intro a3 c3 w3 hown2 hk2 hf2 _
      obtain ⟨Z3, hzz⟩ : ∃ z, z = Z1 ++ [ch] := ⟨_, rfl⟩
      have HB3 := Lib.hid (hzz ▸ HB1.out.app [.int .u8 ch] [ch] rfl hown2 hk2 hf2)
      have EZ3 := Lib.hid hzz
      clear hown2 hk2 hf2 hzz
      clear HB1 hl0
      go_upto_if 92 with fail
      generalize hzb : decide ((1 : Int) < (nd : Int)) = zb
      have HZB := Lib.hid hzb
      obtain ⟨P3, hP3⟩ : ∃ P3, P3 = if 1 < nd then [46] ++ (L.take nd).drop 1 else [] := ⟨_, rfl⟩
      rw [← hP3] at HTX
      have HP3 := Lib.hid hP3
      clear hzb hP3
      go_cut [0, 20, 21] from 93 to 119 (fun v0 _ _ wx => ∃ (a2 : Option Addr) (c2 n2 : Nat) (Z : List Int), v0 = .slice a2 n2 c2 ∧ Hid (n2 = n1 + 1 + P3.length) ∧ n2 ≤ 1060 ∧ Hid (Z = Z3 ++ P3) ∧ Hid (Buf w0 wx g L T a2 c2 n2 Z))
      case first =>
        cases zb with
        | true =>
          have h1 : 1 < nd := by have := of_decide_eq_true HZB.out; omega
          have h1i : (1 : Int) < nd := by omega
          have hP3e : P3 = [46] ++ (L.take nd).drop 1 := by rw [HP3.out, if_pos h1]
          have HPE := Lib.hid hP3e
          clear hP3e
          go_wp2_with (first | (refine wpList_bs rfl 48 5 1 _ rfl [.int .u8 46] Tryd.underlying48 Tryd.bs8 rfl (by decide) (by decide) (by first | rfl | simp [Act.eval]) (by simp [Value.cells]) ?_) | (at_builtin; go_must (refine wpl_append rfl _ _ 48 rfl 5 1 1 Tryd.underlying48 Tryd.info8s (by omega) _ _ (n1 + 1) _ rfl (HB3.out.own.keep0 ((Keeps.refl _ _).alloc _)) _ 1 1 [.int .u8 46] rfl (Src.lit (Blk.new _ _ _) 1 rfl (by simp [Value.oneCell'])) (by unfold maxLen; omega) (by omega) ?_)))
          intro a4 c4 w4 hown2 hk2 hf2 _
          obtain ⟨Z4, hzz⟩ : ∃ z, z = Z3 ++ [46] := ⟨_, rfl⟩
          have HB4 := Lib.hid (hzz ▸ HB3.out.app [.int .u8 46] [46] rfl hown2 hk2 hf2)
          have EZ4 := Lib.hid hzz
          clear hown2 hk2 hf2 hzz
          clear HB3
          have hmin : (nd : Int) ≤ nd := Int.le_refl _
          have h32 : ¬ (32 : Nat) = 1 := by omega
          obtain ⟨SL, hSL⟩ : ∃ z, z = (L.take nd).drop 1 := ⟨_, rfl⟩
          have hsr := Src.sub HB4.out.blk 1 nd 31 (by omega) (by rw [HL.out]; omega)
          rw [← hSL] at hsr
          have HSR := Lib.hid hsr
          have HSL := Lib.hid hSL
          have hsll : SL.length = nd - 1 := by rw [hSL, List.length_drop, List.length_take, HL.out]; omega
          have HSLL := Lib.hid hsll
          clear hsr hSL hsll
          go_wp2_with (at_builtin; go_must (refine wpl_append rfl _ _ 48 rfl 5 1 1 Tryd.underlying48 Tryd.info8s (by omega) _ _ (n1 + 1 + 1) _ rfl HB4.out.own _ (nd - 1) 31 (byteV SL) rfl HSR.out (by unfold maxLen; omega) (by omega) ?_))
          intro a5 c5 w5 ho5 hk5 hf5 _
          obtain ⟨Z5, hzz⟩ : ∃ z, z = Z4 ++ SL := ⟨_, rfl⟩
          have HB5 := Lib.hid (hzz ▸ HB4.out.appS SL ho5 hk5 hf5)
          have EZ5 : Hid (Z5 = Z3 ++ P3) := Lib.hid (by rw [hzz, EZ4.out, HPE.out, ← HSL.out, List.append_assoc])
          obtain ⟨n5, hn5⟩ : ∃ q, q = n1 + 1 + 1 + (nd - 1) := ⟨_, rfl⟩
          have hn5b : n5 ≤ 1060 := by omega
          have HN5 : Hid (n5 = n1 + 1 + P3.length) := Lib.hid (by rw [hn5, HPE.out, ← HSL.out, List.length_append, HSLL.out]; simp only [List.length_singleton]; omega)
          rw [← hn5] at HB5 ⊢
          clear ho5 hk5 hf5 HB4 HSR hzz hn5
          have hpp : IntKind.i64.wrap ((nd : Int) - (nd : Int)) = 0 := by rw [IntKind.wrap_i64]; omega
          have hpq : (nd : Int) - (nd : Int) = 0 := by omega
          go_wp2_with fail
          go_loopw [0, 114] (fun v0 vc wr => v0 = .slice a5 n5 c5 ∧ vc = .int .i64 0 ∧ w5 = wr) (fun _ _ _ => 0)
          case atStart => exact ⟨rfl, rfl, rfl⟩
          case round =>
            obtain ⟨rfl, rfl, rfl⟩ := hrel
            go_wp2_with fail
            go_meet
            exact ⟨a5, c5, n5, Z5, rfl, HN5, hn5b, EZ5, HB5⟩
        | false =>
          have h1 : ¬ 1 < nd := by have := of_decide_eq_false HZB.out; omega
          have hP3e : P3 = [] := by rw [HP3.out, if_neg h1]
          subst hP3e
          go_wp2_with fail
          go_meet
          exact ⟨a3, c3, n1 + 1, Z3, rfl, Lib.hid rfl, by omega, Lib.hid (by rw [List.append_nil]), HB3⟩
      case rest =>
      obtain ⟨a6, c6, n6, Z6, rfl, hn6, hn6b, EZ6, HB6⟩ := hcut
      clear HB3 HZB
      go_wp2_with (first | (refine wpList_bs rfl 48 5 1 _ rfl [.int .u8 101] Tryd.underlying48 Tryd.bs8 rfl (by decide) (by decide) (by first | rfl | simp [Act.eval]) (by simp [Value.cells]) ?_) | (at_builtin; go_must (refine wpl_append rfl _ _ 48 rfl 5 1 1 Tryd.underlying48 Tryd.info8s (by omega) _ _ n6 _ rfl (HB6.out.own.keep0 ((Keeps.refl _ _).alloc _)) _ 1 1 [.int .u8 101] rfl (Src.lit (Blk.new _ _ _) 1 rfl (by simp [Value.oneCell'])) (by unfold maxLen; omega) (by omega) ?_)))
      intro a7 c7 w7 hown2 hk2 hf2 _
      obtain ⟨Z7, hzz⟩ : ∃ z, z = Z6 ++ [101] := ⟨_, rfl⟩
      have HB7 := Lib.hid (hzz ▸ HB6.out.app [.int .u8 101] [101] rfl hown2 hk2 hf2)
      have EZ7 := Lib.hid hzz
      clear hown2 hk2 hf2 hzz
      clear HB6
      go_wp2_with (first | (refine wpList_bs rfl 48 5 1 _ rfl [.int .u8 45] Tryd.underlying48 Tryd.bs8 rfl (by decide) (by decide) (by first | rfl | simp [Act.eval]) (by simp [Value.cells]) ?_) | (at_builtin; go_must (refine wpl_append rfl _ _ 48 rfl 5 1 1 Tryd.underlying48 Tryd.info8s (by omega) _ _ (n6 + 1) _ rfl (HB7.out.own.keep0 ((Keeps.refl _ _).alloc _)) _ 1 1 [.int .u8 45] rfl (Src.lit (Blk.new _ _ _) 1 rfl (by simp [Value.oneCell'])) (by unfold maxLen; omega) (by omega) ?_)))
      intro a8 c8 w8 hown2 hk2 hf2 _
      obtain ⟨Z8, hzz⟩ : ∃ z, z = Z7 ++ [45] := ⟨_, rfl⟩
      have HB8 := Lib.hid (hzz ▸ HB7.out.app [.int .u8 45] [45] rfl hown2 hk2 hf2)
      have EZ8 := Lib.hid hzz
      clear hown2 hk2 hf2 hzz
      clear HB7
      have hE0 : 0 ≤ E := by omega
      by_cases hE1 : E < 10
      · have hE1i : decide (E < 10) = true := decide_eq_true hE1
        have hq1 : IntKind.u8.wrap E = E := by rw [IntKind.wrap_u8]; omega
        have hq2 : IntKind.u8.wrap (E + 48) = E + 48 := by rw [IntKind.wrap_u8]; omega
        have HEX : Hid (expL E = [48, E + 48]) := Lib.hid (by unfold expL; rw [if_pos hE1])
        go_wp2_with (first | (refine wpList_bs rfl 48 5 2 _ rfl [.int .u8 48, .int .u8 (E + 48)] Tryd.underlying48 Tryd.bs8 rfl (by decide) (by decide) (by first | rfl | simp [Act.eval]) (by simp [Value.cells]) ?_) | (at_builtin; go_must (refine wpl_append rfl _ _ 48 rfl 5 1 1 Tryd.underlying48 Tryd.info8s (by omega) _ _ (n6 + 1 + 1) _ rfl (HB8.out.own.keep0 ((Keeps.refl _ _).alloc _)) _ 2 2 [.int .u8 48, .int .u8 (E + 48)] rfl (Src.lit (Blk.new _ _ _) 2 rfl (by simp [Value.oneCell'])) (by unfold maxLen; omega) (by omega) ?_)))
        intro a9 c9 w9 hown2 hk2 hf2 _
        obtain ⟨Z9, hzz⟩ : ∃ z, z = Z8 ++ [48, E + 48] := ⟨_, rfl⟩
        have HB9 := Lib.hid (hzz ▸ HB8.out.app [.int .u8 48, .int .u8 (E + 48)] [48, E + 48] rfl hown2 hk2 hf2)
        have EZ9 := Lib.hid hzz
        clear hown2 hk2 hf2 hzz
        clear HB8
        go_wp2_with fail
        go_ret
        exact fmt_end HB9.out (by rw [EZ9.out, EZ8.out, EZ7.out, EZ6.out, EZ3.out, EZ1.out, HTX.out, HEX.out]; simp [List.append_assoc]) (by rw [HTX.out, HEX.out, hn6.out, hn1.out]; simp; omega)
      · have hE1i : decide (E < 10) = false := decide_eq_false hE1
        by_cases hE2 : E < 100
        · have hE2i : decide (E < 100) = true := decide_eq_true hE2
          have hq1 : IntKind.u8.wrap (E / 10) = E / 10 := by rw [IntKind.wrap_u8]; omega
          have hq2 : IntKind.u8.wrap (E / 10 + 48) = E / 10 + 48 := by rw [IntKind.wrap_u8]; omega
          have hq3 : IntKind.u8.wrap (E % 10) = E % 10 := by rw [IntKind.wrap_u8]; omega
          have hq4 : IntKind.u8.wrap (E % 10 + 48) = E % 10 + 48 := by rw [IntKind.wrap_u8]; omega
          have HEX : Hid (expL E = [E / 10 + 48, E % 10 + 48]) := Lib.hid (by unfold expL; rw [if_neg hE1, if_pos hE2])
          obtain ⟨D1, hD1⟩ : ∃ D, E / 10 = D := ⟨_, rfl⟩
          obtain ⟨D0, hD0⟩ : ∃ D, E % 10 = D := ⟨_, rfl⟩
          have hDb : 0 ≤ D1 ∧ D1 < 10 ∧ 0 ≤ D0 ∧ D0 < 10 := by omega
          rw [hD1] at hq1 hq2 HEX
          rw [hD0] at hq3 hq4 HEX
          go_wp2_with (first | (refine wpList_bs rfl 48 5 2 _ rfl [.int .u8 (D1 + 48), .int .u8 (D0 + 48)] Tryd.underlying48 Tryd.bs8 rfl (by decide) (by decide) (by first | rfl | simp [Act.eval]) (by simp [Value.cells]) ?_) | (at_builtin; go_must (refine wpl_append rfl _ _ 48 rfl 5 1 1 Tryd.underlying48 Tryd.info8s (by omega) _ _ (n6 + 1 + 1) _ rfl (HB8.out.own.keep0 ((Keeps.refl _ _).alloc _)) _ 2 2 [.int .u8 (D1 + 48), .int .u8 (D0 + 48)] rfl (Src.lit (Blk.new _ _ _) 2 rfl (by simp [Value.oneCell'])) (by unfold maxLen; omega) (by omega) ?_)))
          intro a9 c9 w9 hown2 hk2 hf2 _
          obtain ⟨Z9, hzz⟩ : ∃ z, z = Z8 ++ [D1 + 48, D0 + 48] := ⟨_, rfl⟩
          have HB9 := Lib.hid (hzz ▸ HB8.out.app [.int .u8 (D1 + 48), .int .u8 (D0 + 48)] [D1 + 48, D0 + 48] rfl hown2 hk2 hf2)
          have EZ9 := Lib.hid hzz
          clear hown2 hk2 hf2 hzz
          clear HB8
          go_wp2_with fail
          go_ret
          exact fmt_end HB9.out (by rw [EZ9.out, EZ8.out, EZ7.out, EZ6.out, EZ3.out, EZ1.out, HTX.out, HEX.out]; simp [List.append_assoc]) (by rw [HTX.out, HEX.out, hn6.out, hn1.out]; simp; omega)
        · have hE2i : decide (E < 100) = false := decide_eq_false hE2
          have HEX : Hid (expL E = [E / 100 + 48, E / 10 % 10 + 48, E % 10 + 48]) := Lib.hid (by unfold expL; rw [if_neg hE1, if_neg hE2])
          obtain ⟨D2, hD2⟩ : ∃ D, E / 100 = D := ⟨_, rfl⟩
          obtain ⟨D1, hD1⟩ : ∃ D, E / 10 = D := ⟨_, rfl⟩
          obtain ⟨D0, hD0⟩ : ∃ D, E % 10 = D := ⟨_, rfl⟩
          obtain ⟨D3, hD3⟩ : ∃ D, D1 % 10 = D := ⟨_, rfl⟩
          have hDb : 0 ≤ D2 ∧ D2 < 10 ∧ 0 ≤ D1 ∧ D1 < 100 ∧ 0 ≤ D0 ∧ D0 < 10 ∧ 0 ≤ D3 ∧ D3 < 10 := by omega
          have hq1 : IntKind.u8.wrap D2 = D2 := by rw [IntKind.wrap_u8]; omega
          have hq2 : IntKind.u8.wrap (D2 + 48) = D2 + 48 := by rw [IntKind.wrap_u8]; omega
          have hq3 : IntKind.u8.wrap D0 = D0 := by rw [IntKind.wrap_u8]; omega
          have hq4 : IntKind.u8.wrap (D0 + 48) = D0 + 48 := by rw [IntKind.wrap_u8]; omega
          have hq5 : IntKind.u8.wrap D1 = D1 := by rw [IntKind.wrap_u8]; omega
          have hq6 : IntKind.u8.wrap (D3 + 48) = D3 + 48 := by rw [IntKind.wrap_u8]; omega
          have hq7 : IntKind.u8.wrap D3 = D3 := by rw [IntKind.wrap_u8]; omega
          rw [hD2, hD1, hD0, hD3] at HEX
          go_wp2_with (first | (refine wpList_bs rfl 48 5 3 _ rfl [.int .u8 (D2 + 48), .int .u8 (D3 + 48), .int .u8 (D0 + 48)] Tryd.underlying48 Tryd.bs8 rfl (by decide) (by decide) (by first | rfl | simp [Act.eval]) (by simp [Value.cells]) ?_) | (at_builtin; go_must (refine wpl_append rfl _ _ 48 rfl 5 1 1 Tryd.underlying48 Tryd.info8s (by omega) _ _ (n6 + 1 + 1) _ rfl (HB8.out.own.keep0 ((Keeps.refl _ _).alloc _)) _ 3 3 [.int .u8 (D2 + 48), .int .u8 (D3 + 48), .int .u8 (D0 + 48)] rfl (Src.lit (Blk.new _ _ _) 3 rfl (by simp [Value.oneCell'])) (by unfold maxLen; omega) (by omega) ?_)))
          intro a9 c9 w9 hown2 hk2 hf2 _
          obtain ⟨Z9, hzz⟩ : ∃ z, z = Z8 ++ [D2 + 48, D3 + 48, D0 + 48] := ⟨_, rfl⟩
          have HB9 := Lib.hid (hzz ▸ HB8.out.app [.int .u8 (D2 + 48), .int .u8 (D3 + 48), .int .u8 (D0 + 48)] [D2 + 48, D3 + 48, D0 + 48] rfl hown2 hk2 hf2)
          have EZ9 := Lib.hid hzz
          clear hown2 hk2 hf2 hzz
          clear HB8
          go_wp2_with fail
          go_ret
          exact fmt_end HB9.out (by rw [EZ9.out, EZ8.out, EZ7.out, EZ6.out, EZ3.out, EZ1.out, HTX.out, HEX.out]; simp [List.append_assoc]) (by rw [HTX.out, HEX.out, hn6.out, hn1.out]; simp; omega)
    · have hx1d : decide (dp - 1 < -4) = false := decide_eq_false hx1
      have hx2 : 6 ≤ dp - 1 := by omega
      have hx2d : decide (6 ≤ dp - 1) = true := decide_eq_true hx2
      obtain ⟨E, hEe⟩ : ∃ E, E = dp - 1 := ⟨_, rfl⟩
      have hEn : dp - 1 = E := hEe.symm
      have hEb : 5 ≤ E ∧ E < 1000 := by omega
      have hEw : IntKind.i64.wrap (dp - 1) = dp - 1 := by rw [IntKind.wrap_i64]; omega
      have hs0 : decide (dp - 1 < 0) = false := decide_eq_false (by omega)
      have hEs : decide (E < 0) = false := decide_eq_false (by omega)
      have HTX : Hid (textE neg L nd dp = (P1 ++ [L.getD 0 0]) ++ ((if 1 < nd then [46] ++ (L.take nd).drop 1 else []) ++ ([101] ++ ([43] ++ expL E)))) := Lib.hid (by
        have h2 : ¬ dp - 1 < 0 := by omega
        have h3 : ¬ (nd ≠ 0 ∧ dp - 1 < 0) := fun h => h2 h.2
        unfold textE
        simp only [if_neg h0, if_neg h3, if_neg h2, hEe, hP1])
      clear hE hEe hP1
      go_enter Tryd.func47, Tryd.ntmps47
      go_upto_if 78 with fail
      go_cut [0] from 79 to 81 (fun v0 wx => ∃ (a2 : Option Addr) (c2 n2 : Nat) (Z : List Int), v0 = .slice a2 n2 c2 ∧ Hid (n2 = n + P1.length) ∧ n2 ≤ 1001 ∧ Hid (Z = X ++ P1) ∧ Hid (Buf w0 wx g L T a2 c2 n2 Z))
      case first =>
        cases neg with
        | true =>
          go_wp2_with (first | (refine wpList_bs rfl 48 5 1 _ rfl [.int .u8 45] Tryd.underlying48 Tryd.bs8 rfl (by decide) (by decide) (by first | rfl | simp [Act.eval]) (by simp [Value.cells]) ?_) | (at_builtin; go_must (refine wpl_append rfl _ _ 48 rfl 5 1 1 Tryd.underlying48 Tryd.info8s (by omega) _ _ n _ rfl (HB.out.own.keep0 ((Keeps.refl _ _).alloc _)) _ 1 1 [.int .u8 45] rfl (Src.lit (Blk.new _ _ _) 1 rfl (by simp [Value.oneCell'])) (by unfold maxLen; omega) (by omega) ?_)))
          intro a2 c2 w2 hown2 hk2 hf2 _
          obtain ⟨Z2, hzz⟩ : ∃ z, z = X ++ [45] := ⟨_, rfl⟩
          have HB2 := Lib.hid (hzz ▸ HB.out.app [.int .u8 45] [45] rfl hown2 hk2 hf2)
          have EZ2 := Lib.hid hzz
          clear hown2 hk2 hf2 hzz
          go_wp2_with fail
          go_meet
          exact ⟨a2, c2, n + 1, Z2, rfl, Lib.hid (by rw [HP1.out]; rfl), by omega, Lib.hid (by rw [HP1.out]; exact EZ2.out), HB2⟩
        | false =>
          go_wp2_with fail
          go_meet
          exact ⟨a, c, n, X, rfl, Lib.hid (by rw [HP1.out]; rfl), by omega, Lib.hid (by rw [HP1.out]; simp), HB⟩
      case rest =>
      obtain ⟨a1, c1, n1, Z1, rfl, hn1, hn1b, EZ1, HB1⟩ := hcut
      clear HB
      have hl0 := HB1.out.blk.cell 0 (byteV_get HL.out (by omega))
      obtain ⟨ch, hch⟩ : ∃ ch, ch = L.getD 0 0 := ⟨_, rfl⟩
      rw [← hch] at hl0 HTX
      clear hch
      go_wp2_with (first | (refine wpList_bs rfl 48 5 1 _ rfl [.int .u8 ch] Tryd.underlying48 Tryd.bs8 rfl (by decide) (by decide) (by first | rfl | simp [Act.eval]) (by simp [Value.cells]) ?_) | (at_builtin; go_must (refine wpl_append rfl _ _ 48 rfl 5 1 1 Tryd.underlying48 Tryd.info8s (by omega) _ _ n1 _ rfl (HB1.out.own.keep0 ((Keeps.refl _ _).alloc _)) _ 1 1 [.int .u8 ch] rfl (Src.lit (Blk.new _ _ _) 1 rfl (by simp [Value.oneCell'])) (by unfold maxLen; omega) (by omega) ?_)))
      intro a3 c3 w3 hown2 hk2 hf2 _
      obtain ⟨Z3, hzz⟩ : ∃ z, z = Z1 ++ [ch] := ⟨_, rfl⟩
      have HB3 := Lib.hid (hzz ▸ HB1.out.app [.int .u8 ch] [ch] rfl hown2 hk2 hf2)
      have EZ3 := Lib.hid hzz
      clear hown2 hk2 hf2 hzz
      clear HB1 hl0
      go_upto_if 92 with fail
      generalize hzb : decide ((1 : Int) < (nd : Int)) = zb
      have HZB := Lib.hid hzb
      obtain ⟨P3, hP3⟩ : ∃ P3, P3 = if 1 < nd then [46] ++ (L.take nd).drop 1 else [] := ⟨_, rfl⟩
      rw [← hP3] at HTX
      have HP3 := Lib.hid hP3
      clear hzb hP3
      go_cut [0, 20, 21] from 93 to 119 (fun v0 _ _ wx => ∃ (a2 : Option Addr) (c2 n2 : Nat) (Z : List Int), v0 = .slice a2 n2 c2 ∧ Hid (n2 = n1 + 1 + P3.length) ∧ n2 ≤ 1060 ∧ Hid (Z = Z3 ++ P3) ∧ Hid (Buf w0 wx g L T a2 c2 n2 Z))
      case first =>
        cases zb with
        | true =>
          have h1 : 1 < nd := by have := of_decide_eq_true HZB.out; omega
          have h1i : (1 : Int) < nd := by omega
          have hP3e : P3 = [46] ++ (L.take nd).drop 1 := by rw [HP3.out, if_pos h1]
          have HPE := Lib.hid hP3e
          clear hP3e
          go_wp2_with (first | (refine wpList_bs rfl 48 5 1 _ rfl [.int .u8 46] Tryd.underlying48 Tryd.bs8 rfl (by decide) (by decide) (by first | rfl | simp [Act.eval]) (by simp [Value.cells]) ?_) | (at_builtin; go_must (refine wpl_append rfl _ _ 48 rfl 5 1 1 Tryd.underlying48 Tryd.info8s (by omega) _ _ (n1 + 1) _ rfl (HB3.out.own.keep0 ((Keeps.refl _ _).alloc _)) _ 1 1 [.int .u8 46] rfl (Src.lit (Blk.new _ _ _) 1 rfl (by simp [Value.oneCell'])) (by unfold maxLen; omega) (by omega) ?_)))
          intro a4 c4 w4 hown2 hk2 hf2 _
          obtain ⟨Z4, hzz⟩ : ∃ z, z = Z3 ++ [46] := ⟨_, rfl⟩
          have HB4 := Lib.hid (hzz ▸ HB3.out.app [.int .u8 46] [46] rfl hown2 hk2 hf2)
          have EZ4 := Lib.hid hzz
          clear hown2 hk2 hf2 hzz
          clear HB3
          have hmin : (nd : Int) ≤ nd := Int.le_refl _
          have h32 : ¬ (32 : Nat) = 1 := by omega
          obtain ⟨SL, hSL⟩ : ∃ z, z = (L.take nd).drop 1 := ⟨_, rfl⟩
          have hsr := Src.sub HB4.out.blk 1 nd 31 (by omega) (by rw [HL.out]; omega)
          rw [← hSL] at hsr
          have HSR := Lib.hid hsr
          have HSL := Lib.hid hSL
          have hsll : SL.length = nd - 1 := by rw [hSL, List.length_drop, List.length_take, HL.out]; omega
          have HSLL := Lib.hid hsll
          clear hsr hSL hsll
          go_wp2_with (at_builtin; go_must (refine wpl_append rfl _ _ 48 rfl 5 1 1 Tryd.underlying48 Tryd.info8s (by omega) _ _ (n1 + 1 + 1) _ rfl HB4.out.own _ (nd - 1) 31 (byteV SL) rfl HSR.out (by unfold maxLen; omega) (by omega) ?_))
          intro a5 c5 w5 ho5 hk5 hf5 _
          obtain ⟨Z5, hzz⟩ : ∃ z, z = Z4 ++ SL := ⟨_, rfl⟩
          have HB5 := Lib.hid (hzz ▸ HB4.out.appS SL ho5 hk5 hf5)
          have EZ5 : Hid (Z5 = Z3 ++ P3) := Lib.hid (by rw [hzz, EZ4.out, HPE.out, ← HSL.out, List.append_assoc])
          obtain ⟨n5, hn5⟩ : ∃ q, q = n1 + 1 + 1 + (nd - 1) := ⟨_, rfl⟩
          have hn5b : n5 ≤ 1060 := by omega
          have HN5 : Hid (n5 = n1 + 1 + P3.length) := Lib.hid (by rw [hn5, HPE.out, ← HSL.out, List.length_append, HSLL.out]; simp only [List.length_singleton]; omega)
          rw [← hn5] at HB5 ⊢
          clear ho5 hk5 hf5 HB4 HSR hzz hn5
          have hpp : IntKind.i64.wrap ((nd : Int) - (nd : Int)) = 0 := by rw [IntKind.wrap_i64]; omega
          have hpq : (nd : Int) - (nd : Int) = 0 := by omega
          go_wp2_with fail
          go_loopw [0, 114] (fun v0 vc wr => v0 = .slice a5 n5 c5 ∧ vc = .int .i64 0 ∧ w5 = wr) (fun _ _ _ => 0)
          case atStart => exact ⟨rfl, rfl, rfl⟩
          case round =>
            obtain ⟨rfl, rfl, rfl⟩ := hrel
            go_wp2_with fail
            go_meet
            exact ⟨a5, c5, n5, Z5, rfl, HN5, hn5b, EZ5, HB5⟩
        | false =>
          have h1 : ¬ 1 < nd := by have := of_decide_eq_false HZB.out; omega
          have hP3e : P3 = [] := by rw [HP3.out, if_neg h1]
          subst hP3e
          go_wp2_with fail
          go_meet
          exact ⟨a3, c3, n1 + 1, Z3, rfl, Lib.hid rfl, by omega, Lib.hid (by rw [List.append_nil]), HB3⟩
      case rest =>
      obtain ⟨a6, c6, n6, Z6, rfl, hn6, hn6b, EZ6, HB6⟩ := hcut
      clear HB3 HZB
      go_wp2_with (first | (refine wpList_bs rfl 48 5 1 _ rfl [.int .u8 101] Tryd.underlying48 Tryd.bs8 rfl (by decide) (by decide) (by first | rfl | simp [Act.eval]) (by simp [Value.cells]) ?_) | (at_builtin; go_must (refine wpl_append rfl _ _ 48 rfl 5 1 1 Tryd.underlying48 Tryd.info8s (by omega) _ _ n6 _ rfl (HB6.out.own.keep0 ((Keeps.refl _ _).alloc _)) _ 1 1 [.int .u8 101] rfl (Src.lit (Blk.new _ _ _) 1 rfl (by simp [Value.oneCell'])) (by unfold maxLen; omega) (by omega) ?_)))
      intro a7 c7 w7 hown2 hk2 hf2 _
      obtain ⟨Z7, hzz⟩ : ∃ z, z = Z6 ++ [101] := ⟨_, rfl⟩
      have HB7 := Lib.hid (hzz ▸ HB6.out.app [.int .u8 101] [101] rfl hown2 hk2 hf2)
      have EZ7 := Lib.hid hzz
      clear hown2 hk2 hf2 hzz
      clear HB6
      go_wp2_with (first | (refine wpList_bs rfl 48 5 1 _ rfl [.int .u8 43] Tryd.underlying48 Tryd.bs8 rfl (by decide) (by decide) (by first | rfl | simp [Act.eval]) (by simp [Value.cells]) ?_) | (at_builtin; go_must (refine wpl_append rfl _ _ 48 rfl 5 1 1 Tryd.underlying48 Tryd.info8s (by omega) _ _ (n6 + 1) _ rfl (HB7.out.own.keep0 ((Keeps.refl _ _).alloc _)) _ 1 1 [.int .u8 43] rfl (Src.lit (Blk.new _ _ _) 1 rfl (by simp [Value.oneCell'])) (by unfold maxLen; omega) (by omega) ?_)))
      intro a8 c8 w8 hown2 hk2 hf2 _
      obtain ⟨Z8, hzz⟩ : ∃ z, z = Z7 ++ [43] := ⟨_, rfl⟩
      have HB8 := Lib.hid (hzz ▸ HB7.out.app [.int .u8 43] [43] rfl hown2 hk2 hf2)
      have EZ8 := Lib.hid hzz
      clear hown2 hk2 hf2 hzz
      clear HB7
      have hE0 : 0 ≤ E := by omega
      by_cases hE1 : E < 10
      · have hE1i : decide (E < 10) = true := decide_eq_true hE1
        have hq1 : IntKind.u8.wrap E = E := by rw [IntKind.wrap_u8]; omega
        have hq2 : IntKind.u8.wrap (E + 48) = E + 48 := by rw [IntKind.wrap_u8]; omega
        have HEX : Hid (expL E = [48, E + 48]) := Lib.hid (by unfold expL; rw [if_pos hE1])
        go_wp2_with (first | (refine wpList_bs rfl 48 5 2 _ rfl [.int .u8 48, .int .u8 (E + 48)] Tryd.underlying48 Tryd.bs8 rfl (by decide) (by decide) (by first | rfl | simp [Act.eval]) (by simp [Value.cells]) ?_) | (at_builtin; go_must (refine wpl_append rfl _ _ 48 rfl 5 1 1 Tryd.underlying48 Tryd.info8s (by omega) _ _ (n6 + 1 + 1) _ rfl (HB8.out.own.keep0 ((Keeps.refl _ _).alloc _)) _ 2 2 [.int .u8 48, .int .u8 (E + 48)] rfl (Src.lit (Blk.new _ _ _) 2 rfl (by simp [Value.oneCell'])) (by unfold maxLen; omega) (by omega) ?_)))
        intro a9 c9 w9 hown2 hk2 hf2 _
        obtain ⟨Z9, hzz⟩ : ∃ z, z = Z8 ++ [48, E + 48] := ⟨_, rfl⟩
        have HB9 := Lib.hid (hzz ▸ HB8.out.app [.int .u8 48, .int .u8 (E + 48)] [48, E + 48] rfl hown2 hk2 hf2)
        have EZ9 := Lib.hid hzz
        clear hown2 hk2 hf2 hzz
        clear HB8
        go_wp2_with fail
        go_ret
        exact fmt_end HB9.out (by rw [EZ9.out, EZ8.out, EZ7.out, EZ6.out, EZ3.out, EZ1.out, HTX.out, HEX.out]; simp [List.append_assoc]) (by rw [HTX.out, HEX.out, hn6.out, hn1.out]; simp; omega)
      · have hE1i : decide (E < 10) = false := decide_eq_false hE1
        by_cases hE2 : E < 100
        · have hE2i : decide (E < 100) = true := decide_eq_true hE2
          have hq1 : IntKind.u8.wrap (E / 10) = E / 10 := by rw [IntKind.wrap_u8]; omega
          have hq2 : IntKind.u8.wrap (E / 10 + 48) = E / 10 + 48 := by rw [IntKind.wrap_u8]; omega
          have hq3 : IntKind.u8.wrap (E % 10) = E % 10 := by rw [IntKind.wrap_u8]; omega
          have hq4 : IntKind.u8.wrap (E % 10 + 48) = E % 10 + 48 := by rw [IntKind.wrap_u8]; omega
          have HEX : Hid (expL E = [E / 10 + 48, E % 10 + 48]) := Lib.hid (by unfold expL; rw [if_neg hE1, if_pos hE2])
          obtain ⟨D1, hD1⟩ : ∃ D, E / 10 = D := ⟨_, rfl⟩
          obtain ⟨D0, hD0⟩ : ∃ D, E % 10 = D := ⟨_, rfl⟩
          have hDb : 0 ≤ D1 ∧ D1 < 10 ∧ 0 ≤ D0 ∧ D0 < 10 := by omega
          rw [hD1] at hq1 hq2 HEX
          rw [hD0] at hq3 hq4 HEX
          go_wp2_with (first | (refine wpList_bs rfl 48 5 2 _ rfl [.int .u8 (D1 + 48), .int .u8 (D0 + 48)] Tryd.underlying48 Tryd.bs8 rfl (by decide) (by decide) (by first | rfl | simp [Act.eval]) (by simp [Value.cells]) ?_) | (at_builtin; go_must (refine wpl_append rfl _ _ 48 rfl 5 1 1 Tryd.underlying48 Tryd.info8s (by omega) _ _ (n6 + 1 + 1) _ rfl (HB8.out.own.keep0 ((Keeps.refl _ _).alloc _)) _ 2 2 [.int .u8 (D1 + 48), .int .u8 (D0 + 48)] rfl (Src.lit (Blk.new _ _ _) 2 rfl (by simp [Value.oneCell'])) (by unfold maxLen; omega) (by omega) ?_)))
          intro a9 c9 w9 hown2 hk2 hf2 _
          obtain ⟨Z9, hzz⟩ : ∃ z, z = Z8 ++ [D1 + 48, D0 + 48] := ⟨_, rfl⟩
          have HB9 := Lib.hid (hzz ▸ HB8.out.app [.int .u8 (D1 + 48), .int .u8 (D0 + 48)] [D1 + 48, D0 + 48] rfl hown2 hk2 hf2)
          have EZ9 := Lib.hid hzz
          clear hown2 hk2 hf2 hzz
          clear HB8
          go_wp2_with fail
          go_ret
          exact fmt_end HB9.out (by rw [EZ9.out, EZ8.out, EZ7.out, EZ6.out, EZ3.out, EZ1.out, HTX.out, HEX.out]; simp [List.append_assoc]) (by rw [HTX.out, HEX.out, hn6.out, hn1.out]; simp; omega)
        · have hE2i : decide (E < 100) = false := decide_eq_false hE2
          have HEX : Hid (expL E = [E / 100 + 48, E / 10 % 10 + 48, E % 10 + 48]) := Lib.hid (by unfold expL; rw [if_neg hE1, if_neg hE2])
          obtain ⟨D2, hD2⟩ : ∃ D, E / 100 = D := ⟨_, rfl⟩
          obtain ⟨D1, hD1⟩ : ∃ D, E / 10 = D := ⟨_, rfl⟩
          obtain ⟨D0, hD0⟩ : ∃ D, E % 10 = D := ⟨_, rfl⟩
          obtain ⟨D3, hD3⟩ : ∃ D, D1 % 10 = D := ⟨_, rfl⟩
          have hDb : 0 ≤ D2 ∧ D2 < 10 ∧ 0 ≤ D1 ∧ D1 < 100 ∧ 0 ≤ D0 ∧ D0 < 10 ∧ 0 ≤ D3 ∧ D3 < 10 := by omega
          have hq1 : IntKind.u8.wrap D2 = D2 := by rw [IntKind.wrap_u8]; omega
          have hq2 : IntKind.u8.wrap (D2 + 48) = D2 + 48 := by rw [IntKind.wrap_u8]; omega
          have hq3 : IntKind.u8.wrap D0 = D0 := by rw [IntKind.wrap_u8]; omega
          have hq4 : IntKind.u8.wrap (D0 + 48) = D0 + 48 := by rw [IntKind.wrap_u8]; omega
          have hq5 : IntKind.u8.wrap D1 = D1 := by rw [IntKind.wrap_u8]; omega
          have hq6 : IntKind.u8.wrap (D3 + 48) = D3 + 48 := by rw [IntKind.wrap_u8]; omega
          have hq7 : IntKind.u8.wrap D3 = D3 := by rw [IntKind.wrap_u8]; omega
          rw [hD2, hD1, hD0, hD3] at HEX
          go_wp2_with (first | (refine wpList_bs rfl 48 5 3 _ rfl [.int .u8 (D2 + 48), .int .u8 (D3 + 48), .int .u8 (D0 + 48)] Tryd.underlying48 Tryd.bs8 rfl (by decide) (by decide) (by first | rfl | simp [Act.eval]) (by simp [Value.cells]) ?_) | (at_builtin; go_must (refine wpl_append rfl _ _ 48 rfl 5 1 1 Tryd.underlying48 Tryd.info8s (by omega) _ _ (n6 + 1 + 1) _ rfl (HB8.out.own.keep0 ((Keeps.refl _ _).alloc _)) _ 3 3 [.int .u8 (D2 + 48), .int .u8 (D3 + 48), .int .u8 (D0 + 48)] rfl (Src.lit (Blk.new _ _ _) 3 rfl (by simp [Value.oneCell'])) (by unfold maxLen; omega) (by omega) ?_)))
          intro a9 c9 w9 hown2 hk2 hf2 _
          obtain ⟨Z9, hzz⟩ : ∃ z, z = Z8 ++ [D2 + 48, D3 + 48, D0 + 48] := ⟨_, rfl⟩
          have HB9 := Lib.hid (hzz ▸ HB8.out.app [.int .u8 (D2 + 48), .int .u8 (D3 + 48), .int .u8 (D0 + 48)] [D2 + 48, D3 + 48, D0 + 48] rfl hown2 hk2 hf2)
          have EZ9 := Lib.hid hzz
          clear hown2 hk2 hf2 hzz
          clear HB8
          go_wp2_with fail
          go_ret
          exact fmt_end HB9.out (by rw [EZ9.out, EZ8.out, EZ7.out, EZ6.out, EZ3.out, EZ1.out, HTX.out, HEX.out]; simp [List.append_assoc]) (by rw [HTX.out, HEX.out, hn6.out, hn1.out]; simp; omega)
end Go.Proofs.YtmlfekcnpmlfkaaDoor
