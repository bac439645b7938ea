/-
  MeterMeans.
-/
import Derived.Test.YtmlfekcnpmlfkaaDoorFlOne
namespace Go.Proofs.YtmlfekcnpmlfkaaDoor
set_option linter.unusedSimpArgs false
set_option linter.unusedVariables false
open Go.RowKit

theorem Tryd.bsF : (Tryd.prog.info? 24).map (fun i => (i.size, i.zero.isSome)) = some (1, true) := by kernel_rfl
theorem Tryd.infoFs : (Tryd.prog.info? 24).map (fun i => (i.zero.map (·.cells.size), i.size, i.bytes)) = some (some 1, 1, 8) := by kernel_rfl
def fV (l : List Nat) : List Value := l.map (Value.float .f64)
theorem fV_snoc (l : List Nat) (x : Nat) : fV (l ++ [x]) = fV l ++ [.float .f64 x] := by simp [fV]
theorem FRow.of_own {w : World} {a : Option Addr} {c n : Nat} {l : List Nat} (h : Own w 24 1 a c n (fV l)) : FRow w a n l := by
  have hl : l.length = n := by have := h.1; simpa [fV] using this
  refine ⟨hl, fun hn => ?_⟩
  obtain ⟨g, ha, _, hr⟩ := h.some hn
  refine ⟨g, 0, ha, fun i hi => hr i _ ?_⟩
  have : i < l.length := by omega
  simp [fV, List.getD, this]
theorem FRow.keep {w w' : World} {a : Option Addr} {n : Nat} {l : List Nat} (h : FRow w a n l) (hk : Keeps Nil w w') : FRow w' a n l := ⟨h.llen, fun hn => by
  obtain ⟨g, o, ha, hc⟩ := h.at_ hn
  exact ⟨g, o, ha, fun i hi => hk.cell (hc i hi) (fun h => h)⟩⟩
theorem FRow.nil (w : World) : FRow w none 0 [] := ⟨rfl, fun h => by omega⟩
theorem FRow.new (w : World) (l : List Nat) : FRow (w.alloc (.cells (fV l).toArray 24)) (some ⟨w.heap.size, 0, none⟩) l.length l := ⟨rfl, fun _ => ⟨w.heap.size, 0, rfl, fun i hi => by
  rw [Nat.zero_add]
  exact (Blk.new w (fV l) 24).cell i (by simp [fV, List.getD, hi])⟩⟩
theorem same_of {a b : Nat} {o : Option Nat} (ha : IsO a o) (hb : IsO b o) : sameB a b = true := by
  unfold sameB
  rcases ha with ha | ⟨ha, hna⟩ <;> rcases hb with hb | ⟨hb, hnb⟩
  · rw [ha] at hb; cases hb; simp
  · rw [ha] at hb; cases hb
  · rw [ha] at hb; cases hb
  · rw [hna, hnb]; rfl
theorem mean_one (x : Nat) (hx : x < W64) (hn : nanB x = false) : meanO [x] = some x ∧ meanO [9221120237041090561, x] = some x := by
  have h1 : msum [x] = (some x, 1) := by unfold msum; simp only [List.foldl_cons, List.foldl_nil]; unfold mstep; rw [if_neg (by rw [hn]; decide), if_pos rfl]
  have h2 : msum [9221120237041090561, x] = (some x, 1) := by
    rw [← msum_skip, List.filter_cons, if_neg (by decide), List.filter_cons, if_pos (by rw [hn]; rfl), List.filter_nil]
    exact h1
  have h3 : oquo (some x) (floatOfInt .f64 ((1 : Nat) : Int)) = some x := by
    show floatBits .quo .f64 x (floatOfInt .f64 1) = some x
    rw [one_word, div_one x hx hn]
  unfold meanO
  rw [h1, h2]
  exact ⟨h3, h3⟩
theorem mean_neg0 : meanO [9223372036854775808] = some 9223372036854775808 := (mean_one _ (by decide) (by decide)).1
/-- Two slices that grow side by side. -/
structure FTwo (w0 w : World) (a : Option Addr) (c n : Nat) (l : List Nat) (a' : Option Addr) (c' n' : Nat) (l' : List Nat) : Prop where
  own : Own w 24 1 a c n (fV l)
  own' : Own w 24 1 a' c' n' (fV l')
  fresh : ∀ k, blkOf a k → w0.heap.size ≤ k
  fresh' : ∀ k, blkOf a' k → w0.heap.size ≤ k
  apart : ∀ k, blkOf a k → ¬ blkOf a' k
  keeps : Keeps Nil w0 w
theorem FTwo.swap {w0 w : World} {a a' : Option Addr} {c n c' n' : Nat} {l l' : List Nat} (h : FTwo w0 w a c n l a' c' n' l') : FTwo w0 w a' c' n' l' a c n l := ⟨h.own', h.own, h.fresh', h.fresh, fun k h1 h2 => h.apart k h2 h1, h.keeps⟩
theorem FTwo.app {w0 w w2 : World} {a a' a2 : Option Addr} {c n c' n' c2 : Nat} {l l' : List Nat} (h : FTwo w0 w a c n l a' c' n' l') (x : Nat) {T : TypeId} {vs : List Value} (hv : vs = [.float .f64 x])
    (ho : Own w2 24 1 a2 c2 (n + 1) (fV l ++ vs)) (hk : Keeps (blkOf a) (w.alloc (.cells vs.toArray T)) w2) (hf : ∀ k, blkOf a2 k → blkOf a k ∨ k = w.heap.size + 1) : FTwo w0 w2 a2 c2 (n + 1) (l ++ [x]) a' c' n' l' := by
  refine ⟨by rw [fV_snoc, ← hv]; exact ho, (h.own'.keep0 ((Keeps.refl _ _).alloc _)).keep hk (fun k h1 h2 => h.apart k h2 h1), fun k hk' => ?_, h.fresh', fun k hk' h2 => ?_, (h.keeps.alloc _).step hk (fun k hk' => .inr (h.fresh k hk'))⟩
  · rcases hf k hk' with h1 | h1
    · exact h.fresh k h1
    · have := h.keeps.size; omega
  · rcases hf k hk' with h1 | h1
    · exact h.apart k h1 h2
    · have := h.own'.lt k h2; omega
/-- The first slice's content behind i steps. -/
def amid (l : List Nat) (t : Nat → Bool) : Nat → List Nat
  | 0 => []
  | i + 1 => amid l t i ++ [l.getD i 0] ++ (if t i then [9221120237041090561] else [])
theorem amid_len (l : List Nat) (t : Nat → Bool) : ∀ i, (amid l t i).length ≤ 2 * i
  | 0 => by simp [amid]
  | i + 1 => by
    have := amid_len l t i
    simp only [amid, List.length_append, List.length_singleton]
    split <;> simp <;> omega
theorem amid_filter (l : List Nat) (t : Nat → Bool) : ∀ i, i ≤ l.length → (amid l t i).filter (fun x => !nanB x) = (l.take i).filter (fun x => !nanB x)
  | 0, _ => by simp [amid]
  | i + 1, h => by
    have ih := amid_filter l t i (by omega)
    rw [take_snoc (by omega)]
    simp only [amid, List.filter_append, ih]
    split
    · rw [show ([9221120237041090561] : List Nat).filter (fun x => !nanB x) = [] by decide, List.append_nil]
    · simp
theorem mean_same (l : List Nat) (t : Nat → Bool) : meanO (amid l t l.length) = meanO ((l.take l.length).filter fun x => !nanB x) := by
  unfold meanO
  rw [← msum_skip (amid l t l.length), amid_filter l t l.length (Nat.le_refl _)]
set_option maxRecDepth 20000 in
set_option maxHeartbeats 3200000 in
theorem meterMeans_walk (q : Option Addr) (len cap : Nat) (z : List Int) (x t : Int) (w : World) (hr : Row .u64 w q len z) (wx : (Lit.int .u64 x).wf = true) (wt : (Lit.int .i64 t).wf = true) (ht : Tabs w) :
    Calls Tryd.prog 4 #[.slice q len cap, .int .u64 x, .int .i64 t] w fun e w' => e = .returned (.bool true) ∧ Keeps Nil w w' := by
  obtain ⟨one, rfl, hone⟩ := wf_u64N wx
  have hlen := hr.most
  have HR := Lib.hid hr
  have HT := Lib.hid ht
  by_cases h20 : 20 < len
  · have hd : decide ((len : Int) > 20) = true := decide_eq_true (by omega)
    have hd2 : decide ((20 : Int) < len) = true := decide_eq_true (by omega)
    clear hr ht wx wt
    go_enter Tryd.func4, Tryd.ntmps4
    go_wp2_with fail
    refine (meterfirst_walk HT.out).mono ?_
    rintro e w1 ⟨rfl, hk⟩
    have HK := Lib.hid hk
    clear hk
    go_wp2_with fail
    go_ret
    exact ⟨rfl, HK.out⟩
  · have hd : decide ((len : Int) > 20) = false := decide_eq_false (by omega)
    have hd2 : decide ((20 : Int) < len) = false := decide_eq_false (by omega)
    obtain ⟨l, hl⟩ : ∃ l : List Nat, z = l.map (fun (y : Nat) => (y : Int)) := ⟨z.map Int.toNat, by
      rw [List.map_map]
      refine (List.map_id z).symm.trans (List.map_congr_left fun y hy => ?_)
      have := hr.wf y hy
      simp [Lit.wf, IntKind.min, IntKind.max, IntKind.signed, IntKind.bits] at this
      simp
      omega⟩
    clear hr ht wx wt
    go_enter Tryd.func4, Tryd.ntmps4
    go_wp2_with fail
    refine (meterfirst_walk HT.out).mono ?_
    rintro e w1 ⟨rfl, hk⟩
    have HK := Lib.hid hk
    clear hk
    go_wp2_with fail
    have HLL : Hid (l.length = len) := Lib.hid (by have := HR.out.llen; rw [hl, List.length_map] at this; exact this)
    have HZ : Hid (z = l.map (fun (y : Nat) => (y : Int))) := Lib.hid hl
    obtain ⟨p, hp⟩ : ∃ p : Nat → Bool, p = fun (i : Nat) => (wrap64 (t + (i : Int))).tmod 3 == 0 := ⟨_, rfl⟩
    have HP := Lib.hid hp
    clear hl hp
    go_loopw [8, 9, 10] (fun v8 v9 v10 wr => ∃ (i : Nat) (a8 : Option Addr) (c8 n8 : Nat) (a9 : Option Addr) (c9 n9 : Nat), v8 = .slice a8 n8 c8 ∧ v9 = .slice a9 n9 c9 ∧ v10 = .int .i64 i ∧ i ≤ len ∧ n8 ≤ 2 * i ∧ n9 ≤ i ∧ Hid (FTwo w wr a8 c8 n8 (amid l p i) a9 c9 n9 ((l.take i).filter fun x => !nanB x))) (fun _ _ v10 _ => len - (intOf v10).toNat)
    case atStart => exact ⟨0, none, 0, 0, none, 0, 0, rfl, rfl, rfl, Nat.zero_le _, Nat.le_refl _, Nat.le_refl _, Lib.hid ⟨Own.nil _ _ _, Own.nil _ _ _, fun k h => (blkOf_none k h).elim, fun k h => (blkOf_none k h).elim, fun k h => (blkOf_none k h).elim, HK.out⟩⟩
    case round =>
      obtain ⟨i, a8, c8, n8, a9, c9, n9, rfl, rfl, rfl, hi, hn8, hn9, H2⟩ := hrel
      by_cases hil : i < len
      · obtain ⟨g, o, ha, _, hc⟩ := HR.out.cell (by omega)
        have hcl := H2.out.keeps.cell (hc i hil) (fun h => h)
        have hii : (i : Int) < len := by omega
        have hi0 : (0 : Int) ≤ i := by omega
        obtain ⟨X, hX⟩ : ∃ X, l.getD i 0 = X := ⟨_, rfl⟩
        rw [HZ.out, show (l.map (fun (y : Nat) => (y : Int))).getD i 0 = (X : Int) by
          have : i < l.length := by rw [HLL.out]; exact hil
          rw [← hX]; simp [List.getD, this]] at hcl
        have hfx := mfrom_run X
        have hex := ord_eq X X
        rw [decide_eq_true (rfl : keyB X = keyB X), Bool.and_true, Bool.and_self] at hex
        obtain ⟨pb, hpb⟩ : ∃ b, ((wrap64 (t + (i : Int))).tmod 3 == 0) = b := ⟨_, rfl⟩
        have HPB : Hid (p i = pb) := Lib.hid (by rw [HP.out]; exact hpb)
        subst ha
        clear hc
        cases hnx : nanB X with
        | true =>
          rw [hnx, Bool.not_true] at hex
          have H3 : Hid (FTwo w wr a8 c8 n8 (amid l p i) a9 c9 n9 ((l.take (i + 1)).filter fun x => !nanB x)) := Lib.hid (by rw [take_snoc (by rw [HLL.out]; exact hil), hX, List.filter_append, show [X].filter (fun x => !nanB x) = [] by simp [hnx], List.append_nil]; exact H2.out)
          have hn9' : n9 ≤ i + 1 := by omega
          clear H2 hnx hn9
          go_wp2_with (first | (refine wpList_bs rfl 29 24 1 _ rfl [.float .f64 X] Tryd.underlying29 Tryd.bsF rfl (by decide) (by decide) (by first | rfl | simp [Act.eval]) (by simp [Value.cells]) ?_) | (at_builtin; go_must (refine wpl_append rfl _ _ 29 rfl 24 1 8 Tryd.underlying29 Tryd.infoFs (by omega) _ _ n8 _ rfl (H3.out.own.keep0 ((Keeps.refl _ _).alloc _)) _ 1 1 [.float .f64 X] rfl (Src.lit (Blk.new _ _ _) 1 rfl (by simp [Value.oneCell'])) (by unfold maxLen; omega) (by omega) ?_)))
          intro b8 d8 w4 hown2 hk2 hf2 _
          have H4 := Lib.hid (H3.out.app X rfl hown2 hk2 hf2)
          clear H3 hown2 hk2 hf2
          cases pb with
          | false =>
            have H5 : Hid (FTwo w w4 b8 d8 (n8 + 1) (amid l p (i + 1)) a9 c9 (n9) ((l.take (i + 1)).filter fun x => !nanB x)) := Lib.hid (by
              have e : amid l p (i + 1) = amid l p i ++ [X] := by
                show amid l p i ++ [l.getD i 0] ++ (if p i then _ else []) = _
                rw [hX, HPB.out, if_neg (by decide), List.append_nil]
              rw [e]; exact H4.out)
            clear H4
            go_wp2_with fail
            go_roundw
            case rel => first | exact ⟨i + 1, b8, d8, n8 + 1, a9, c9, n9, by first | rfl | trivial | go_num, by first | rfl | trivial | go_num, by go_num, by omega, by omega, hn9', H5⟩ | ((repeat apply Exists.intro); exact ⟨⟨i + 1, b8, d8, n8 + 1, a9, c9, n9, by first | rfl | trivial | go_num, by first | rfl | trivial | go_num, by go_num, by omega, by omega, hn9', H5⟩, rfl⟩)
            case measure => first | (simp [intOf]; done) | (simp [intOf]; omega)
          | true =>
            go_wp2_with fail
            refine nan_walk.mono ?_
            rintro e w5 ⟨rfl, rfl⟩
            go_wp2_with (first | (refine wpList_bs rfl 29 24 1 _ rfl [.float .f64 9221120237041090561] Tryd.underlying29 Tryd.bsF rfl (by decide) (by decide) (by first | rfl | simp [Act.eval]) (by simp [Value.cells]) ?_) | (at_builtin; go_must (refine wpl_append rfl _ _ 29 rfl 24 1 8 Tryd.underlying29 Tryd.infoFs (by omega) _ _ (n8 + 1) _ rfl (H4.out.own.keep0 ((Keeps.refl _ _).alloc _)) _ 1 1 [.float .f64 9221120237041090561] rfl (Src.lit (Blk.new _ _ _) 1 rfl (by simp [Value.oneCell'])) (by unfold maxLen; omega) (by omega) ?_)))
            intro e8 f8 w6 hown2 hk2 hf2 _
            have H5 : Hid (FTwo w w6 e8 f8 (n8 + 1 + 1) (amid l p (i + 1)) a9 c9 (n9) ((l.take (i + 1)).filter fun x => !nanB x)) := Lib.hid (by
              have e : amid l p (i + 1) = amid l p i ++ [X] ++ [9221120237041090561] := by
                show amid l p i ++ [l.getD i 0] ++ (if p i then _ else []) = _
                rw [hX, HPB.out, if_pos rfl]
              rw [e]; exact H4.out.app 9221120237041090561 rfl hown2 hk2 hf2)
            clear H4 hown2 hk2 hf2
            go_wp2_with fail
            go_roundw
            case rel => first | exact ⟨i + 1, e8, f8, n8 + 1 + 1, a9, c9, n9, by first | rfl | trivial | go_num, by first | rfl | trivial | go_num, by go_num, by omega, by omega, hn9', H5⟩ | ((repeat apply Exists.intro); exact ⟨⟨i + 1, e8, f8, n8 + 1 + 1, a9, c9, n9, by first | rfl | trivial | go_num, by first | rfl | trivial | go_num, by go_num, by omega, by omega, hn9', H5⟩, rfl⟩)
            case measure => first | (simp [intOf]; done) | (simp [intOf]; omega)
        | false =>
          rw [hnx, Bool.not_false] at hex
          go_wp2_with (first | (refine wpList_bs rfl 29 24 1 _ rfl [.float .f64 X] Tryd.underlying29 Tryd.bsF rfl (by decide) (by decide) (by first | rfl | simp [Act.eval]) (by simp [Value.cells]) ?_) | (at_builtin; go_must (refine wpl_append rfl _ _ 29 rfl 24 1 8 Tryd.underlying29 Tryd.infoFs (by omega) _ _ n9 _ rfl (H2.out.own'.keep0 ((Keeps.refl _ _).alloc _)) _ 1 1 [.float .f64 X] rfl (Src.lit (Blk.new _ _ _) 1 rfl (by simp [Value.oneCell'])) (by unfold maxLen; omega) (by omega) ?_)))
          intro b9 d9 w3 hown2 hk2 hf2 _
          have H3 : Hid (FTwo w w3 a8 c8 n8 (amid l p i) b9 d9 (n9 + 1) ((l.take (i + 1)).filter fun x => !nanB x)) := Lib.hid (by rw [take_snoc (by rw [HLL.out]; exact hil), hX, List.filter_append, show [X].filter (fun x => !nanB x) = [X] by simp [hnx]]; exact (H2.out.swap.app X rfl hown2 hk2 hf2).swap)
          have hn9' : n9 + 1 ≤ i + 1 := by omega
          clear H2 hnx hn9 hown2 hk2 hf2
          go_wp2_with (first | (refine wpList_bs rfl 29 24 1 _ rfl [.float .f64 X] Tryd.underlying29 Tryd.bsF rfl (by decide) (by decide) (by first | rfl | simp [Act.eval]) (by simp [Value.cells]) ?_) | (at_builtin; go_must (refine wpl_append rfl _ _ 29 rfl 24 1 8 Tryd.underlying29 Tryd.infoFs (by omega) _ _ n8 _ rfl (H3.out.own.keep0 ((Keeps.refl _ _).alloc _)) _ 1 1 [.float .f64 X] rfl (Src.lit (Blk.new _ _ _) 1 rfl (by simp [Value.oneCell'])) (by unfold maxLen; omega) (by omega) ?_)))
          intro b8 d8 w4 hown2 hk2 hf2 _
          have H4 := Lib.hid (H3.out.app X rfl hown2 hk2 hf2)
          clear H3 hown2 hk2 hf2
          cases pb with
          | false =>
            have H5 : Hid (FTwo w w4 b8 d8 (n8 + 1) (amid l p (i + 1)) b9 d9 (n9 + 1) ((l.take (i + 1)).filter fun x => !nanB x)) := Lib.hid (by
              have e : amid l p (i + 1) = amid l p i ++ [X] := by
                show amid l p i ++ [l.getD i 0] ++ (if p i then _ else []) = _
                rw [hX, HPB.out, if_neg (by decide), List.append_nil]
              rw [e]; exact H4.out)
            clear H4
            go_wp2_with fail
            go_roundw
            case rel => first | exact ⟨i + 1, b8, d8, n8 + 1, b9, d9, n9 + 1, by first | rfl | trivial | go_num, by first | rfl | trivial | go_num, by go_num, by omega, by omega, hn9', H5⟩ | ((repeat apply Exists.intro); exact ⟨⟨i + 1, b8, d8, n8 + 1, b9, d9, n9 + 1, by first | rfl | trivial | go_num, by first | rfl | trivial | go_num, by go_num, by omega, by omega, hn9', H5⟩, rfl⟩)
            case measure => first | (simp [intOf]; done) | (simp [intOf]; omega)
          | true =>
            go_wp2_with fail
            refine nan_walk.mono ?_
            rintro e w5 ⟨rfl, rfl⟩
            go_wp2_with (first | (refine wpList_bs rfl 29 24 1 _ rfl [.float .f64 9221120237041090561] Tryd.underlying29 Tryd.bsF rfl (by decide) (by decide) (by first | rfl | simp [Act.eval]) (by simp [Value.cells]) ?_) | (at_builtin; go_must (refine wpl_append rfl _ _ 29 rfl 24 1 8 Tryd.underlying29 Tryd.infoFs (by omega) _ _ (n8 + 1) _ rfl (H4.out.own.keep0 ((Keeps.refl _ _).alloc _)) _ 1 1 [.float .f64 9221120237041090561] rfl (Src.lit (Blk.new _ _ _) 1 rfl (by simp [Value.oneCell'])) (by unfold maxLen; omega) (by omega) ?_)))
            intro e8 f8 w6 hown2 hk2 hf2 _
            have H5 : Hid (FTwo w w6 e8 f8 (n8 + 1 + 1) (amid l p (i + 1)) b9 d9 (n9 + 1) ((l.take (i + 1)).filter fun x => !nanB x)) := Lib.hid (by
              have e : amid l p (i + 1) = amid l p i ++ [X] ++ [9221120237041090561] := by
                show amid l p i ++ [l.getD i 0] ++ (if p i then _ else []) = _
                rw [hX, HPB.out, if_pos rfl]
              rw [e]; exact H4.out.app 9221120237041090561 rfl hown2 hk2 hf2)
            clear H4 hown2 hk2 hf2
            go_wp2_with fail
            go_roundw
            case rel => first | exact ⟨i + 1, e8, f8, n8 + 1 + 1, b9, d9, n9 + 1, by first | rfl | trivial | go_num, by first | rfl | trivial | go_num, by go_num, by omega, by omega, hn9', H5⟩ | ((repeat apply Exists.intro); exact ⟨⟨i + 1, e8, f8, n8 + 1 + 1, b9, d9, n9 + 1, by first | rfl | trivial | go_num, by first | rfl | trivial | go_num, by go_num, by omega, by omega, hn9', H5⟩, rfl⟩)
            case measure => first | (simp [intOf]; done) | (simp [intOf]; omega)
      · obtain rfl : i = len := by omega
        have hii : ¬ (i : Int) < i := by omega
        have HA := Lib.hid (FRow.of_own H2.out.own)
        have HB := Lib.hid (FRow.of_own H2.out.own')
        have HSM : Hid (meanO (amid l p i) = meanO ((l.take i).filter fun x => !nanB x)) := Lib.hid (by have h := mean_same l p; rw [HLL.out] at h; exact h)
        have HK3 := Lib.hid H2.out.keeps
        obtain ⟨MO, hMO⟩ : ∃ o, meanO ((l.take i).filter fun x => !nanB x) = o := ⟨_, rfl⟩
        have HMO := Lib.hid hMO
        have hfo := mfrom_run one
        clear hMO H2
        go_wp2_with fail
        refine nan_walk.mono ?_
        rintro e wy ⟨rfl, rfl⟩
        go_wp2_with fail
        refine nan_walk.mono ?_
        rintro e wy ⟨rfl, rfl⟩
        go_wp2_with (refine wpList_bs rfl 29 24 2 _ rfl [.float .f64 9221120237041090561, .float .f64 9221120237041090561] Tryd.underlying29 Tryd.bsF rfl (by decide) (by decide) (by first | rfl | simp [Act.eval]) (by simp [Value.cells]) ?_)
        have hk5 := (HK3.out.alloc (.cells #[Value.float .f64 9221120237041090561, Value.float .f64 9221120237041090561] 24))
        refine (mean_walk (l := [9221120237041090561, 9221120237041090561]) (FRow.new _ _) (by decide)).mono ?_
        rintro e w5 ⟨v1, rfl, hv1, hk1⟩
        have HK5 := Lib.hid (hk5.trans hk1)
        have hn1 : nanB v1 = true := by
          rcases hv1 with h | ⟨_, h⟩
          · rw [show meanO [9221120237041090561, 9221120237041090561] = none by decide] at h; cases h
          · exact h
        have hs1 := ord_self v1
        rw [hn1] at hs1
        have HA5 := Lib.hid (HA.out.keep ((((Keeps.refl Nil wr).alloc _).trans hk1)))
        have HB5 := Lib.hid (HB.out.keep ((((Keeps.refl Nil wr).alloc _).trans hk1)))
        clear hk5 hk1 hv1 hn1
        go_wp2_with fail
        refine (mean_walk (l := []) (FRow.nil _) (by decide)).mono ?_
        rintro e w6 ⟨v2, rfl, hv2, hk2⟩
        have HK6 := Lib.hid (HK5.out.trans hk2)
        have hn2 : nanB v2 = true := by
          rcases hv2 with h | ⟨_, h⟩
          · rw [show meanO [] = none by decide] at h; cases h
          · exact h
        have hs2 := ord_self v2
        rw [hn2] at hs2
        have HA6 := Lib.hid (HA5.out.keep hk2)
        have HB6 := Lib.hid (HB5.out.keep hk2)
        clear hk2 hv2 hn2
        go_wp2_with fail
        have hnb8 : n8 ≤ 1000 := by omega
        have hnb9 : n9 ≤ 1000 := by omega
        refine (mean_walk HA6.out hnb8).mono ?_
        rintro e w7 ⟨va, rfl, hva, hk7⟩
        have HK7 := Lib.hid (HK6.out.trans hk7)
        have HB7 := Lib.hid (HB6.out.keep hk7)
        rw [HSM.out, HMO.out] at hva
        have HVA := Lib.hid hva
        clear hk7 hva
        go_wp2_with fail
        refine (mean_walk HB7.out hnb9).mono ?_
        rintro e w8 ⟨vb, rfl, hvb, hk8⟩
        have HK8 := Lib.hid (HK7.out.trans hk8)
        rw [HMO.out] at hvb
        have HSV : Hid (sameB va vb = true) := Lib.hid (same_of HVA.out hvb)
        have hs3 := ord_self one
        obtain ⟨no, hno⟩ : ∃ b, nanB one = b := ⟨_, rfl⟩
        rw [hno] at hs3
        have HNO := Lib.hid hno
        clear hk8 hvb hno HVA
        go_wp2_with fail
        refine (same_walk va vb).mono ?_
        rintro e wz ⟨rfl, rfl⟩
        rw [HSV.out]
        cases no with
        | true =>
          go_wp2_with fail
          refine copysign_walk.mono ?_
          rintro e wz ⟨rfl, rfl⟩
          go_wp2_with (refine wpList_bs rfl 29 24 1 _ rfl [.float .f64 9223372036854775808] Tryd.underlying29 Tryd.bsF rfl (by decide) (by decide) (by first | rfl | simp [Act.eval]) (by simp [Value.cells]) ?_)
          have hk9 := (HK8.out.alloc (.cells #[Value.float .f64 9223372036854775808] 24))
          refine (mean_walk (l := [9223372036854775808]) (FRow.new _ _) (by decide)).mono ?_
          rintro e wq ⟨vq, rfl, hvq, hkq⟩
          have HKQ := Lib.hid (hk9.trans hkq)
          rw [mean_neg0] at hvq
          obtain rfl : vq = 9223372036854775808 := by
            rcases hvq with h | ⟨h, _⟩
            · cases h; rfl
            · cases h
          clear hkq hvq hk9
          go_wp2_with fail
          refine (signbit_walk 9223372036854775808 (by decide)).mono ?_
          rintro e wz ⟨rfl, rfl⟩
          rw [show sgB 9223372036854775808 = true by decide]
          go_wp2_with fail
          go_ret
          exact ⟨rfl, HKQ.out⟩
        | false =>
          have HMN := Lib.hid (mean_one one hone HNO.out).2
          go_wp2_with fail
          refine nan_walk.mono ?_
          rintro e wz ⟨rfl, rfl⟩
          go_wp2_with (refine wpList_bs rfl 29 24 2 _ rfl [.float .f64 9221120237041090561, .float .f64 one] Tryd.underlying29 Tryd.bsF rfl (by decide) (by decide) (by first | rfl | simp [Act.eval]) (by simp [Value.cells]) ?_)
          have hk8 := (HK8.out.alloc (.cells #[Value.float .f64 9221120237041090561, Value.float .f64 one] 24))
          refine (mean_walk (l := [9221120237041090561, one]) (FRow.new _ _) (by simp)).mono ?_
          rintro e wr2 ⟨vr, rfl, hvr, hkr⟩
          have HKR := Lib.hid (hk8.trans hkr)
          rw [HMN.out] at hvr
          obtain rfl : one = vr := by
            rcases hvr with h | ⟨h, _⟩
            · cases h; rfl
            · cases h
          clear hkr hvr hk8
          go_wp2_with fail
          refine (same_walk one one).mono ?_
          rintro e wz ⟨rfl, rfl⟩
          rw [same_refl]
          go_wp2_with fail
          refine copysign_walk.mono ?_
          rintro e wz ⟨rfl, rfl⟩
          go_wp2_with (refine wpList_bs rfl 29 24 1 _ rfl [.float .f64 9223372036854775808] Tryd.underlying29 Tryd.bsF rfl (by decide) (by decide) (by first | rfl | simp [Act.eval]) (by simp [Value.cells]) ?_)
          have hk9 := (HKR.out.alloc (.cells #[Value.float .f64 9223372036854775808] 24))
          refine (mean_walk (l := [9223372036854775808]) (FRow.new _ _) (by decide)).mono ?_
          rintro e wq ⟨vq, rfl, hvq, hkq⟩
          have HKQ := Lib.hid (hk9.trans hkq)
          rw [mean_neg0] at hvq
          obtain rfl : vq = 9223372036854775808 := by
            rcases hvq with h | ⟨h, _⟩
            · cases h; rfl
            · cases h
          clear hkq hvq hk9
          go_wp2_with fail
          refine (signbit_walk 9223372036854775808 (by decide)).mono ?_
          rintro e wz ⟨rfl, rfl⟩
          rw [show sgB 9223372036854775808 = true by decide]
          go_wp2_with fail
          go_ret
          exact ⟨rfl, HKQ.out⟩
end Go.Proofs.YtmlfekcnpmlfkaaDoor
