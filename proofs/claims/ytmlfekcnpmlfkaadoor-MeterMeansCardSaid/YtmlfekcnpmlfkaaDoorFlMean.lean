/-
  Mean.
-/
import Derived.Test.YtmlfekcnpmlfkaaDoorFlEdges
namespace Go.Proofs.YtmlfekcnpmlfkaaDoor
set_option linter.unusedSimpArgs false
set_option linter.unusedVariables false
open Go.RowKit

/-- A slice of floats. -/
structure FRow (w : World) (a : Option Addr) (len : Nat) (l : List Nat) : Prop where
  llen : l.length = len
  at_ : 0 < len → ∃ g o, a = some ⟨g, o, none⟩ ∧ ∀ i, i < len → w.cell? ⟨g, o + i, none⟩ = some (.float .f64 (l.getD i 0))
/-- A sum so far: none where it is none; how many went in. -/
def oadd (o : Option Nat) (x : Nat) : Option Nat := match o with
  | some s => floatBits .add .f64 s x
  | none => none
def mstep (s : Option Nat × Nat) (x : Nat) : Option Nat × Nat := if nanB x then s else if s.2 = 0 then (some x, 1) else (oadd s.1 x, s.2 + 1)
def msum (l : List Nat) : Option Nat × Nat := l.foldl mstep (some 0, 0)
def oquo (o : Option Nat) (n : Nat) : Option Nat := match o with
  | some s => floatBits .quo .f64 s n
  | none => none
def meanO (l : List Nat) : Option Nat := oquo (msum l).1 (floatOfInt .f64 ((msum l).2 : Int))
/-- A word that is the sum, or none where the sum is. -/
def IsO (v : Nat) (o : Option Nat) : Prop := o = some v ∨ (o = none ∧ nanB v = true)
theorem add_nan {v : Nat} (h : nanB v = true) (x : Nat) : floatBits .add .f64 v x = none := by
  obtain ⟨t, ht⟩ := read_nan (x := v) (by unfold nanB at h; exact of_decide_eq_true h)
  show ((Ieee.double.read v).sum (Ieee.double.read x)).map Ieee.double.write = none
  rw [ht]
  rfl
theorem quo_nan {v : Nat} (h : nanB v = true) (x : Nat) : floatBits .quo .f64 v x = none := by
  obtain ⟨t, ht⟩ := read_nan (x := v) (by unfold nanB at h; exact of_decide_eq_true h)
  show ((Ieee.double.read v).quotient 54 (Ieee.double.read x)).map Ieee.double.write = none
  rw [ht]
  rfl
/-- An addition, of what it may be. -/
theorem add_any {P : Program} (v x : Nat) (o : Option Nat) (h : IsO v o) (w : World) : ∃ r w', IsO r (oadd o x) ∧ Keeps Nil w w' ∧ ∀ t, (binOp .add t (.float .f64 v) (.float .f64 x)).run P w = .ok (.float .f64 r) w' := by
  have key : floatBits .add .f64 v x = oadd o x := by
    rcases h with h | ⟨h, hn⟩
    · rw [h]; rfl
    · rw [h, add_nan hn]; rfl
  cases hf : floatBits .add .f64 v x with
  | some r =>
    rw [hf] at key
    exact ⟨r, w, .inl key.symm, Keeps.refl _ _, fun t => run_float_arith w .add t .f64 v x r hf⟩
  | none =>
    rw [hf] at key
    obtain ⟨q, h1, _, h3⟩ := arith_nan (P := P) .add (.inl rfl) v x hf w
    exact ⟨q, w.drew, .inr ⟨key.symm, h1⟩, (Keeps.refl _ _).drew, h3⟩
theorem quo_any {P : Program} (v n : Nat) (o : Option Nat) (h : IsO v o) (w : World) : ∃ r w', IsO r (oquo o n) ∧ Keeps Nil w w' ∧ ∀ t, (binOp .quo t (.float .f64 v) (.float .f64 n)).run P w = .ok (.float .f64 r) w' := by
  have key : floatBits .quo .f64 v n = oquo o n := by
    rcases h with h | ⟨h, hn⟩
    · rw [h]; rfl
    · rw [h, quo_nan hn]; rfl
  rw [← key]
  cases hf : floatBits .quo .f64 v n with
  | some r => exact ⟨r, w, .inl rfl, Keeps.refl _ _, fun t => run_float_arith w .quo t .f64 v n r hf⟩
  | none =>
    obtain ⟨q, h1, _, h3⟩ := arith_nan (P := P) .quo (.inr rfl) v n hf w
    exact ⟨q, w.drew, .inr ⟨rfl, h1⟩, (Keeps.refl _ _).drew, h3⟩
theorem msum_snoc (l : List Nat) (x : Nat) : msum (l ++ [x]) = mstep (msum l) x := by unfold msum; rw [List.foldl_append]; rfl
theorem take_snoc {l : List Nat} {i : Nat} (h : i < l.length) : l.take (i + 1) = l.take i ++ [l.getD i 0] := by
  rw [List.take_succ_eq_append_getElem h]
  simp [List.getD, h]
theorem msum_len (l : List Nat) : (msum l).2 ≤ l.length := by
  have h : ∀ (l : List Nat) (s : Option Nat × Nat), (l.foldl mstep s).2 ≤ s.2 + l.length := by
    intro l
    induction l with
    | nil => intro s; exact Nat.le_refl _
    | cons x l ih =>
      intro s
      have h1 := ih (mstep s x)
      have h2 : (mstep s x).2 ≤ s.2 + 1 := by unfold mstep; split <;> (try split) <;> simp
      simp only [List.foldl_cons, List.length_cons]
      omega
  have := h l (some 0, 0)
  unfold msum
  simp at this
  exact this
set_option maxRecDepth 20000 in
set_option maxHeartbeats 1600000 in
theorem mean_walk {w : World} {a : Option Addr} {len cap : Nat} {l : List Nat} (h : FRow w a len l) (hlen : len ≤ 1000) :
    Calls Tryd.prog 13 #[.slice a len cap] w fun e w' => ∃ v, e = .returned (.float .f64 v) ∧ IsO v (meanO l) ∧ Keeps Nil w w' := by
  have HR := Lib.hid h
  have HLL := Lib.hid h.llen
  clear h
  go_enter Tryd.func13, Tryd.ntmps13
  go_wp2_with fail
  go_loopw [3, 4, 9] (fun v3 v4 v9 wr => ∃ (i s n : Nat), v9 = .int .i64 i ∧ v3 = .float .f64 s ∧ v4 = .int .i64 n ∧ i ≤ len ∧ n ≤ len ∧ Hid (IsO s (msum (l.take i)).1) ∧ Hid ((msum (l.take i)).2 = n) ∧ Hid (Keeps Nil w wr)) (fun _ _ v9 _ => len - (intOf v9).toNat)
  case atStart => exact ⟨0, 0, 0, rfl, rfl, rfl, Nat.zero_le _, Nat.zero_le _, Lib.hid (.inl rfl), Lib.hid rfl, Lib.hid (Keeps.refl _ _)⟩
  case round =>
    obtain ⟨i, s, n, rfl, rfl, rfl, hi, hn, HS, HN, HK⟩ := hrel
    by_cases hil : i < len
    · obtain ⟨g, o, ha, hc⟩ := HR.out.at_ (by omega)
      have hcl := HK.out.cell (hc i hil) (fun h => h)
      have hii : (i : Int) < len := by omega
      have hi0 : (0 : Int) ≤ i := by omega
      obtain ⟨x, hx⟩ : ∃ x, l.getD i 0 = x := ⟨_, rfl⟩
      rw [hx] at hcl
      have HST : Hid (msum (l.take (i + 1)) = mstep (msum (l.take i)) x) := Lib.hid (by rw [take_snoc (by rw [HLL.out]; exact hil), msum_snoc, hx])
      subst ha
      clear hc hx
      cases hnx : nanB x with
      | true =>
        have H1 : Hid (IsO s (msum (l.take (i + 1))).1) := Lib.hid (by rw [HST.out]; unfold mstep; rw [if_pos hnx]; exact HS.out)
        have H2 : Hid ((msum (l.take (i + 1))).2 = n) := Lib.hid (by rw [HST.out]; unfold mstep; rw [if_pos hnx]; exact HN.out)
        have HNX := Lib.hid hnx
        clear hnx
        go_wp2_with fail
        refine (isnan_walk x).mono ?_
        rintro e wz ⟨rfl, rfl⟩
        rw [HNX.out]
        go_wp2_with fail
        go_roundw
        case rel => first | exact ⟨i + 1, s, n, by go_num, by first | rfl | trivial | go_num, by go_num, by omega, by omega, H1, H2, HK⟩ | ((repeat apply Exists.intro); exact ⟨⟨i + 1, s, n, by go_num, by first | rfl | trivial | go_num, by go_num, by omega, by omega, H1, H2, HK⟩, rfl⟩)
        case measure => first | (simp [intOf]; done) | (simp [intOf]; omega)
      | false =>
        have HNX := Lib.hid hnx
        have hnf : ¬ nanB x = true := by rw [hnx]; decide
        by_cases hn0 : n = 0
        · subst hn0
          have H1 : Hid (IsO x (msum (l.take (i + 1))).1) := Lib.hid (by rw [HST.out]; unfold mstep; rw [if_neg hnf, if_pos HN.out]; exact .inl rfl)
          have H2 : Hid ((msum (l.take (i + 1))).2 = 1) := Lib.hid (by rw [HST.out]; unfold mstep; rw [if_neg hnf, if_pos HN.out])
          clear hnx hnf
          go_wp2_with fail
          refine (isnan_walk x).mono ?_
          rintro e wz ⟨rfl, rfl⟩
          rw [HNX.out]
          go_wp2_with fail
          go_roundw
          case rel => first | exact ⟨i + 1, x, 1, by go_num, by first | rfl | trivial | go_num, by go_num, by omega, by omega, H1, H2, HK⟩ | ((repeat apply Exists.intro); exact ⟨⟨i + 1, x, 1, by go_num, by first | rfl | trivial | go_num, by go_num, by omega, by omega, H1, H2, HK⟩, rfl⟩)
          case measure => first | (simp [intOf]; done) | (simp [intOf]; omega)
        · have hni : ((n : Int) == 0) = false := by rw [beq_eq_false_iff_ne]; omega
          have hle : n + 1 ≤ len := by
            have h1 := msum_len (l.take (i + 1))
            have h2 : (msum (l.take (i + 1))).2 = n + 1 := by rw [HST.out]; unfold mstep; rw [if_neg hnf, if_neg (by rw [HN.out]; exact hn0), HN.out]
            rw [h2, List.length_take] at h1
            omega
          have H2 : Hid ((msum (l.take (i + 1))).2 = n + 1) := Lib.hid (by rw [HST.out]; unfold mstep; rw [if_neg hnf, if_neg (by rw [HN.out]; exact hn0), HN.out])
          have H3 : Hid ((msum (l.take (i + 1))).1 = oadd (msum (l.take i)).1 x) := Lib.hid (by rw [HST.out]; unfold mstep; rw [if_neg hnf, if_neg (by rw [HN.out]; exact hn0)])
          clear hnx hnf hn0
          go_wp2_with fail
          refine (isnan_walk x).mono ?_
          rintro e wz ⟨rfl, rfl⟩
          rw [HNX.out]
          obtain ⟨r, wn, hr, hkn, hrun⟩ := add_any (P := Tryd.prog) s x _ HS.out wr
          have hrt := hrun 24
          have H1 : Hid (IsO r (msum (l.take (i + 1))).1) := Lib.hid (by rw [H3.out]; exact hr)
          have HK2 := Lib.hid (HK.out.trans hkn)
          clear hr hkn hrun
          go_wp2_with fail
          go_roundw
          case rel => first | exact ⟨i + 1, r, n + 1, by go_num, by first | rfl | trivial | go_num, by go_num, by omega, by omega, H1, H2, HK2⟩ | ((repeat apply Exists.intro); exact ⟨⟨i + 1, r, n + 1, by go_num, by first | rfl | trivial | go_num, by go_num, by omega, by omega, H1, H2, HK2⟩, rfl⟩)
          case measure => first | (simp [intOf]; done) | (simp [intOf]; omega)
    · obtain rfl : i = len := by omega
      have hii : ¬ (i : Int) < i := by omega
      have hta : l.take i = l := List.take_of_length_le (by rw [HLL.out]; exact Nat.le_refl _)
      have HSS : Hid (IsO s (msum l).1) := Lib.hid (by rw [← hta]; exact HS.out)
      have HNN : Hid ((msum l).2 = n) := Lib.hid (by rw [← hta]; exact HN.out)
      obtain ⟨v, wv, hv, hkv, hrun⟩ := quo_any (P := Tryd.prog) s (floatOfInt .f64 (n : Int)) _ HSS.out wr
      have hrt := hrun 24
      have HV : Hid (IsO v (meanO l)) := Lib.hid (by unfold meanO; rw [HNN.out]; exact hv)
      have HKV := Lib.hid (HK.out.trans hkv)
      clear hv hkv hrun hta HS HN
      go_wp2_with fail
      go_ret
      exact ⟨v, rfl, HV.out, HKV.out⟩
end Go.Proofs.YtmlfekcnpmlfkaaDoor
