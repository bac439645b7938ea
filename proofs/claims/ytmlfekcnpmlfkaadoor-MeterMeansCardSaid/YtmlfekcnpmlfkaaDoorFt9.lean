/-
  Floats as text: FormatFloat(x, 'g', -1, 64) of a finite number.
-/
import Derived.Test.YtmlfekcnpmlfkaaDoorFt8
import Derived.Laws.BytesArg
namespace Go.Proofs.YtmlfekcnpmlfkaaDoor
set_option linter.unusedSimpArgs false
set_option linter.unusedVariables false
open Go.RowKit

set_option maxRecDepth 20000 in
set_option maxHeartbeats 3200000 in
theorem fmt0_walk {w0 w : World} {a : Option Addr} {c n : Nat} {X : List Int} (ho : Own w 5 1 a c n (byteV X)) (hfr : ∀ k, blkOf a k → w0.heap.size ≤ k) (hk : Keeps Nil w0 w) (hn : n ≤ 1000) :
    Calls Tryd.prog 47 #[.slice a n c, .bool false, .slice none 0 0, .int .i64 0, .int .i64 0, .int .i64 (-1), .int .u8 103, .bool true] w (FmtP w0 X [48] n) := by
  have hmx : max (-1 : Int) 0 = 0 := by decide
  go_enter Tryd.func47, Tryd.ntmps47
  go_wp2_with (first | (refine wpList_bs rfl 48 5 1 _ rfl [.int .u8 48] Tryd.underlying48 Tryd.bs8 rfl (by decide) (by decide) (by first | rfl | simp [Act.eval]) (by simp [Value.cells]) ?_) | (at_builtin; go_must (refine wpl_append rfl _ _ 48 rfl 5 1 1 Tryd.underlying48 Tryd.info8s (by omega) _ _ n _ rfl (ho.keep0 ((Keeps.refl _ _).alloc _)) _ 1 1 [.int .u8 48] rfl (Src.lit (Blk.new _ _ _) 1 rfl (by simp [Value.oneCell'])) (by unfold maxLen; omega) (by omega) ?_)))
  intro a2 c2 w2 hown2 hk2 hf2 _
  have HFN : Hid (FmtP w0 X [48] n (.returned (.slice a2 (n + 1) c2)) w2) := Lib.hid ⟨a2, c2, rfl, by rw [byteV_append]; exact hown2, (hk.alloc _).step hk2 (fun k hk' => .inr (hfr k hk')), fun k hk' => by
    rcases hf2 k hk' with h1 | h1
    · exact hfr k h1
    · have := hk.size; omega⟩
  clear hown2 hk2 hf2 hk hfr
  go_wp2_with fail
  go_ret
  exact HFN.out
set_option maxRecDepth 20000 in
set_option maxHeartbeats 3200000 in
theorem ftoa0_walk {w0 w : World} {a : Option Addr} {c n : Nat} {X : List Int} (ho : Own w 5 1 a c n (byteV X)) (hfr : ∀ k, blkOf a k → w0.heap.size ≤ k) (hk : Keeps Nil w0 w) (hn : n ≤ 1000) :
    Calls Tryd.prog 40 #[.slice a n c, .float .f64 0, .int .u8 103, .int .i64 (-1)] w (FmtP w0 X [48] n) := by
  have hbr := bits_run 0
  go_enter Tryd.func40, Tryd.ntmps40
  go_wp2_with fail
  go_quiet (fail)
  go_wp2_with fail
  obtain ⟨wq, hwq⟩ : ∃ x, x = w.drewN nq := ⟨_, rfl⟩
  have hkq : Keeps Nil w (w.drewN nq) := (Keeps.refl _ _).drewN nq
  rw [← hwq] at hkq ⊢
  clear hwq
  refine (fmt0_walk (ho.keep0 hkq) hfr (hk.trans hkq) hn).mono ?_
  rintro e w9 ⟨a9, c9, rfl, ho9, hk9, hf9⟩
  have HFN : Hid (FmtP w0 X [48] n (.returned (.slice a9 (n + [(48 : Int)].length) c9)) w9) := Lib.hid ⟨a9, c9, rfl, ho9, hk9, hf9⟩
  clear ho9 hk9 hf9
  go_wp2_with fail
  go_ret
  exact HFN.out
/-- The text of a finite number. -/
def textO (b : Nat) : List Int := if b = 0 then [48] else textB b
theorem ftoaO_walk {w0 w : World} {a : Option Addr} {c n : Nat} {X : List Int} (ht : Tabs w) (ho : Own w 5 1 a c n (byteV X)) (hfr : ∀ k, blkOf a k → w0.heap.size ≤ k) (hk : Keeps Nil w0 w) (hn : n ≤ 1000)
    (b : Nat) (hb : b < W64) (hfin : exB b ≠ 2047) (hz : b ≠ 9223372036854775808) :
    Calls Tryd.prog 40 #[.slice a n c, .float .f64 b, .int .u8 103, .int .i64 (-1)] w (FmtP w0 X (textO b) n) := by
  unfold textO
  by_cases h0 : b = 0
  · subst h0
    rw [if_pos rfl]
    exact ftoa0_walk ho hfr hk hn
  · rw [if_neg h0]
    exact ftoa_walk ht ho hfr hk hn b hb hfin (by unfold manB exB; unfold W64 at hb; unfold exB at hfin; split <;> omega)
theorem text_str {w : World} {a : Option Addr} {c n : Nat} {l : List Int} (ho : Own w 5 1 a c n (byteV l)) : (convert 48 9 (.slice a n c)).run Tryd.prog w = .ok (.string (strOfNums l)) w := by
  have hl : l.length = n := by have := ho.1; simpa [byteV] using this
  cases a with
  | none =>
    have hn : n = 0 := by
      rcases ho.2.2.2 with ⟨_, h, _⟩ | ⟨g, sp, h, _⟩
      · exact h
      · cases h
    subst hn
    have hl0 : l = [] := List.eq_nil_of_length_eq_zero hl
    subst hl0
    rw [run_convert_bytes_nil w 48 5 Tryd.underlying48 Tryd.underlying5 0 c 9 Tryd.underlying9]
    rfl
  | some ad =>
    obtain ⟨b, o, s⟩ := ad
    obtain ⟨rfl, rfl, hr⟩ := ho.range rfl
    exact run_convert_bytes_arg w 48 5 Tryd.underlying48 Tryd.underlying5 b 0 n c l hl (fun i hi => by
      have := hr i (.int .u8 (l.getD i 0)) (byteV_get hl hi)
      simpa using this) 9 Tryd.underlying9
set_option maxRecDepth 20000 in
set_option maxHeartbeats 3200000 in
theorem ffi_walk {w : World} (ht : Tabs w) (b : Nat) (hb : b < W64) (hfin : exB b ≠ 2047) (hz : b ≠ 9223372036854775808) :
    Calls Tryd.prog 37 #[.float .f64 b, .int .u8 103, .int .i64 (-1), .int .i64 64] w fun e w' => e = .returned (.string (strOfNums (textO b))) ∧ Keeps Nil w w' := by
  have hmx : max (3 : Int) 24 = 24 := by decide
  go_enter Tryd.func37, Tryd.ntmps37
  go_wp2_with (at_make; refine wpl_make rfl _ _ 48 rfl 5 (.int .u8 0) 1 Tryd.underlying48 Tryd.info8 rfl .i64 .i64 0 24 _ _ rfl rfl rfl rfl (by omega) (by omega) (by unfold maxLen; omega) ?_)
  intro w1 hown _ hk1
  go_wp2_with fail
  refine (ftoaO_walk (X := []) (w0 := w) (ht.keep hk1) hown (fun k hk => by rw [blkOf_some] at hk; omega) hk1 (by omega) b hb hfin hz).mono ?_
  rintro e w2 ⟨a2, c2, rfl, ho2, hk2, hf2⟩
  have hcv := text_str ho2
  simp only [Nat.zero_add, List.nil_append] at hcv ⊢
  obtain ⟨S, hS⟩ : ∃ S, strOfNums (textO b) = S := ⟨_, rfl⟩
  rw [hS] at hcv
  have HS := Lib.hid hS
  clear hS
  clear ho2 hf2
  have HK := Lib.hid hk2
  clear hk2
  go_wp2_with fail
  go_ret
  exact ⟨by rw [HS.out]; rfl, HK.out⟩
theorem ff_walk {w : World} (ht : Tabs w) (b : Nat) (hb : b < W64) (hfin : exB b ≠ 2047) (hz : b ≠ 9223372036854775808) :
    Calls Tryd.prog 34 #[.float .f64 b, .int .u8 103, .int .i64 (-1), .int .i64 64] w fun e w' => e = .returned (.string (strOfNums (textO b))) ∧ Keeps Nil w w' := by
  have HF := Lib.hid (ffi_walk ht b hb hfin hz)
  clear ht
  generalize strOfNums (textO b) = S at *
  go_enter Tryd.func34, Tryd.ntmps34
  go_wp2_with fail
  refine HF.out.mono ?_
  rintro e w2 ⟨rfl, hk2⟩
  have HK := Lib.hid hk2
  clear hk2 HF
  go_wp2_with fail
  go_ret
  exact ⟨rfl, HK.out⟩
set_option maxRecDepth 100000 in
theorem text25 : strOfNums (textO 4612811918334230528) = ⟨#[50, 46, 53]⟩ := by kernel_rfl
end Go.Proofs.YtmlfekcnpmlfkaaDoor
