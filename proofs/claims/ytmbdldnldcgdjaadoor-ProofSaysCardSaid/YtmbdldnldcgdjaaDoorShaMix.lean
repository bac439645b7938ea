/-
  sha.mix.
-/
import Derived.Test.YtmbdldnldcgdjaaDoorShaMix0
namespace Go.Proofs.YtmbdldnldcgdjaaDoor
set_option linter.unusedSimpArgs false
set_option linter.unusedVariables false
open Go.RowKit

def bsig0 (x : Int) : Int := bits .xor .u32 (bits .xor .u32 (rotr x 2) (rotr x 13)) (rotr x 22)
def bsig1 (x : Int) : Int := bits .xor .u32 (bits .xor .u32 (rotr x 6) (rotr x 11)) (rotr x 25)
def chW (e f g : Int) : Int := bits .xor .u32 (bits .and .u32 e f) (bits .and .u32 (bits .xor .u32 IntKind.u32.max e) g)
def majW (a b c : Int) : Int := bits .xor .u32 (bits .xor .u32 (bits .and .u32 a b) (bits .and .u32 a c)) (bits .and .u32 b c)
def oneW (s : List Int) (k x : Int) : Int := (s.getD 7 0 + bsig1 (s.getD 4 0) + chW (s.getD 4 0) (s.getD 5 0) (s.getD 6 0) + k + x) % 4294967296
def twoW (s : List Int) : Int := (bsig0 (s.getD 0 0) + majW (s.getD 0 0) (s.getD 1 0) (s.getD 2 0)) % 4294967296
/-- A round's new state. -/
def stepS (s : List Int) (k x : Int) : List Int :=
  [(oneW s k x + twoW s) % 4294967296, s.getD 0 0, s.getD 1 0, s.getD 2 0, (s.getD 3 0 + oneW s k x) % 4294967296, s.getD 4 0, s.getD 5 0, s.getD 6 0]
/-- The state behind j rounds. -/
def rnd (H W K : List Int) : Nat → List Int
  | 0 => H
  | j + 1 => stepS (rnd H W K j) (K.getD j 0) (W.getD j 0)
theorem rnd_succ (H W K : List Int) (j : Nat) : rnd H W K (j + 1) = stepS (rnd H W K j) (K.getD j 0) (W.getD j 0) := rfl
theorem rnd_len (H W K : List Int) (h : H.length = 8) : ∀ j, (rnd H W K j).length = 8
  | 0 => h
  | _ + 1 => rfl
theorem isW_emod (x : Int) : IsW (x % 4294967296) := by unfold IsW; omega
theorem rnd_isW (H W K : List Int) (h : ∀ x ∈ H, IsW x) : ∀ j, ∀ x ∈ rnd H W K j, IsW x
  | 0 => h
  | j + 1 => fun x hx => by
    have ih := rnd_isW H W K h j
    rw [rnd_succ] at hx
    simp only [stepS, List.mem_cons, List.not_mem_nil, or_false] at hx
    rcases hx with rfl | rfl | rfl | rfl | rfl | rfl | rfl | rfl <;> first | exact isW_emod _ | exact getD_isW ih _
/-- The first j of eight words are sums. -/
def addUp (H S : List Int) (j : Nat) : List Int := (List.range 8).map fun i => if i < j then (H.getD i 0 + S.getD i 0) % 4294967296 else H.getD i 0
theorem addUp_len (H S : List Int) (j : Nat) : (addUp H S j).length = 8 := by simp [addUp]
theorem addUp_zero (H S : List Int) (h : H.length = 8) : addUp H S 0 = H := by
  apply List.ext_getElem?
  intro i
  simp only [addUp, Nat.not_lt_zero, if_false, List.getElem?_map]
  rcases Nat.lt_or_ge i 8 with hi | hi
  · simp [hi, List.getD, show i < H.length by omega]
  · rw [List.getElem?_eq_none (by simpa using hi), List.getElem?_eq_none (by omega)]; rfl
theorem addUp_getD (H S : List Int) (j : Nat) (h : j < 8) : (addUp H S j).getD j 0 = H.getD j 0 := by
  simp [addUp, List.getD, h]
theorem addUp_succ (H S : List Int) (j : Nat) (h : j < 8) : (addUp H S j).set j ((H.getD j 0 + S.getD j 0) % 4294967296) = addUp H S (j + 1) := by
  apply List.ext_getElem?
  intro i
  rw [List.getElem?_set]
  rcases Nat.lt_or_ge i 8 with hi | hi
  · by_cases e : j = i
    · subst e
      simp [addUp, hi]
    · rw [if_neg e]
      simp only [addUp, List.getElem?_map]
      by_cases e2 : i < j
      · simp [hi, e2, show i < j + 1 by omega]
      · simp [hi, e2, show ¬ i < j + 1 by omega]
  · rw [List.getElem?_eq_none (l := addUp H S (j + 1)) (by rw [addUp_len]; exact hi), List.getElem?_eq_none (l := addUp H S j) (by rw [addUp_len]; exact hi)]
    simp [addUp_len]; omega
/-- A block taken in. -/
def shaBlock (H l : List Int) : List Int := addUp H (rnd H (wl l 64) shaK 64) 8
theorem shaBlock_len (H l : List Int) : (shaBlock H l).length = 8 := addUp_len _ _ _
theorem shaBlock_isW (H l : List Int) : ∀ x ∈ shaBlock H l, IsW x := fun x hx => by
  unfold shaBlock addUp at hx
  obtain ⟨i, hi, rfl⟩ := List.mem_map.1 hx
  simp only [List.mem_range] at hi
  simp only [hi, if_true]
  exact isW_emod _
theorem eight {S : List Int} (h : S.length = 8) : ∃ a b c d e f g k, S = [a, b, c, d, e, f, g, k] := by
  match S, h with
  | [a, b, c, d, e, f, g, k], _ => exact ⟨a, b, c, d, e, f, g, k, rfl⟩

theorem Tryd.infoW8 : (Tryd.prog.info? 69).map (·.size) = some 8 := by kernel_rfl
theorem Tryd.undW8 : Tryd.prog.underlying 69 = some (.array 8 68) := by kernel_rfl
def z8 : List Int := List.replicate 8 0
theorem Tryd.zeroW8 (w : World) : (zeroValue 69).run Tryd.prog w = .ok (.agg (wordV z8).toArray) w := by kernel_rfl

abbrev ptr (g : Nat) : Value := .pointer (some ⟨g, 0, none⟩)
abbrev mixAct (g : Nat) (a : Option Addr) (cap : Nat) (Hv v4 v5 v6 v14 v15 : Value) : Act :=
  { tmps := #[ptr g, .slice a 64 cap, undef, undef, v4, v5, v6, undef, undef, undef, undef, undef, undef, .slice a 64 cap, v14, v15, ptr g, ptr g, ptr g, Hv, undef, undef, undef, undef, undef, undef, undef, undef, undef, undef, undef, undef, undef, undef, undef, undef, undef, undef, undef, undef, undef, undef, undef, undef, undef, undef, undef, undef, undef, undef, undef, undef, undef, undef, undef, undef, undef, undef, undef, undef, undef, undef, undef, undef, undef, undef, undef, undef, undef, undef, undef, undef, undef, undef, undef, undef, undef, undef, undef, undef, undef, undef, undef, undef, undef, undef, undef, undef, undef, undef, undef, undef, undef, undef, undef, undef, undef, undef, undef, undef, undef, undef, undef, undef, undef, undef, undef, undef, undef, undef, undef, undef, undef, undef, undef, undef, undef, undef, undef], defers := [] }
/-- How far the first region is: the two calls, the three blocks. -/
structure MixS where
  c : Fin 3
  b7 : Bool
  b8 : Bool
  b9 : Bool
structure MixF (w0 w : World) (s : MixS) (g4 g5 g6 : Nat) : Prop where
  hk : Keeps Nil w0 w
  h4 : s.b7 = true → Blk w g4 (wordV (wlUp [] 0)) 75 ∧ w0.heap.size ≤ g4
  h5 : s.b8 = true → Blk w g5 (wordV (wlUp [] 0)) 75 ∧ w0.heap.size ≤ g5
  h6 : s.b9 = true → Blk w g6 (wordV z8) 69 ∧ w0.heap.size ≤ g6
  n45 : s.b7 = true → s.b8 = true → g4 ≠ g5
  n46 : s.b7 = true → s.b9 = true → g4 ≠ g6
  n56 : s.b8 = true → s.b9 = true → g5 ≠ g6
def MixS.L (s : MixS) : Array Bool := #[true, decide (1 ≤ s.c.val), decide (2 ≤ s.c.val), true, true, true, true, s.b7, s.b8, s.b9, false, false, false]
def MixS.rank (s : MixS) : Nat := (2 - s.c.val) + (if s.b7 then 0 else 1) + (if s.b8 then 0 else 1) + (if s.b9 then 0 else 1)
def MixS.rd (s : MixS) : List Nat := (if s.c.val = 0 then [1] else if s.c.val = 1 then [2] else []) ++ (if s.b7 then [] else [7]) ++ (if s.b8 then [] else [8]) ++ (if s.b9 then [] else [9])
def MixS.nx (s : MixS) (i : Nat) : MixS := if i = 1 then { s with c := 1 } else if i = 2 then { s with c := 2 } else if i = 7 then { s with b7 := true } else if i = 8 then { s with b8 := true } else { s with b9 := true }
def MixI (w0 : World) (g : Nat) (a : Option Addr) (cap : Nat) (H WL KL : List Int) (s : MixS) (A : Act) (w : World) : Prop :=
  ∃ g4 g5 g6, MixF w0 w s g4 g5 g6 ∧ A = mixAct g a cap (.agg (wordV H).toArray) (if s.b7 then ptr g4 else undef) (if s.b8 then ptr g5 else undef) (if s.b9 then ptr g6 else undef) (if 1 ≤ s.c.val then .agg (wordV WL).toArray else undef) (if 2 ≤ s.c.val then .agg (wordV KL).toArray else undef)

theorem right_int (x c : Int) (w : World) (hx : IsW x) (h1 : 1 ≤ c) (h2 : c ≤ 31) : Calls Tryd.prog 52 #[.int .u32 x, .int .i64 c] w fun e w' => e = .returned (.int .u32 (rotr x c.toNat)) ∧ w' = w := by
  obtain ⟨n, rfl⟩ : ∃ n : Nat, c = n := ⟨c.toNat, by omega⟩
  exact still_same (right_walk x n w hx.1 hx.2 (by omega) (by omega))
theorem Tryd.built8 (a b c d e f g h : Int) : Tryd.prog.built 69 [(0, .int .u32 a), (1, .int .u32 b), (2, .int .u32 c), (3, .int .u32 d), (4, .int .u32 e), (5, .int .u32 f), (6, .int .u32 g), (7, .int .u32 h)] = some (wordV [a, b, c, d, e, f, g, h]).toArray := by kernel_rfl
def MixPost (g : Nat) (R : List Int) (r n : Value) (w : World) (e : Ending) (w' : World) : Prop := e = .returned (.tuple #[]) ∧ Blk w' g (wordV R ++ [r, n]) 95 ∧ Keeps (One g) w w'

set_option maxRecDepth 20000 in
set_option maxHeartbeats 3200000 in
theorem mix_core {w : World} {g : Nat} {a : Option Addr} {cap : Nat} {H WL KL : List Int} {r n : Value} (hcap : 64 ≤ cap) (hb : Blk w g (wordV H ++ [r, n]) 95) (hH : H.length = 8) (hHW : ∀ x ∈ H, IsW x) (hWL : WL.length = 64) (hKL : KL.length = 64)
    (hww : ∀ w', Keeps Nil w w' → Calls Tryd.prog 50 #[.slice a 64 cap] w' fun e w'' => e = .returned (.agg (wordV WL).toArray) ∧ Keeps Nil w' w'')
    (hrd : ∀ w', Calls Tryd.prog 51 #[] w' fun e w'' => e = .returned (.agg (wordV KL).toArray) ∧ Keeps Nil w' w'') :
    Calls Tryd.prog 49 #[.pointer (some ⟨g, 0, none⟩), .slice a 64 cap] w (MixPost g (addUp H (rnd H WL KL 64) 8) r n w) := by
  have hrg : w.rangeAt g 0 (wordV H) := hb.rangeAt 0 (fun j v hv => by
    have hj : j < (wordV H).length := (List.getElem?_eq_some_iff.1 hv).1
    rw [Nat.zero_add, List.getElem?_append_left hj]; exact hv)
  have hU8 := Tryd.undW8
  have hI8 : (Tryd.prog.info? 69).map (·.size) = some (wordV H).length := by rw [wordV_len, hH]; exact Tryd.infoW8
  have HWW := Lib.hid hww
  have HRD := Lib.hid hrd
  clear hww hrd
  go_enter Tryd.func49, Tryd.ntmps49
  go_wp2_with fail
  refine wp_region_held_drew (S := fun w' => w'.rangeAt g 0 (wordV H)) (by kernel_rfl) hrg (fun hHeld => ?_)
  refine takeL (i := 0) (v := _) rfl (by kernel_rfl) (by kernel_rfl) (by kernel_rfl) (fun _ _ _ h => h) (Or.inl ⟨by rfl, by intro w hSw; (try dsimp only at hSw); go_simp; try with_reducible rfl⟩) (by assumption) ?_
  try simp only [Act.put, List.setIfInBounds_toArray, List.set_cons_zero, List.set_cons_succ]
  refine takeL (i := 3) (v := _) rfl (by kernel_rfl) (by kernel_rfl) (by kernel_rfl) (fun _ _ _ h => h) (Or.inl ⟨by rfl, by intro w hSw; (try dsimp only at hSw); go_simp; try with_reducible rfl⟩) (by assumption) ?_
  try simp only [Act.put, List.setIfInBounds_toArray, List.set_cons_zero, List.set_cons_succ]
  refine takeL (i := 4) (v := _) rfl (by kernel_rfl) (by kernel_rfl) (by kernel_rfl) (fun _ _ _ h => h) (Or.inl ⟨by rfl, by intro w hSw; (try dsimp only at hSw); go_simp; try with_reducible rfl⟩) (by assumption) ?_
  try simp only [Act.put, List.setIfInBounds_toArray, List.set_cons_zero, List.set_cons_succ]
  refine takeL (i := 5) (v := _) rfl (by kernel_rfl) (by kernel_rfl) (by kernel_rfl) (fun _ _ _ h => h) (Or.inl ⟨by rfl, by intro w hSw; (try dsimp only at hSw); go_simp; try with_reducible rfl⟩) (by assumption) ?_
  try simp only [Act.put, List.setIfInBounds_toArray, List.set_cons_zero, List.set_cons_succ]
  refine takeL (i := 6) (v := _) rfl (by kernel_rfl) (by kernel_rfl) (by kernel_rfl) (fun _ _ _ h => h) (yieldsIf_load_mid (by rfl) 69 _ rfl g 0 rfl (wordV H) _ (fun w hSw => hSw) hU8 rfl hI8) (by assumption) ?_
  try simp only [Act.put, List.setIfInBounds_toArray, List.set_cons_zero, List.set_cons_succ]
  have hkd : Keeps Nil w w.drew := (Keeps.refl Nil w).drew
  have hrk : ∀ {w' : World}, Keeps Nil w.drew w' → w'.rangeAt g 0 (wordV H) := fun hk' => (hb.keep0 (hkd.trans hk')).rangeAt 0 (fun j v hv => by
    have hj : j < (wordV H).length := (List.getElem?_eq_some_iff.1 hv).1
    rw [Nat.zero_add, List.getElem?_append_left hj]; exact hv)
  refine wpAnyH_inv MixS.L (MixI w.drew g a cap H WL KL) MixS.rank MixS.rd MixS.nx 3 ?hr ?hn ?hs ?hf 5 ⟨0, false, false, false⟩ _ _ rfl ?h0
  case h0 => exact ⟨0, 0, 0, ⟨Keeps.refl _ _, fun h => (by cases h), fun h => (by cases h), fun h => (by cases h), fun h => (by cases h), fun h => (by cases h), fun h => (by cases h)⟩, rfl⟩
  case hr =>
    rintro ⟨c, b7, b8, b9⟩ h0
    match c, b7, b8, b9, h0 with
    | 0, b7, b8, b9, _ => exact ⟨by cases b7 <;> cases b8 <;> cases b9 <;> kernel_rfl, by simp [MixS.rd]⟩
    | 1, b7, b8, b9, _ => exact ⟨by cases b7 <;> cases b8 <;> cases b9 <;> kernel_rfl, by simp [MixS.rd]⟩
    | 2, false, b8, b9, _ => exact ⟨by cases b8 <;> cases b9 <;> kernel_rfl, by simp [MixS.rd]⟩
    | 2, true, false, b9, _ => exact ⟨by cases b9 <;> kernel_rfl, by simp [MixS.rd]⟩
    | 2, true, true, false, _ => exact ⟨by kernel_rfl, by simp [MixS.rd]⟩
    | 2, true, true, true, h0 => exact absurd h0 (by decide)
  case hn =>
    rintro ⟨c, b7, b8, b9⟩ _ i hi
    match c with
    | 0 => revert i; cases b7 <;> cases b8 <;> cases b9 <;> decide
    | 1 => revert i; cases b7 <;> cases b8 <;> cases b9 <;> decide
    | 2 => revert i; cases b7 <;> cases b8 <;> cases b9 <;> decide
  case hs =>
    rintro ⟨c, b7, b8, b9⟩ A w1 ⟨g4, g5, g6, hF, rfl⟩ i hi
    have hi' : (i = 1 ∧ c = 0) ∨ (i = 2 ∧ c = 1) ∨ (i = 7 ∧ b7 = false) ∨ (i = 8 ∧ b8 = false) ∨ (i = 9 ∧ b9 = false) := by
      revert hi
      match c with
      | 0 => cases b7 <;> cases b8 <;> cases b9 <;> simp [MixS.rd] <;> omega
      | 1 => cases b7 <;> cases b8 <;> cases b9 <;> simp [MixS.rd] <;> omega
      | 2 => cases b7 <;> cases b8 <;> cases b9 <;> simp [MixS.rd] <;> omega
    clear hi
    rcases hi' with ⟨rfl, rfl⟩ | ⟨rfl, rfl⟩ | ⟨rfl, rfl⟩ | ⟨rfl, rfl⟩ | ⟨rfl, rfl⟩
    · refine ⟨_, rfl, fun K hK => ?_⟩
      go_simp
      refine (HWW.out w1 (hkd.trans hF.hk)).mono ?_
      rintro e w2 ⟨rfl, hk2⟩
      refine hK _ _ (hrk (hF.hk.trans hk2)) ⟨g4, g5, g6, ⟨hF.hk.trans hk2, fun h => ⟨(hF.h4 h).1.keep0 hk2, (hF.h4 h).2⟩, fun h => ⟨(hF.h5 h).1.keep0 hk2, (hF.h5 h).2⟩, fun h => ⟨(hF.h6 h).1.keep0 hk2, (hF.h6 h).2⟩, hF.n45, hF.n46, hF.n56⟩, rfl⟩
    · refine ⟨_, rfl, fun K hK => ?_⟩
      go_simp
      refine (HRD.out w1).mono ?_
      rintro e w2 ⟨rfl, hk2⟩
      refine hK _ _ (hrk (hF.hk.trans hk2)) ⟨g4, g5, g6, ⟨hF.hk.trans hk2, fun h => ⟨(hF.h4 h).1.keep0 hk2, (hF.h4 h).2⟩, fun h => ⟨(hF.h5 h).1.keep0 hk2, (hF.h5 h).2⟩, fun h => ⟨(hF.h6 h).1.keep0 hk2, (hF.h6 h).2⟩, hF.n45, hF.n46, hF.n56⟩, rfl⟩
    · refine ⟨_, rfl, fun K hK => ?_⟩
      go_simp
      have hk2 := (Keeps.refl Nil w1).alloc (.cells (wordV (wlUp [] 0)).toArray 75)
      exact hK _ _ (hrk (hF.hk.trans hk2)) ⟨w1.heap.size, g5, g6, ⟨hF.hk.trans hk2, fun h => ⟨Blk.new w1 _ _, hF.hk.size⟩, fun h => ⟨(hF.h5 h).1.keep0 hk2, (hF.h5 h).2⟩, fun h => ⟨(hF.h6 h).1.keep0 hk2, (hF.h6 h).2⟩, fun _ h e => by have := (hF.h5 h).1.lt; omega, fun _ h e => by have := (hF.h6 h).1.lt; omega, hF.n56⟩, rfl⟩
    · refine ⟨_, rfl, fun K hK => ?_⟩
      go_simp
      have hk2 := (Keeps.refl Nil w1).alloc (.cells (wordV (wlUp [] 0)).toArray 75)
      exact hK _ _ (hrk (hF.hk.trans hk2)) ⟨g4, w1.heap.size, g6, ⟨hF.hk.trans hk2, fun h => ⟨(hF.h4 h).1.keep0 hk2, (hF.h4 h).2⟩, fun h => ⟨Blk.new w1 _ _, hF.hk.size⟩, fun h => ⟨(hF.h6 h).1.keep0 hk2, (hF.h6 h).2⟩, fun h _ e => by have := (hF.h4 h).1.lt; omega, hF.n46, fun _ h e => by have := (hF.h6 h).1.lt; omega⟩, rfl⟩
    · refine ⟨_, rfl, fun K hK => ?_⟩
      go_simp
      have hk2 := (Keeps.refl Nil w1).alloc (.cells (wordV z8).toArray 69)
      exact hK _ _ (hrk (hF.hk.trans hk2)) ⟨g4, g5, w1.heap.size, ⟨hF.hk.trans hk2, fun h => ⟨(hF.h4 h).1.keep0 hk2, (hF.h4 h).2⟩, fun h => ⟨(hF.h5 h).1.keep0 hk2, (hF.h5 h).2⟩, fun h => ⟨Blk.new w1 _ _, hF.hk.size⟩, hF.n45, fun h _ e => by have := (hF.h4 h).1.lt; omega, fun h _ e => by have := (hF.h5 h).1.lt; omega⟩, rfl⟩
  case hf =>
    rintro ⟨c, b7, b8, b9⟩ A w1 h0 ⟨g4, g5, g6, hF, rfl⟩
    obtain ⟨rfl, rfl, rfl, rfl⟩ : c = 2 ∧ b7 = true ∧ b8 = true ∧ b9 = true := by
      revert h0
      match c with
      | 0 => cases b7 <;> cases b8 <;> cases b9 <;> simp [MixS.rank]
      | 1 => cases b7 <;> cases b8 <;> cases b9 <;> simp [MixS.rank]
      | 2 => cases b7 <;> cases b8 <;> cases b9 <;> simp [MixS.rank]
    obtain ⟨hb4, hg4⟩ := hF.h4 rfl
    obtain ⟨hb5, hg5⟩ := hF.h5 rfl
    obtain ⟨hb6, hg6⟩ := hF.h6 rfl
    have n45 := hF.n45 rfl rfl
    have n46 := hF.n46 rfl rfl
    have n56 := hF.n56 rfl rfl
    have hk1 := hkd.trans hF.hk
    have hgl := hb.lt
    have hg4' : w.heap.size ≤ g4 := hg4
    have hg5' : w.heap.size ≤ g5 := hg5
    have hg6' : w.heap.size ≤ g6 := hg6
    have hbg := hb.keep0 hk1
    clear h0 hF hg4 hg5 hg6 hrk hrg hHeld
    change wpAnyH _ _ _ _ _ 3 _ (mixAct g a cap (.agg (wordV H).toArray) (ptr g4) (ptr g5) (ptr g6) (.agg (wordV WL).toArray) (.agg (wordV KL).toArray)) w1
    have hone4 := wordV_one WL
    have hone5 := wordV_one KL
    have hone6 := wordV_one H
    have l4 : (wordV WL).length = 64 := by rw [wordV_len, hWL]
    have l5 : (wordV KL).length = 64 := by rw [wordV_len, hKL]
    have l6 : (wordV H).length = 8 := by rw [wordV_len, hH]
    have lz : (wordV (wlUp [] 0)).length = 64 := by rw [wordV_len, wlUp_len [] 0 (by omega)]
    have lz8 : (wordV z8).length = 8 := rfl
    have hrk : ∀ {w' : World}, Blk w' g (wordV H ++ [r, n]) 95 → w'.rangeAt g 0 (wordV H) := fun hb' => hb'.rangeAt 0 (fun j v hv => by
      have hj : j < (wordV H).length := (List.getElem?_eq_some_iff.1 hv).1
      rw [Nat.zero_add, List.getElem?_append_left hj]; exact hv)
    refine onlyL (i := 10) rfl (by kernel_rfl) (fun K hK => ?_)
    refine step_store rfl 75 _ _ rfl g4 rfl (wordV WL) rfl hb4 (by rw [l4, lz]) (by rw [l4]; exact Tryd.infoW64) hone4 ?_
    intro w2 hb42 hk2 hs2
    have hbg2 := hbg.keep hk2 (fun e => by have : g = g4 := e; omega)
    have hb52 := hb5.keep hk2 (fun e => n45 (by have : g5 = g4 := e; exact this.symm))
    have hb62 := hb6.keep hk2 (fun e => n46 (by have : g6 = g4 := e; exact this.symm))
    refine (fun hHeld => hK _ _ hHeld ?_) (hrk hbg2)
    clear hK
    try simp only [Act.put, List.setIfInBounds_toArray, List.set_cons_zero, List.set_cons_succ]
    refine onlyL (i := 11) rfl (by kernel_rfl) (fun K hK => ?_)
    refine step_store rfl 75 _ _ rfl g5 rfl (wordV KL) rfl hb52 (by rw [l5, lz]) (by rw [l5]; exact Tryd.infoW64) hone5 ?_
    intro w3 hb53 hk3 hs3
    have hbg3 := hbg2.keep hk3 (fun e => by have : g = g5 := e; omega)
    have hb43 := hb42.keep hk3 (fun e => n45 e)
    have hb63 := hb62.keep hk3 (fun e => n56 (by have : g6 = g5 := e; exact this.symm))
    refine (fun hHeld => hK _ _ hHeld ?_) (hrk hbg3)
    clear hK
    try simp only [Act.put, List.setIfInBounds_toArray, List.set_cons_zero, List.set_cons_succ]
    refine onlyL (i := 12) rfl (by kernel_rfl) (fun K hK => ?_)
    refine step_store rfl 69 _ _ rfl g6 rfl (wordV H) rfl hb63 (by rw [l6, lz8]) (by rw [l6]; exact Tryd.infoW8) hone6 ?_
    intro w4 hb64 hk4 hs4
    have hbg4 := hbg3.keep hk4 (fun e => by have : g = g6 := e; omega)
    have hb44 := hb43.keep hk4 (fun e => n46 e)
    have hb54 := hb53.keep hk4 (fun e => n56 e)
    refine (fun hHeld => hK _ _ hHeld ?_) (hrk hbg4)
    clear hK
    try simp only [Act.put, List.setIfInBounds_toArray, List.set_cons_zero, List.set_cons_succ]
    refine wpAnyH_done (by kernel_rfl) ?_ _
    have hK4 : Keeps Nil w w4 := ((hk1.step hk2 (fun i hi => .inr (by rw [show i = g4 from hi]; exact hg4'))).step hk3 (fun i hi => .inr (by rw [show i = g5 from hi]; exact hg5'))).step hk4 (fun i hi => .inr (by rw [show i = g6 from hi]; exact hg6'))
    clear hb4 hb5 hb6 hb42 hb52 hb62 hb43 hb53 hb63 hbg hbg2 hbg3 hk2 hk3 hk4 hs2 hs3 hs4 hrk hk1 lz lz8 hone4 hone5 hone6 hkd hU8
    have HL := Lib.hid (And.intro l4 (And.intro l5 l6))
    have HH := Lib.hid hH
    have HI := Lib.hid hI8
    clear l4 l5 l6 hH hI8
    go_wp2_with fail
    go_loopw [20] (fun v wr => ∃ j : Nat, j ≤ 64 ∧ v = .int .i64 j ∧ Blk wr g6 (wordV (rnd H WL KL j)) 69 ∧ Hid (Keeps (One g6) w4 wr)) (fun v _ => 64 - (intOf v).toNat)
    case atStart => exact ⟨0, by omega, rfl, hb64, Keeps.refl _ _⟩
    case round =>
      obtain ⟨j, hj, rfl, hB, hkr⟩ := hrel
      clear hb64
      by_cases hjl : j < 64
      · have hx4 := (hb44.keep hkr.out (fun e => n46 e)).cell j (wordV_at _ _ (by omega))
        have hx5 := (hb54.keep hkr.out (fun e => n56 e)).cell j (wordV_at _ _ (by omega))
        have hst := rnd_succ H WL KL j
        have hwS := rnd_isW H WL KL hHW j
        obtain ⟨s0, s1, s2, s3, s4, s5, s6, s7, hS⟩ := eight (rnd_len H WL KL HH.out j)
        rw [hS] at hB hst hwS
        have c0 := hB.cell 0 (v := .int .u32 s0) rfl
        have c1 := hB.cell 1 (v := .int .u32 s1) rfl
        have c2 := hB.cell 2 (v := .int .u32 s2) rfl
        have c3 := hB.cell 3 (v := .int .u32 s3) rfl
        have c4 := hB.cell 4 (v := .int .u32 s4) rfl
        have c5 := hB.cell 5 (v := .int .u32 s5) rfl
        have c6 := hB.cell 6 (v := .int .u32 s6) rfl
        have c7 := hB.cell 7 (v := .int .u32 s7) rfl
        have w0 : IsW s0 := hwS s0 (by simp)
        have w4' : IsW s4 := hwS s4 (by simp)
        generalize WL.getD j 0 = x at *
        generalize KL.getD j 0 = k at *
        have HST := Lib.hid hst
        clear hst hwS hS hb44 hb54
        have hj0 : (0 : Int) ≤ j := by omega
        have hj1 : (j : Int) < 64 := by omega
        go_wp2_with fail
        go_quiet (fail)
        have hcq : ∀ ad, (wr.drewN nq).cell? ad = wr.cell? ad := fun _ => rfl
        rw [← hcq] at c0 c1 c2 c3 c4 c5 c6 c7 hx4 hx5
        have hbka := hB.drewN nq
        have ka := Lib.hid (hkr.out.drewN nq)
        clear hcq
        generalize wr.drewN nq = wa at *
        go_wp2_with fail
        go_quiet ((go_at_call 52; exact Calls.quiet_of_same (right_int _ _ _ w4' (by decide) (by decide))))
        have hcq : ∀ ad, (wa.drewN nq).cell? ad = wa.cell? ad := fun _ => rfl
        rw [← hcq] at c0 c1 c2 c3 c4 c5 c6 c7 hx4 hx5
        have hbkb := hbka.drewN nq
        have kb := Lib.hid (ka.out.drewN nq)
        clear hcq
        generalize wa.drewN nq = wb at *
        go_wp2_with fail
        go_quiet ((go_at_call 52; exact Calls.quiet_of_same (right_int _ _ _ w0 (by decide) (by decide))))
        have hcq : ∀ ad, (wb.drewN nq).cell? ad = wb.cell? ad := fun _ => rfl
        rw [← hcq] at c0 c1 c2 c3 c4 c5 c6 c7 hx4 hx5
        have hbkc := hbkb.drewN nq
        have kc := Lib.hid (kb.out.drewN nq)
        clear hcq
        generalize wb.drewN nq = wc at *
        have h1 : (s7 + bits .xor .u32 (bits .xor .u32 (rotr s4 6) (rotr s4 11)) (rotr s4 25) + bits .xor .u32 (bits .and .u32 s4 s5) (bits .and .u32 (bits .xor .u32 IntKind.u32.max s4) s6) + k + x) % 4294967296 = oneW [s0, s1, s2, s3, s4, s5, s6, s7] k x := rfl
        have h2 : (bits .xor .u32 (bits .xor .u32 (rotr s0 2) (rotr s0 13)) (rotr s0 22) + bits .xor .u32 (bits .xor .u32 (bits .and .u32 s0 s1) (bits .and .u32 s0 s2)) (bits .and .u32 s1 s2)) % 4294967296 = twoW [s0, s1, s2, s3, s4, s5, s6, s7] := rfl
        rw [h1, h2]
        clear h1 h2
        have hst := HST.out
        have hst2 : stepS [s0, s1, s2, s3, s4, s5, s6, s7] k x = [(oneW [s0, s1, s2, s3, s4, s5, s6, s7] k x + twoW [s0, s1, s2, s3, s4, s5, s6, s7]) % 4294967296, s0, s1, s2, (s3 + oneW [s0, s1, s2, s3, s4, s5, s6, s7] k x) % 4294967296, s4, s5, s6] := rfl
        rw [hst2] at hst
        clear HST hst2
        generalize oneW [s0, s1, s2, s3, s4, s5, s6, s7] k x = one at *
        generalize twoW [s0, s1, s2, s3, s4, s5, s6, s7] = two at *
        have HST := Lib.hid hst
        clear hst
        have hb8 := Tryd.built8 ((one + two) % 4294967296) s0 s1 s2 ((s3 + one) % 4294967296) s4 s5 s6
        have HB8 := Lib.hid hb8
        clear hb8
        go_wp2_with (first | (refine wpl_build rfl 69 _ rfl (wordV [(one + two) % 4294967296, s0, s1, s2, (s3 + one) % 4294967296, s4, s5, s6]) _ HB8.out (by simp [Act.eval]) ?_) | (refine wpl_store rfl 69 _ _ rfl g6 rfl (wordV [(one + two) % 4294967296, s0, s1, s2, (s3 + one) % 4294967296, s4, s5, s6]) rfl hbkc rfl Tryd.infoW8 (wordV_one _) ?_))
        intro wd hbd hkd2 hsd
        rw [← HST.out] at hbd
        have hkn : Keeps (One g6) w4 wd := kc.out.step hkd2 (fun i hi => .inl hi)
        clear HST HB8 hkd2 kc
        go_wp2_with fail
        go_roundw
        case rel => first | exact ⟨j + 1, by omega, by go_num, hbd, hkn⟩ | ((repeat apply Exists.intro); exact ⟨⟨j + 1, by omega, by go_num, hbd, hkn⟩, rfl⟩)
        case measure => simp [intOf]; omega
      · obtain rfl : j = 64 := by omega
        have hk64 := hkr.out
        have hS8 := rnd_len H WL KL HH.out 64
        generalize rnd H WL KL 64 = S at *
        have hbg6 := hbg4.keep hk64 (fun e => by have : g = g6 := e; omega)
        have HK := Lib.hid hk64
        have HS8 := Lib.hid hS8
        have hz0 := addUp_zero H S HH.out
        have hbz : Blk wr g (wordV (addUp H S 0) ++ [r, n]) 95 := by rw [hz0]; exact hbg6
        clear hk64 hkr hbg4 hb44 hb54 hbg6 hz0 hS8
        go_wp2_with fail
        go_loopw [102] (fun v wq => ∃ j : Nat, j ≤ 8 ∧ v = .int .i64 j ∧ Blk wq g (wordV (addUp H S j) ++ [r, n]) 95 ∧ Hid (Keeps (One g) wr wq)) (fun v _ => 8 - (intOf v).toNat)
        case atStart => exact ⟨0, by omega, rfl, hbz, Keeps.refl _ _⟩
        case round =>
          obtain ⟨j, hj8, rfl, hBg, hkr⟩ := hrel
          clear hbz
          have hla : (wordV (addUp H S j)).length = 8 := by rw [wordV_len, addUp_len]
          have hne : g ≠ g6 := by omega
          by_cases hj2 : j < 8
          · have hx := hBg.cell j (v := .int .u32 (H.getD j 0)) (by rw [List.getElem?_append_left (by omega), wordV_at _ _ (by rw [addUp_len]; omega), addUp_getD H S j hj2])
            have hzx := hBg.frozen j
            have hy := (hB.keep hkr.out (fun e => hne (by have : g6 = g := e; exact this.symm))).cell j (wordV_at _ _ (by have := HS8.out; omega))
            have hs := addUp_succ H S j hj2
            generalize H.getD j 0 = hh at *
            generalize S.getD j 0 = ss at *
            have HS := Lib.hid hs
            have HLA := Lib.hid hla
            clear hs hB hla
            have hj0 : (0 : Int) ≤ j := by omega
            have hj1 : (j : Int) < 8 := by omega
            go_wp2_with fail
            go_still_tail 13, (by kernel_rfl)
            change wpList _ _ _ _ _ wr.drew
            go_wp2_with fail
            have hnew := hBg.drew.set j (.int .u32 ((hh + ss) % 4294967296))
            rw [List.set_append_left _ _ (by have := HLA.out; omega), ← wordV_set, HS.out] at hnew
            have hkn := hkr.out.drew.setOne j (.int .u32 ((hh + ss) % 4294967296))
            go_roundw
            case rel => first | exact ⟨j + 1, by omega, by go_num, hnew, hkn⟩ | ((repeat apply Exists.intro); exact ⟨⟨j + 1, by omega, by go_num, hnew, hkn⟩, rfl⟩)
            case measure => simp [intOf]; omega
          · obtain rfl : j = 8 := by omega
            have hKf := ((hK4.step HK.out (fun i hi => .inr (by rw [show i = g6 from hi]; exact hg6'))).nil (S := One g)).step hkr.out (fun i hi => .inl hi)
            clear hB hkr HK hK4 hla
            generalize addUp H S 8 = R at *
            go_wp2_with fail
            go_end0
            exact ⟨rfl, hBg, hKf⟩

/-- A block is taken in. -/
theorem mix_walk {w : World} {g : Nat} {a : Option Addr} {cap : Nat} {l H : List Int} {r n : Value} (hrow : Row .u8 w a 64 l) (hcap : 64 ≤ cap) (hb : Blk w g (wordV H ++ [r, n]) 95) (hH : H.length = 8) (hHW : ∀ x ∈ H, IsW x) :
    Calls Tryd.prog 49 #[.pointer (some ⟨g, 0, none⟩), .slice a 64 cap] w (MixPost g (shaBlock H l) r n w) :=
  mix_core hcap hb hH hHW (wl_len l 64) shaK_len (fun w' hk => words_walk (hrow.keep hk) hcap) (fun w' => kround_walk w')
end Go.Proofs.YtmbdldnldcgdjaaDoor
