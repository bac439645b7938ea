/-
  The plain law of a map of bits: bits in bytes, what comes next, how many in a row. No program in sight.
-/
import Derived.Test.YtokminiendnhoaaDoorLib
namespace Go.Proofs.YtokminiendnhoaaDoor
open Go.RowKit

/-- Bit i of the bytes. -/
def hasB (bs : List Int) (i : Nat) : Bool := bs.getD (i / 8) 0 / 2 ^ (i % 8) % 2 == 1
/-- Piece i of a map of n. -/
def hasI (n : Nat) (bs : List Int) (i : Int) : Bool := decide (0 ≤ i) && (decide (i < n) && hasB bs i.toNat)
/-- The bytes with bit i. -/
def setB (bs : List Int) (i : Nat) : List Int := bs.set (i / 8) (bits .or .u8 (bs.getD (i / 8) 0) (2 ^ (i % 8) % 256))
/-- How many bytes. -/
def bytesOf (n : Nat) : Nat := (n + 7) / 8

/-- Where a walk round the map from 'from' on stands after k steps. -/
def placeOf (n : Nat) (f : Int) (k : Nat) : Int := ((if f < 0 then 0 else f) % n + k) % n
/-- The first of the places that has no piece; -1: none. -/
def nextI (n : Nat) (bs : List Int) (f : Int) : Int := match (List.range n).find? (fun k => !hasI n bs (placeOf n f k)) with
  | some k => placeOf n f k
  | none => -1
theorem nextI_found {n : Nat} {bs : List Int} {f : Int} {k : Nat} (hk : k < n) (hall : ∀ j, j < k → hasI n bs (placeOf n f j) = true) (hno : hasI n bs (placeOf n f k) = false) :
    nextI n bs f = placeOf n f k := by
  have : (List.range n).find? (fun k => !hasI n bs (placeOf n f k)) = some k := by
    rw [List.find?_range_eq_some]
    exact ⟨by simp [hno], by simpa using hk, fun j hj => by simp [hall j hj]⟩
  simp [nextI, this]
theorem nextI_none {n : Nat} {bs : List Int} {f : Int} (hall : ∀ j, j < n → hasI n bs (placeOf n f j) = true) : nextI n bs f = -1 := by
  have : (List.range n).find? (fun k => !hasI n bs (placeOf n f k)) = none := by
    simp only [List.find?_eq_none, List.mem_range]
    intro k hk
    simp [hall k hk]
  simp [nextI, this]
theorem placeOf_rng (n : Nat) (f : Int) (k : Nat) (hn : 0 < n) : 0 ≤ placeOf n f k ∧ placeOf n f k < n :=
  ⟨Int.emod_nonneg _ (by omega), Int.emod_lt_of_pos _ (by omega)⟩
theorem placeOf_eq (n : Nat) (f : Int) (k : Nat) (hn : 0 < n) (hk : n + k ≤ 1000000) : (wrap64 ((if f < 0 then 0 else f) % n + k)).tmod n = placeOf n f k := by
  have h1 : 0 ≤ (if f < 0 then 0 else f) % (n : Int) := Int.emod_nonneg _ (by omega)
  have h2 : (if f < 0 then 0 else f) % (n : Int) < n := Int.emod_lt_of_pos _ (by omega)
  unfold placeOf
  generalize (if f < 0 then 0 else f) % (n : Int) = x at *
  rw [show wrap64 (x + k) = x + k from by unfold wrap64; omega, Int.tmod_eq_emod_of_nonneg (by omega)]
/-- How many pieces are there in a row from the first on. -/
def frontI (n : Nat) (bs : List Int) : Nat := ((List.range n).find? (fun (k : Nat) => !hasI n bs (k : Int))).getD n
theorem frontI_eq {n : Nat} {bs : List Int} {k : Nat} (hk : k ≤ n) (hall : ∀ j : Nat, j < k → hasI n bs j = true) (hno : hasI n bs k = false) : frontI n bs = k := by
  unfold frontI
  by_cases e : k = n
  · subst e
    have : (List.range k).find? (fun (k' : Nat) => !hasI k bs (k' : Int)) = none := by
      simp only [List.find?_eq_none, List.mem_range]
      intro j hj
      simp [hall j hj]
    simp [this]
  · have : (List.range n).find? (fun (k : Nat) => !hasI n bs (k : Int)) = some k := by
      rw [List.find?_range_eq_some]
      exact ⟨by simp [hno], by simp; omega, fun j hj => by simp [hall j hj]⟩
    simp [this]


/-- How many pieces there are. -/
def countI (n : Nat) (bs : List Int) : Nat := (List.range n).countP fun (i : Nat) => hasI n bs (i : Int)

theorem bit_or (x i j : Nat) (hx : x < 256) (hi : i < 8) : (bits .or .u8 (x : Int) ((2 : Int) ^ i % 256) / 2 ^ j % 2 == 1) = (decide (j = i) || (x : Int) / 2 ^ j % 2 == 1) := by
  have hlt : (2 : Nat) ^ i < 256 := by
    have := Nat.pow_lt_pow_right (a := 2) (by omega) hi
    simpa using this
  have hp : (2 : Int) ^ i % 256 = ((2 ^ i : Nat) : Int) := by
    have h2 : (2 : Int) ^ i = ((2 ^ i : Nat) : Int) := by simp
    rw [h2]
    exact Int.emod_eq_of_lt (Int.natCast_nonneg _) (Int.ofNat_lt.2 hlt)
  rw [hp, u8_or_nat x (2 ^ i) hx hlt]
  have hd : ∀ y : Nat, ((y : Int) / 2 ^ j % 2 == 1) = y.testBit j := by
    intro y
    have h2 : (2 : Int) ^ j = ((2 ^ j : Nat) : Int) := by simp
    rw [Nat.testBit_eq_decide_div_mod_eq, h2]
    generalize 2 ^ j = p
    have : ((y : Int) / (p : Int) % 2) = ((y / p % 2 : Nat) : Int) := by simp
    rw [this]
    rcases Nat.mod_two_eq_zero_or_one (y / p) with h | h <;> simp [h]
  rw [hd, hd, Nat.testBit_or, Nat.testBit_two_pow]
  by_cases e : j = i
  · simp [e]
  · have e2 : ¬ i = j := fun h => e h.symm
    simp [e, e2]

theorem hasB_set (bs : List Int) (i j : Nat) (hi : i / 8 < bs.length) (hw : ∀ x ∈ bs, 0 ≤ x ∧ x < 256) : hasB (setB bs i) j = (decide (j = i) || hasB bs j) := by
  unfold hasB setB
  by_cases e : j / 8 = i / 8
  · have hm := hw (bs.getD (i / 8) 0) (by simp [List.getD, hi])
    obtain ⟨x, hx⟩ := Int.eq_ofNat_of_zero_le hm.1
    have hs : (bs.set (i / 8) (bits .or .u8 (bs.getD (i / 8) 0) (2 ^ (i % 8) % 256))).getD (j / 8) 0 = bits .or .u8 (x : Int) (2 ^ (i % 8) % 256) := by
      rw [e, hx]
      simp [List.getD, hi]
    rw [hs, bit_or x (i % 8) (j % 8) (by omega) (by omega), e, hx]
    congr 1
    rw [decide_eq_decide]
    omega
  · have hs : (bs.set (i / 8) (bits .or .u8 (bs.getD (i / 8) 0) (2 ^ (i % 8) % 256))).getD (j / 8) 0 = bs.getD (j / 8) 0 := by
      simp [List.getD, List.getElem?_set, show ¬ i / 8 = j / 8 from fun h => e h.symm]
    rw [hs]
    have : ¬ j = i := fun h => e (by rw [h])
    simp [this]

theorem hasI_set {n : Nat} {bs : List Int} {i : Nat} (hi : i / 8 < bs.length) (hw : ∀ x ∈ bs, 0 ≤ x ∧ x < 256) (hin : i < n) (j : Nat) :
    hasI n (setB bs i) j = (decide (j = i) || hasI n bs j) := by
  unfold hasI
  rw [Int.toNat_natCast, hasB_set bs i j hi hw]
  by_cases e : j = i
  · subst e; simp [hin]
  · simp [e]
theorem countI_set {n : Nat} {bs : List Int} {i : Nat} (hi : i / 8 < bs.length) (hw : ∀ x ∈ bs, 0 ≤ x ∧ x < 256) (hin : i < n) (hno : hasI n bs i = false) :
    countI n (setB bs i) = countI n bs + 1 := by
  unfold countI
  have key : ∀ m, m ≤ n → (List.range m).countP (fun (j : Nat) => hasI n (setB bs i) (j : Int)) = (List.range m).countP (fun (j : Nat) => hasI n bs (j : Int)) + if i < m then 1 else 0 := by
    intro m
    induction m with
    | zero => simp
    | succ m ih =>
      intro hm
      rw [List.range_succ, List.countP_append, List.countP_append, ih (by omega)]
      simp only [List.countP_cons, List.countP_nil, hasI_set hi hw hin]
      by_cases e : m = i
      · subst e; simp [hno]
      · by_cases h1 : i < m
        · simp [e, h1, show i < m + 1 by omega]; omega
        · simp [e, h1, show ¬ i < m + 1 by omega]
  have := key n (Nat.le_refl _)
  rw [if_pos hin] at this
  exact this
theorem countI_le (n : Nat) (bs : List Int) : countI n bs ≤ n := by
  have := List.countP_le_length (p := fun (i : Nat) => hasI n bs (i : Int)) (l := List.range n)
  simpa [countI] using this
theorem countI_all {n : Nat} {bs : List Int} (h : countI n bs = n) : ∀ j, j < n → hasI n bs (j : Nat) = true := by
  have : (List.range n).countP (fun (i : Nat) => hasI n bs (i : Int)) = (List.range n).length := by simpa [countI] using h
  rw [List.countP_eq_length] at this
  intro j hj
  exact this j (by simpa using hj)
theorem countI_some {n : Nat} {bs : List Int} (h : countI n bs < n) : ∃ j, j < n ∧ hasI n bs (j : Nat) = false := by
  rcases Classical.em (∃ j, j < n ∧ hasI n bs (j : Nat) = false) with h' | h'
  · exact h'
  · exfalso
    have hall : (List.range n).countP (fun (i : Nat) => hasI n bs (i : Int)) = (List.range n).length := by
      rw [List.countP_eq_length]
      intro j hj
      cases hh : hasI n bs (j : Int)
      · exact (h' ⟨j, by simpa using hj, hh⟩).elim
      · rfl
    simp at hall
    unfold countI at h
    omega
theorem countI_zero (n m : Nat) : countI n (List.replicate m 0) = 0 := by
  unfold countI
  rw [List.countP_eq_zero]
  intro j _
  simp [hasI, hasB, List.getD, List.getElem?_replicate]
  intro _
  split <;> simp
theorem frontI_le (n : Nat) (bs : List Int) : frontI n bs ≤ countI n bs := by
  have key : ∀ m, m ≤ n → (∀ j : Nat, j < m → hasI n bs j = true) → m ≤ (List.range n).countP (fun (i : Nat) => hasI n bs (i : Int)) := by
    intro m hm hall
    have h1 : (List.range m).countP (fun (i : Nat) => hasI n bs (i : Int)) = m := by
      have : (List.range m).countP (fun (i : Nat) => hasI n bs (i : Int)) = (List.range m).length := by
        rw [List.countP_eq_length]
        intro j hj
        exact hall j (by simpa using hj)
      simpa using this
    have h2 : (List.range m).Sublist (List.range n) := List.range_sublist.2 hm
    have := h2.countP_le (p := fun (i : Nat) => hasI n bs (i : Int))
    omega
  unfold frontI countI
  cases hf : (List.range n).find? (fun (k : Nat) => !hasI n bs (k : Int)) with
  | none =>
    simp only [List.find?_eq_none, List.mem_range] at hf
    exact key n (Nat.le_refl _) (fun j hj => by have := hf j hj; simpa using this)
  | some k =>
    rw [List.find?_range_eq_some] at hf
    exact key k (by have := hf.2.1; simp at this; omega) (fun j hj => by have := hf.2.2 j hj; simpa using this)
theorem frontI_all {n : Nat} {bs : List Int} (h : countI n bs = n) : frontI n bs = n := by
  refine frontI_eq (Nat.le_refl _) (countI_all h) ?_
  simp [hasI]
theorem placeOf_onto (n : Nat) (f : Int) (p : Nat) (hp : p < n) : ∃ k, k < n ∧ placeOf n f k = p := by
  have h1 : 0 ≤ (if f < 0 then 0 else f) % (n : Int) := Int.emod_nonneg _ (by omega)
  have h2 : (if f < 0 then 0 else f) % (n : Int) < n := Int.emod_lt_of_pos _ (by omega)
  unfold placeOf
  generalize (if f < 0 then 0 else f) % (n : Int) = x at *
  by_cases hc : x ≤ p
  · refine ⟨(p - x).toNat, by omega, ?_⟩
    rw [show x + (((p : Int) - x).toNat : Int) = p from by omega]
    exact Int.emod_eq_of_lt (by omega) (by omega)
  · refine ⟨(p + n - x).toNat, by omega, ?_⟩
    rw [show x + (((p : Int) + n - x).toNat : Int) = p + n from by omega]
    rw [Int.add_emod_right]
    exact Int.emod_eq_of_lt (by omega) (by omega)
/-- What comes next where one is missing: a place that has none; all from where it was asked up to it are there. -/
theorem nextI_some {n : Nat} {bs : List Int} (h : countI n bs < n) (f : Int) : ∃ k, k < n ∧ nextI n bs f = placeOf n f k ∧ hasI n bs (placeOf n f k) = false ∧ ∀ j, j < k → hasI n bs (placeOf n f j) = true := by
  obtain ⟨p, hp, hno⟩ := countI_some h
  obtain ⟨t, ht, hpt⟩ := placeOf_onto n f p hp
  cases hf : (List.range n).find? (fun k => !hasI n bs (placeOf n f k)) with
  | none =>
    simp only [List.find?_eq_none, List.mem_range] at hf
    have := hf t ht
    rw [hpt, hno] at this
    simp at this
  | some k =>
    have hf' := hf
    rw [List.find?_range_eq_some] at hf
    refine ⟨k, by have := hf.2.1; simpa using this, by simp [nextI, hf'], by have := hf.1; simpa using this, fun j hj => by have := hf.2.2 j hj; simpa using this⟩
theorem nextI_all {n : Nat} {bs : List Int} (h : countI n bs = n) (f : Int) : nextI n bs f = -1 := by
  refine nextI_none fun j hj => ?_
  have hr := placeOf_rng n f j (by omega)
  have := countI_all h (placeOf n f j).toNat (by omega)
  rwa [Int.toNat_of_nonneg hr.1] at this
theorem nextI_neg {n : Nat} {bs : List Int} {f : Int} (h : f ≤ 0) : nextI n bs f = nextI n bs 0 := by
  have : ∀ k, placeOf n f k = placeOf n 0 k := by
    intro k
    unfold placeOf
    by_cases h0 : f < 0
    · rw [if_pos h0, if_neg (by omega)]
    · rw [show f = 0 by omega]
  unfold nextI
  simp only [this]
theorem placeOf_zero {n k : Nat} (h : k < n) : placeOf n 0 k = k := by
  unfold placeOf
  simp
  exact Int.emod_eq_of_lt (by omega) (by omega)
theorem nextI_front {n : Nat} {bs : List Int} (h : countI n bs < n) : nextI n bs 0 = frontI n bs := by
  obtain ⟨k, hk, h1, h2, h3⟩ := nextI_some h 0
  rw [placeOf_zero hk] at h1 h2
  rw [h1, frontI_eq (Nat.le_of_lt hk) (fun j hj => by have := h3 j hj; rwa [placeOf_zero (by omega)] at this) h2]
theorem placeOf_first {n : Nat} {f : Int} (h : 0 ≤ f) : placeOf n f 0 = f % n := by
  unfold placeOf
  rw [if_neg (by omega)]
  simp
theorem placeOf_next (n : Nat) (f : Int) (j : Nat) : (placeOf n f j + 1) % n = placeOf n f (j + 1) := by
  unfold placeOf
  rw [Int.emod_add_emod]
  congr 1
  push_cast
  omega
theorem placeOf_dist {n : Nat} {f : Int} {s t : Nat} (hst : s ≤ t) (ht : t < n) : (placeOf n f t - placeOf n f s) % n = (t - s : Nat) := by
  unfold placeOf
  rw [← Int.sub_emod]
  have : ∀ x : Int, x + (t : Int) - (x + (s : Int)) = ((t - s : Nat) : Int) := by intro x; omega
  rw [this]
  exact Int.emod_eq_of_lt (by omega) (by omega)

/-- Each is a byte. -/
def Wf (bs : List Int) : Prop := ∀ x ∈ bs, 0 ≤ x ∧ x < 256
theorem setB_wf {bs : List Int} (i : Nat) (hw : ∀ x ∈ bs, 0 ≤ x ∧ x < 256) : (setB bs i).length = bs.length ∧ ∀ x ∈ setB bs i, 0 ≤ x ∧ x < 256 := by
  refine ⟨by simp [setB], fun x hx => ?_⟩
  unfold setB at hx
  rcases List.mem_or_eq_of_mem_set hx with hx | hx
  · exact hw x hx
  · have hr : 0 ≤ bs.getD (i / 8) 0 ∧ bs.getD (i / 8) 0 < 256 := by
      by_cases hi : i / 8 < bs.length
      · exact hw _ (by simp [List.getD, hi])
      · simp [List.getD, hi]
    have hp1 : (0 : Int) ≤ 2 ^ (i % 8) % 256 := Int.emod_nonneg _ (by omega)
    have hp2 : (2 : Int) ^ (i % 8) % 256 < 256 := Int.emod_lt_of_pos _ (by omega)
    rw [hx, u8_or _ _ hr.1 hr.2 hp1 hp2]
    have := Nat.or_lt_two_pow (n := 8) (x := (bs.getD (i / 8) 0).toNat) (y := ((2 : Int) ^ (i % 8) % 256).toNat) (by omega) (by omega)
    omega
/-- No bit stands behind the n-th. -/
def Clean (n : Nat) (bs : List Int) : Prop := ∀ i, n ≤ i → hasB bs i = false
theorem hasB_zero (m i : Nat) : hasB (List.replicate m 0) i = false := by
  simp [hasB, List.getD, List.getElem?_replicate]
  split <;> simp
theorem Clean.zero (n m : Nat) : Clean n (List.replicate m 0) := fun i _ => hasB_zero m i
theorem Clean.set {n : Nat} {bs : List Int} {i : Nat} (h : Clean n bs) (hi : i / 8 < bs.length) (hw : ∀ x ∈ bs, 0 ≤ x ∧ x < 256) (hin : i < n) : Clean n (setB bs i) := fun j hj => by
  rw [hasB_set bs i j hi hw, h j hj]
  simp; omega
theorem hasB_test (x j : Nat) : ((x : Int) / 2 ^ j % 2 == 1) = x.testBit j := by
  have h2 : (2 : Int) ^ j = ((2 ^ j : Nat) : Int) := by simp
  rw [Nat.testBit_eq_decide_div_mod_eq, h2]
  generalize 2 ^ j = p
  have : ((x : Int) / (p : Int) % 2) = ((x / p % 2 : Nat) : Int) := by simp
  rw [this]
  rcases Nat.mod_two_eq_zero_or_one (x / p) with h | h <;> simp [h]
theorem bytes_ext {a b : List Int} (hl : a.length = b.length) (ha : ∀ x ∈ a, 0 ≤ x ∧ x < 256) (hb : ∀ x ∈ b, 0 ≤ x ∧ x < 256) (h : ∀ i, i < 8 * a.length → hasB a i = hasB b i) : a = b := by
  apply List.ext_getElem hl
  intro k h1 h2
  have ra := ha a[k] (by simp)
  have rb := hb b[k] (by simp)
  obtain ⟨x, hx⟩ := Int.eq_ofNat_of_zero_le ra.1
  obtain ⟨y, hy⟩ := Int.eq_ofNat_of_zero_le rb.1
  have : x = y := by
    apply Nat.eq_of_testBit_eq
    intro j
    by_cases hj : j < 8
    · have := h (8 * k + j) (by omega)
      unfold hasB at this
      rw [show (8 * k + j) / 8 = k by omega, show (8 * k + j) % 8 = j by omega] at this
      simp only [List.getD, List.getElem?_eq_getElem h1, List.getElem?_eq_getElem h2, Option.getD_some, hx, hy, hasB_test] at this
      exact this
    · rw [Nat.testBit_lt_two_pow (i := j), Nat.testBit_lt_two_pow (i := j)]
      · exact Nat.lt_of_lt_of_le (show y < 2 ^ 8 by omega) (Nat.pow_le_pow_right (by omega) (by omega))
      · exact Nat.lt_of_lt_of_le (show x < 2 ^ 8 by omega) (Nat.pow_le_pow_right (by omega) (by omega))
  rw [hx, hy, this]
/-- The bytes of the first j pieces. -/
def packTo (n : Nat) (bs : List Int) : Nat → List Int
  | 0 => List.replicate (bytesOf n) 0
  | j + 1 => if hasI n bs (j : Int) then setB (packTo n bs j) j else packTo n bs j
theorem packTo_fits (n : Nat) (bs : List Int) (j : Nat) : (packTo n bs j).length = bytesOf n ∧ ∀ x ∈ packTo n bs j, 0 ≤ x ∧ x < 256 := by
  induction j with
  | zero => exact ⟨by simp [packTo], fun x hx => by obtain ⟨_, rfl⟩ := List.mem_replicate.1 hx; omega⟩
  | succ j ih =>
    unfold packTo
    split
    · have := setB_wf j ih.2
      exact ⟨by rw [this.1]; exact ih.1, this.2⟩
    · exact ih
theorem packTo_has (n : Nat) (bs : List Int) (j : Nat) (hj : j ≤ n) (i : Nat) : hasB (packTo n bs j) i = (decide (i < j) && hasI n bs (i : Int)) := by
  induction j with
  | zero => simp [packTo, hasB_zero]
  | succ j ih =>
    have ih := ih (by omega)
    have hf := packTo_fits n bs j
    have hb : j / 8 < (packTo n bs j).length := by rw [hf.1]; unfold bytesOf; omega
    unfold packTo
    by_cases hh : hasI n bs (j : Int) = true
    · rw [if_pos hh, hasB_set _ j i hb hf.2, ih]
      by_cases e : i = j
      · subst e; simp [hh]
      · by_cases h1 : i < j
        · simp [e, h1, show i < j + 1 by omega]
        · simp [e, h1, show ¬ i < j + 1 by omega]
    · rw [if_neg hh, ih]
      by_cases e : i = j
      · subst e; simp at hh; simp [hh]
      · by_cases h1 : i < j
        · simp [h1, show i < j + 1 by omega]
        · simp [h1, show ¬ i < j + 1 by omega]
theorem pack_all {n : Nat} {bs : List Int} (hl : bs.length = bytesOf n) (hw : ∀ x ∈ bs, 0 ≤ x ∧ x < 256) (hc : Clean n bs) : packTo n bs n = bs := by
  have hf := packTo_fits n bs n
  refine bytes_ext (by rw [hf.1, hl]) hf.2 hw (fun i _ => ?_)
  rw [packTo_has n bs n (Nat.le_refl _) i]
  by_cases h : i < n
  · simp [h, hasI]
  · simp [h, hc i (by omega)]
/-- Whether no bit stands behind the n-th is told by the last byte. -/
theorem clean_iff {n : Nat} {bs : List Int} (hl : bs.length = bytesOf n) (hw : ∀ x ∈ bs, 0 ≤ x ∧ x < 256) : Clean n bs ↔ (n % 8 = 0 ∨ bs.getD (bs.length - 1) 0 / 2 ^ (n % 8) = 0) := by
  unfold bytesOf at hl
  by_cases h0 : n % 8 = 0
  · refine ⟨fun _ => .inl h0, fun _ i hi => ?_⟩
    unfold hasB
    simp [List.getD, show ¬ i / 8 < bs.length by omega]
  · have hlast : bs.length - 1 = n / 8 := by omega
    have hr : 0 ≤ bs.getD (n / 8) 0 ∧ bs.getD (n / 8) 0 < 256 := hw _ (by simp [List.getD, show n / 8 < bs.length by omega])
    obtain ⟨x, hx⟩ := Int.eq_ofNat_of_zero_le hr.1
    rw [hlast, hx]
    have hx256 : x < 2 ^ 8 := by omega
    have hdiv : ((x : Int) / 2 ^ (n % 8) = 0) ↔ x / 2 ^ (n % 8) = 0 := by
      have h2 : (2 : Int) ^ (n % 8) = ((2 ^ (n % 8) : Nat) : Int) := by simp
      rw [h2]
      generalize 2 ^ (n % 8) = p
      rw [show ((x : Int) / (p : Int)) = ((x / p : Nat) : Int) by simp]
      omega
    rw [hdiv]
    constructor
    · intro hc
      right
      refine Nat.eq_of_testBit_eq fun j => ?_
      rw [Nat.zero_testBit, Nat.testBit_div_two_pow]
      by_cases hj : n % 8 + j < 8
      · have := hc (8 * (n / 8) + (n % 8 + j)) (by omega)
        unfold hasB at this
        rw [show (8 * (n / 8) + (n % 8 + j)) / 8 = n / 8 by omega, show (8 * (n / 8) + (n % 8 + j)) % 8 = n % 8 + j by omega, hx, hasB_test] at this
        rw [← this]
        congr 1
        omega
      · exact Nat.testBit_lt_two_pow (Nat.lt_of_lt_of_le hx256 (Nat.pow_le_pow_right (by omega) (by omega)))
    · intro h i hi
      rcases h with h | h
      · exact (h0 h).elim
      · unfold hasB
        by_cases hb : i / 8 = n / 8
        · rw [hb, hx, hasB_test]
          have : x < 2 ^ (n % 8) := by
            rcases Nat.lt_or_ge x (2 ^ (n % 8)) with h' | h'
            · exact h'
            · have := Nat.div_pos h' (Nat.two_pow_pos _)
              omega
          exact Nat.testBit_lt_two_pow (Nat.lt_of_lt_of_le this (Nat.pow_le_pow_right (by omega) (by omega)))
        · simp [List.getD, show ¬ i / 8 < bs.length by omega]
end Go.Proofs.YtokminiendnhoaaDoor
