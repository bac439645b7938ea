/-
  Slots: what writes and a sync leave, by power.
-/
import Derived.Test.YtkefbgkdkmkghaaDoorSlotsSave
namespace Go.Proofs.YtkefbgkdkmkghaaDoor
set_option linter.unusedSimpArgs false
set_option linter.unusedVariables false
open Go.RowKit

/-- There is power for k more. -/
def okN (l : Int) (k : Nat) : Prop := l < 0 ∨ (k : Int) ≤ l
instance (l : Int) (k : Nat) : Decidable (okN l k) := by unfold okN; exact inferInstance
/-- What is left behind k. -/
def decN (l : Int) (k : Nat) : Int := if l < 0 then l else l - k
theorem decN_add (l : Int) (a b : Nat) (h : okN l a) : decN (decN l a) b = decN l (a + b) := by unfold okN at h; unfold decN; split <;> (try split) <;> omega
theorem okN_add {l : Int} {a b : Nat} (h : okN l a) : okN (decN l a) b ↔ okN l (a + b) := by unfold okN at *; unfold decN; split <;> omega
theorem decN_zero (l : Int) : decN l 0 = l := by unfold decN; split <;> omega
theorem write_pow {d : Dk} (ho : d.off = false) {i : Nat} (hi : i < d.vs.length) {b : List Int} (hb : b.length = 128) :
    (d.write i b).1.vs = (d.put i b).vs ∧ (okN d.left 1 → (d.write i b).2 = none ∧ (d.write i b).1.off = false ∧ (d.write i b).1.left = decN d.left 1) ∧ (¬ okN d.left 1 → (d.write i b).2 = some 0 ∧ (d.write i b).1.off = true) := by
  have e : d.write i b = ((d.put i b).goes, if (d.put i b).goes.off = true then some 0 else none) := by
    unfold Dk.write
    rw [ho, if_neg (by simp), if_neg (by omega)]
    simp only [Int.toNat_natCast]
  rw [e]
  refine ⟨rfl, fun h => ?_, fun h => ?_⟩
  all_goals
    unfold okN at h
    unfold Dk.goes Dk.put
    dsimp only
  · have h0 : ¬ d.left = 0 := by omega
    refine ⟨by simp [h0], by simp [h0], ?_⟩
    unfold decN
    split <;> split <;> omega
  · have h0 : d.left = 0 := by omega
    exact ⟨by simp [h0], by simp [h0]⟩
theorem sync_on {d : Dk} (ho : d.off = false) :
    (okN d.left 1 → d.sync.2 = none ∧ d.sync.1.vs = d.settle.vs ∧ d.sync.1.off = false ∧ d.sync.1.left = decN d.left 1) ∧ (¬ okN d.left 1 → d.sync.2 = some 0 ∧ d.sync.1.vs = d.vs ∧ d.sync.1.off = true) := by
  refine ⟨fun h => ?_, fun h => ?_⟩
  all_goals
    unfold okN at h
    unfold Dk.sync
    rw [ho, if_neg (by simp)]
  · have h0 : ¬ d.left = 0 := by omega
    have hg : d.goes.off = false := by simp [Dk.goes, h0]
    rw [hg, if_neg (by simp)]
    refine ⟨rfl, rfl, hg, ?_⟩
    show (if 0 < d.left then d.left - 1 else d.left) = _
    unfold decN
    split <;> split <;> omega
  · have h0 : d.left = 0 := by omega
    have hg : d.goes.off = true := by simp [Dk.goes, h0]
    rw [hg, if_pos rfl]
    exact ⟨rfl, rfl, hg⟩
/-- What a row of writes leaves. -/
structure Wrote (d d' : Dk) (f : Nat) (xs : List (List Int)) (o : Option Nat) : Prop where
  len : d'.vs.length = d.vs.length
  far : ∀ i, (i < f ∨ f + xs.length ≤ i) → d'.at_ i = d.at_ i
  near : ∀ j, j < xs.length → d'.at_ (f + j) = d.at_ (f + j) ∨ d'.at_ (f + j) = d.at_ (f + j) ++ [xs.getD j []]
  head : 0 < xs.length → d'.at_ f = d.at_ f ++ [xs.getD 0 []]
  on : okN d.left xs.length → o = none ∧ d'.off = false ∧ d'.left = decN d.left xs.length ∧ ∀ j, j < xs.length → d'.at_ (f + j) = d.at_ (f + j) ++ [xs.getD j []]
  off : ¬ okN d.left xs.length → o = some 0 ∧ d'.off = true
theorem write_at {d : Dk} (ho : d.off = false) {i : Nat} (hi : i < d.vs.length) {b : List Int} (hb : b.length = 128) (j : Nat) : (d.write i b).1.at_ j = if i = j then d.at_ i ++ [b] else d.at_ j := by
  have h := (write_pow ho hi hb).1
  have e : (d.write i b).1.at_ j = (d.put i b).at_ j := by unfold Dk.at_; rw [h]
  rw [e, put_at hi]
theorem writes_wrote : ∀ (xs : List (List Int)) {d : Dk} (f : Nat), d.off = false → f + xs.length ≤ d.vs.length → (∀ x ∈ xs, x.length = 128) → Wrote d (d.writes f xs).1 f xs (d.writes f xs).2
  | [], d, f, ho, hf, hx => ⟨rfl, fun _ _ => rfl, fun j hj => absurd hj (by simp), fun h => absurd h (by simp), fun _ => ⟨rfl, ho, (decN_zero _).symm, fun j hj => absurd hj (by simp)⟩, fun h => absurd (show okN d.left 0 by unfold okN; omega) h⟩
  | x :: r, d, f, ho, hf, hx => by
    rw [List.length_cons] at hf
    have hxl := hx x (List.mem_cons_self ..)
    have hw := write_pow (i := f) ho (by omega) hxl
    have hat := write_at (i := f) ho (by omega) hxl
    have hlen : (d.write f x).1.vs.length = d.vs.length := write_vs_len
    unfold Dk.writes
    by_cases hk : okN d.left 1
    · obtain ⟨h1, h2, h3⟩ := hw.2.1 hk
      rw [if_pos h1]
      have ih := writes_wrote r (d := (d.write f x).1) (f + 1) h2 (by rw [hlen]; omega) (fun y hy => hx y (List.mem_cons_of_mem _ hy))
      have hz : ((d.write f x).1.writes (f + 1) r).1.at_ f = d.at_ f ++ [x] := by rw [ih.far f (by omega), hat, if_pos rfl]
      refine ⟨ih.len.trans hlen, fun i hi => ?_, fun j hj => ?_, fun _ => hz, fun hq => ?_, fun hq => ?_⟩
      · rw [List.length_cons] at hi
        rw [ih.far i (by omega), hat, if_neg (by omega)]
      · cases j with
        | zero => exact .inr hz
        | succ j =>
          rw [List.length_cons] at hj
          have := ih.near j (by omega)
          rw [show f + 1 + j = f + (j + 1) by omega, hat, if_neg (by omega)] at this
          exact this
      · rw [List.length_cons] at hq
        have hq2 : okN (d.write f x).1.left r.length := by rw [h3]; exact (okN_add hk).2 (by rw [Nat.add_comm]; exact hq)
        obtain ⟨i1, i2, i3, i4⟩ := ih.on hq2
        refine ⟨i1, i2, by rw [i3, h3, decN_add _ _ _ hk, List.length_cons, Nat.add_comm], fun j hj => ?_⟩
        cases j with
        | zero => exact hz
        | succ j =>
          rw [List.length_cons] at hj
          have := i4 j (by omega)
          rw [show f + 1 + j = f + (j + 1) by omega, hat, if_neg (by omega)] at this
          exact this
      · rw [List.length_cons] at hq
        exact ih.off (fun hq2 => hq (by rw [h3] at hq2; rw [Nat.add_comm]; exact (okN_add hk).1 hq2))
    · obtain ⟨h1, h2⟩ := hw.2.2 hk
      rw [if_neg (by rw [h1]; simp)]
      have hz : (d.write f x).1.at_ f = d.at_ f ++ [x] := by rw [hat, if_pos rfl]
      refine ⟨hlen, fun i hi => ?_, fun j hj => ?_, fun _ => hz, fun hq => ?_, fun _ => ⟨h1, h2⟩⟩
      · rw [List.length_cons] at hi
        rw [hat, if_neg (by omega)]
      · cases j with
        | zero => exact .inr hz
        | succ j => exact .inl (by rw [hat, if_neg (by omega)])
      · exact absurd (show okN d.left 1 by unfold okN at hq ⊢; rw [List.length_cons] at hq; omega) hk
theorem settle_at {d : Dk} {i : Nat} (h : i < d.vs.length) : d.settle.at_ i = [lastV (d.at_ i)] := by
  unfold Dk.settle Dk.at_
  simp [List.getD, h]
/-- What puts leaves. -/
structure Puts (d d' : Dk) (f T : Nat) (ch : Nat → List Int) (o : Option Nat) : Prop where
  len : d'.vs.length = d.vs.length
  on : okN d.left (T + 1) → o = none ∧ d'.off = false ∧ d'.left = decN d.left (T + 1) ∧ ∀ i, i < d.vs.length → d'.at_ i = [if f ≤ i ∧ i < f + T then ch (i - f) else lastV (d.at_ i)]
  off : ¬ okN d.left (T + 1) → o = some 0 ∧ d'.off = true ∧ (∀ i, (i < f ∨ f + T ≤ i) → d'.at_ i = d.at_ i) ∧ (∀ j, j < T → d'.at_ (f + j) = d.at_ (f + j) ∨ d'.at_ (f + j) = d.at_ (f + j) ++ [ch j]) ∧ (0 < T → d'.at_ f = d.at_ f ++ [ch 0])
theorem secsL_at {b : List Int} {j : Nat} (h : j < takesN b.length) : (secsL b).getD j [] = secL (chunkL b j) := by
  unfold secsL
  simp [List.getD, h]
theorem puts_puts {d : Dk} {f : Nat} {b : List Int} (ho : d.off = false) (hf : f + takesN b.length ≤ d.vs.length) (hb : AreB b) : Puts d (d.puts f b).1 f (takesN b.length) (fun j => secL (chunkL b j)) (d.puts f b).2 := by
  have hw := writes_wrote (secsL b) (d := d) f ho (by rw [secsL_len]; exact hf) (fun x hx => (secsL_mem hb x hx).2)
  obtain ⟨W, o, hWo⟩ : ∃ W o, d.writes f (secsL b) = (W, o) := ⟨_, _, rfl⟩
  have hpu : d.puts f b = if o = none then W.sync else (W, o) := by unfold Dk.puts; rw [hWo]
  rw [hWo] at hw
  have hlen := hw.len
  have hfar := hw.far
  have hnear := hw.near
  have hhead := hw.head
  have hon := hw.on
  have hoff := hw.off
  rw [secsL_len] at hfar hnear hhead hon hoff
  dsimp only at hlen hfar hnear hhead hon hoff
  have hnear' : ∀ j, j < takesN b.length → W.at_ (f + j) = d.at_ (f + j) ∨ W.at_ (f + j) = d.at_ (f + j) ++ [secL (chunkL b j)] := fun j hj => by
    have := hnear j hj; rw [secsL_at hj] at this; exact this
  refine ⟨puts_len, fun hq => ?_, fun hq => ?_⟩
  · have hq1 : okN d.left (takesN b.length) := by unfold okN at *; omega
    obtain ⟨h1, h2, h3, h4⟩ := hon hq1
    rw [hpu, if_pos h1]
    obtain ⟨s1, s2, s3, s4⟩ := (sync_on h2).1 (by rw [h3]; exact (okN_add hq1).2 hq)
    refine ⟨s1, s3, by rw [s4, h3, decN_add _ _ _ hq1], fun i hi => ?_⟩
    have e : W.sync.1.at_ i = W.settle.at_ i := by unfold Dk.at_; rw [s2]
    rw [e, settle_at (by rw [hlen]; exact hi)]
    split
    · next hr =>
      obtain ⟨j, rfl⟩ : ∃ j, i = f + j := ⟨i - f, by omega⟩
      have hj : j < takesN b.length := by omega
      rw [h4 j hj, lastV_snoc, secsL_at hj, show f + j - f = j by omega]
    · next hr => rw [hfar i (by omega)]
  · by_cases hq1 : okN d.left (takesN b.length)
    · obtain ⟨h1, h2, h3, h4⟩ := hon hq1
      rw [hpu, if_pos h1]
      obtain ⟨s1, s2, s3⟩ := (sync_on h2).2 (by rw [h3]; exact fun hh => hq ((okN_add hq1).1 hh))
      have e : ∀ i, W.sync.1.at_ i = W.at_ i := fun i => by unfold Dk.at_; rw [s2]
      refine ⟨s1, s3, fun i hi => by rw [e, hfar i hi], fun j hj => by rw [e]; exact hnear' j hj, fun h0 => ?_⟩
      have := hhead h0
      rw [secsL_at h0] at this
      rw [e, this]
    · obtain ⟨h1, h2⟩ := hoff hq1
      rw [hpu, h1, if_neg (by simp)]
      refine ⟨rfl, h2, hfar, hnear', fun h0 => ?_⟩
      have := hhead h0
      rw [secsL_at h0] at this
      exact this
end Go.Proofs.YtkefbgkdkmkghaaDoor
