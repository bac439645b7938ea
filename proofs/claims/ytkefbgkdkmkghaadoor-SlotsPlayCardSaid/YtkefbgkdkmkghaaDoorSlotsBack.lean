/-
  Slots: a save, a crash, what is loaded.
-/
import Derived.Test.YtkefbgkdkmkghaaDoorSlotsCore
namespace Go.Proofs.YtkefbgkdkmkghaaDoor
set_option linter.unusedSimpArgs false
set_option linter.unusedVariables false
open Go.RowKit

/-- Whether it is the new state that is on the disk. -/
def chose (left : Int) (T : Nat) (ks : List Int) : Bool := decide (okN left (T + 1)) && (decide (okN left (T + 3)) || decide (keepN (ks.headD 0) 2 = 1))
theorem Mid.mem {n : Nat} {s nx : Sv} {c b : List Int} {d : Dk} (h : Mid n s c nx b d) : ∀ x ∈ d.vs, x ≠ [] := fun x hx => by
  obtain ⟨i, hi, rfl⟩ := List.mem_iff_getElem.1 hx
  have := h.some i (by rw [← h.len]; exact hi)
  unfold Dk.at_ at this
  simpa [List.getD, hi] using this
theorem mid_head {n : Nat} {s nx : Sv} {c b : List Int} {d : Dk} (h : Mid n s c nx b d) (h1 : 1 ≤ n) (ks : List Int) : (d.crash ks).at_ 0 = [if keepN (ks.headD 0) 2 = 1 then headL nx else secAt n s c 0] := by
  have hh := h.head
  have hl := h.len
  unfold Dk.at_ at hh
  show (crashL d.vs ks).getD 0 [] = _
  generalize d.vs = vs at *
  cases vs with
  | nil => simp at hl; omega
  | cons x r =>
    rw [List.getD_cons_zero] at hh
    subst hh
    cases ks with
    | nil =>
      rw [crashL_none (by simp), List.getD_cons_zero, if_neg (by unfold keepN; simp)]
      rfl
    | cons k ks =>
      rw [crashL_some (by simp), List.getD_cons_zero]
      have := keepN_lt k (n := 2) (by omega)
      have e : keepN k [secAt n s c 0, headL nx].length = keepN k 2 := rfl
      rw [e]
      obtain h0 | h0 : keepN k 2 = 0 ∨ keepN k 2 = 1 := by omega
      · rw [if_neg (show ¬ keepN ((k :: ks).headD 0) 2 = 1 by show ¬ keepN k 2 = 1; omega), h0]
        rfl
      · rw [if_pos (show keepN ((k :: ks).headD 0) 2 = 1 from h0), h0]
        rfl
/-- The disk behind a save and a crash. -/
structure Back (n : Nat) (s : Sv) (c b : List Int) (d : Dk) (r : Dk × Sv × Option Nat) (ks : List Int) (ch : Bool) : Prop where
  eq : ch = chose d.left (takesN b.length) ks
  near : Near n (if ch then nextSv s b.length else s) (if ch then b else c) (r.1.crash ks)
  ones : Singles (r.1.crash ks)
  done : r.2.2 = none → ch = true
  err : r.2.2 = none ∨ r.2.2 = Option.some 0
theorem save_back {n : Nat} {s : Sv} {c b : List Int} {d : Dk} {r : Dk × Sv × Option Nat} (h : Saved n s c b d r) (h1 : 1 ≤ n) (ks : List Int) : ∃ ch, Back n s c b d r ks ch := by
  by_cases k1 : okN d.left (takesN b.length + 1)
  · by_cases k3 : okN d.left (takesN b.length + 3)
    · obtain ⟨a1, a2, a3, a4⟩ := h.high k3
      exact ⟨true, by unfold chose; simp [k1, k3], by rw [if_pos rfl, if_pos rfl]; exact near_crash a1 ks, crash_singles a1.mem ks, fun _ => rfl, a3⟩
    · obtain ⟨a1, a2⟩ := h.mid k1 k3
      have hh := mid_head a2 h1 ks
      have hsm : ∀ i, i < n → (r.1.crash ks).at_ i ≠ [] := fun i hi => by
        obtain ⟨v, hv⟩ := crash_singles a2.mem ks i (by rw [crash_len, a2.len]; exact hi)
        rw [hv]; simp
      by_cases hk : keepN (ks.headD 0) 2 = 1
      · rw [if_pos hk] at hh
        refine ⟨true, by unfold chose; rw [decide_eq_true k1, decide_eq_true hk]; simp, ?_, crash_singles a2.mem ks, fun _ => rfl, .inr a1⟩
        rw [if_pos rfl, if_pos rfl]
        refine ⟨by rw [crash_len, a2.len], fun i hi hu => ?_, hsm⟩
        by_cases h0 : i = 0
        · subst h0
          rw [hh]
          unfold secAt
          rw [if_pos rfl, if_neg (by show ¬ s.seq + 1 = 0; omega)]
        · exact crash_one a2.mem ks (by rw [a2.len]; exact hi) (a2.new i hi h0 hu)
      · rw [if_neg hk] at hh
        refine ⟨false, by unfold chose; rw [decide_eq_false k3, decide_eq_false hk]; simp, ?_, crash_singles a2.mem ks, fun e => absurd (a1.symm.trans e) (by simp), .inr a1⟩
        simp only [Bool.false_eq_true, if_false]
        refine ⟨by rw [crash_len, a2.len], fun i hi hu => ?_, hsm⟩
        by_cases h0 : i = 0
        · subst h0; exact hh
        · exact crash_one a2.mem ks (by rw [a2.len]; exact hi) (a2.old i hi h0 hu)
  · obtain ⟨a1, a2⟩ := h.low k1
    refine ⟨false, by unfold chose; simp [k1], ?_, crash_singles a2.mem ks, fun e => absurd (a1.symm.trans e) (by simp), .inr a1⟩
    simp only [Bool.false_eq_true, if_false]
    exact near_crash a2 ks
theorem load_to {n : Nat} {s : Sv} {c : List Int} {d : Dk} (h : Near n s c d) (hs : IsState n s c) (h1 : 1 ≤ n) : ∀ j, j ≤ takesN s.many → d.loadTo s j = c.take (j * 128) ++ List.replicate (j * 128 - c.length) 0
  | 0, _ => by simp [Dk.loadTo]
  | j + 1, hj => by
    have hfit := hs.fits h1
    have hm := hs.many
    have hf1 : 1 ≤ firstN n s := by unfold firstN; omega
    rw [loadTo_succ, load_to h hs h1 j (by omega), first_eq h.len, h.use _ (by omega) (.inr ⟨by omega, by omega⟩)]
    show _ ++ secAt n s c (firstN n s + j) = _
    have hjc : j * 128 < c.length := by unfold takesN at hj; omega
    unfold secAt
    rw [if_neg (by omega), if_pos ⟨by omega, by omega⟩, show firstN n s + j - firstN n s = j by omega, show j * 128 - c.length = 0 by omega]
    unfold secL chunkL
    rw [List.replicate_zero, List.append_nil, ← List.append_assoc, List.length_take, List.length_drop, show (j + 1) * 128 = j * 128 + 128 by omega, List.take_add]
    congr 2
    omega
theorem load_v {n : Nat} {s : Sv} {c : List Int} {d : Dk} (h : Near n s c d) (hs : IsState n s c) (h1 : 1 ≤ n) : d.loadV s = c := by
  unfold Dk.loadV
  rw [load_to h hs h1 _ (Nat.le_refl _), hs.many]
  have : c.length ≤ takesN c.length * 128 := by unfold takesN; omega
  rw [List.take_of_length_le this, List.take_append_of_le_length (Nat.le_refl _), List.take_length]
theorem zero_state (n : Nat) : IsState n ⟨0, 0, 0⟩ [] := ⟨by simp, rfl, Nat.zero_le _, Nat.zero_le _, fun _ => rfl, fun x hx => absurd hx (by simp)⟩
theorem new_clean (n : Nat) : Clean n ⟨0, 0, 0⟩ [] (Dk.new n) := by
  refine ⟨by simp [Dk.new], fun i hi => ?_⟩
  have e : secAt n ⟨0, 0, 0⟩ [] i = zsec := by
    unfold secAt
    by_cases h0 : i = 0
    · rw [if_pos h0, if_pos rfl]
    · rw [if_neg h0, if_neg]
      show ¬ (_ ∧ i < _ + takesN 0)
      unfold takesN
      omega
  rw [e]
  simp [Dk.new, Dk.at_, List.getD, hi]
end Go.Proofs.YtkefbgkdkmkghaaDoor
