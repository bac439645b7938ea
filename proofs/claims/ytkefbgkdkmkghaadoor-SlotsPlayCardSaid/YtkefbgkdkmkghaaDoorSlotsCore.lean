/-
  Slots: the state on a disk, a save, a crash, opened again.
-/
import Derived.Test.YtkefbgkdkmkghaaDoorSlotsPower
namespace Go.Proofs.YtkefbgkdkmkghaaDoor
set_option linter.unusedSimpArgs false
set_option linter.unusedVariables false
open Go.RowKit

theorem rawSv_head {s : Sv} (h : s.seq ≤ 4294967295 ∧ s.half ≤ 255 ∧ s.many ≤ 4294967295) : rawSv (headL s) = s := by
  have hb : headL s = magicL ++ le4s s.seq ++ [(s.half : Int) % 256] ++ le4s s.many ++ List.replicate (128 - (headBare s).length) 0 := rfl
  obtain ⟨Z, hZ⟩ : ∃ Z, Z = List.replicate (128 - (headBare s).length) (0 : Int) := ⟨_, rfl⟩
  rw [← hZ] at hb
  clear hZ
  obtain ⟨sq, hf, mn⟩ := s
  dsimp only at h hb
  rw [hb]
  clear hb
  unfold rawSv num4 magicL le4s
  simp only [List.cons_append, List.nil_append, List.getD_cons_succ, List.getD_cons_zero]
  have e1 : ((sq : Int) % 256 + 256 * ((sq : Int) / 256 % 256) + 65536 * ((sq : Int) / 65536 % 256) + 16777216 * ((sq : Int) / 16777216 % 256)).toNat = sq := by omega
  have e2 : ((hf : Int) % 256).toNat = hf := by omega
  have e3 : ((mn : Int) % 256 + 256 * ((mn : Int) / 256 % 256) + 65536 * ((mn : Int) / 65536 % 256) + 16777216 * ((mn : Int) / 16777216 % 256)).toNat = mn := by omega
  rw [e1, e2, e3]
theorem head_ne {s : Sv} : headL s ≠ zsec := fun e => by
  have h1 : (headL s).getD 0 0 = 67 := rfl
  rw [e] at h1
  have h2 : zsec.getD 0 0 = 0 := by unfold zsec; simp [List.getD]
  omega
/-- A state: what the head says, what is saved. -/
structure IsState (n : Nat) (s : Sv) (c : List Int) : Prop where
  half : s.half ≤ 1
  many : s.many = c.length
  room : s.many ≤ (n - 1) / 2 * 128
  seq : s.seq ≤ 4294967295
  zero : s.seq = 0 → s = ⟨0, 0, 0⟩
  bytes : AreB c
def firstN (n : Nat) (s : Sv) : Nat := 1 + s.half * ((n - 1) / 2)
/-- What a sector holds. -/
def secAt (n : Nat) (s : Sv) (c : List Int) (i : Nat) : List Int :=
  if i = 0 then (if s.seq = 0 then zsec else headL s) else if firstN n s ≤ i ∧ i < firstN n s + takesN s.many then secL (chunkL c (i - firstN n s)) else zsec
def inUse (n : Nat) (s : Sv) (i : Nat) : Prop := i = 0 ∨ firstN n s ≤ i ∧ i < firstN n s + takesN s.many
instance (n : Nat) (s : Sv) (i : Nat) : Decidable (inUse n s i) := by unfold inUse; exact inferInstance
/-- The state is on the disk; what else stands there is not told. -/
structure Near (n : Nat) (s : Sv) (c : List Int) (d : Dk) : Prop where
  len : d.vs.length = n
  use : ∀ i, i < n → inUse n s i → d.at_ i = [secAt n s c i]
  some : ∀ i, i < n → d.at_ i ≠ []
/-- The state is on the disk, and nothing else. -/
structure Clean (n : Nat) (s : Sv) (c : List Int) (d : Dk) : Prop where
  len : d.vs.length = n
  at_ : ∀ i, i < n → d.at_ i = [secAt n s c i]
theorem Clean.near {n : Nat} {s : Sv} {c : List Int} {d : Dk} (h : Clean n s c d) : Near n s c d := ⟨h.len, fun i hi _ => h.at_ i hi, fun i hi => by rw [h.at_ i hi]; simp⟩
theorem Clean.vs {n : Nat} {s : Sv} {c : List Int} {d : Dk} (h : Clean n s c d) : d.vs = (List.range n).map fun i => [secAt n s c i] :=
  vs_ext (by rw [h.len]; simp) (fun i hi => by
    have hi' : i < n := by simpa using hi
    have := h.at_ i hi'
    unfold Dk.at_ at this
    rw [this]
    simp [List.getD, hi'])
theorem first_eq {n : Nat} {d : Dk} (h : d.vs.length = n) (s : Sv) : d.first s.half = firstN n s := by unfold Dk.first Dk.each firstN; rw [h]
theorem room_eq {n : Nat} {d : Dk} (h : d.vs.length = n) : d.room = (n - 1) / 2 * 128 := by unfold Dk.room Dk.each; rw [h]
theorem IsState.fits {n : Nat} {s : Sv} {c : List Int} (h : IsState n s c) (h1 : 1 ≤ n) : firstN n s + takesN s.many ≤ n := by
  have := h.room
  have hh := h.half
  unfold firstN takesN
  obtain h0 | h0 : s.half = 0 ∨ s.half = 1 := by omega
  · rw [h0]; omega
  · rw [h0]; omega
theorem near_parse {n : Nat} {s : Sv} {c : List Int} {d : Dk} (h : Near n s c d) (hs : IsState n s c) (h1 : 1 ≤ n) (hn : n ≤ 400) : d.parse (lastV (d.at_ 0)) = Option.some s := by
  rw [h.use 0 (by omega) (.inl rfl)]
  show d.parse (secAt n s c 0) = _
  unfold secAt
  rw [if_pos rfl]
  have hr := hs.room
  have hh := hs.half
  by_cases h0 : s.seq = 0
  · rw [if_pos h0]
    unfold Dk.parse
    rw [if_pos rfl, hs.zero h0]
  · rw [if_neg h0]
    unfold Dk.parse
    rw [if_neg head_ne, rawSv_head ⟨hs.seq, by omega, by omega⟩, if_pos ⟨rfl, h0, hs.half, by rw [room_eq h.len]; exact hs.room⟩]
theorem dirty_eq {n : Nat} {s : Sv} {d : Dk} (h : d.vs.length = n) {i : Nat} : d.dirty s i = true ↔ ¬ inUse n s i ∧ lastV (d.at_ i) ≠ zsec := by
  unfold Dk.dirty Dk.used inUse
  rw [first_eq h]
  simp
  omega
/-- One version of each. -/
def Singles (d : Dk) : Prop := ∀ i, i < d.vs.length → ∃ v, d.at_ i = [v]
theorem near_clean {n : Nat} {s : Sv} {c : List Int} {d : Dk} (h : Near n s c d) (hg : Singles d) : Clean n s c (d.cleaned s) := by
  refine ⟨by rw [cleaned_len, h.len], fun i hi => ?_⟩
  have hz : ¬ inUse n s i → secAt n s c i = zsec := fun hu => by
    unfold inUse at hu
    unfold secAt
    rw [if_neg (fun e => hu (.inl e)), if_neg (fun e => hu (.inr e))]
  unfold Dk.cleaned
  split
  · rw [settle_at (by rw [scrub_len, h.len]; exact hi), scrub_at (by rw [h.len]; exact hi), h.len]
    by_cases hd : d.dirty s i = true
    · rw [if_pos (by simp [hd, hi]), lastV_snoc, hz ((dirty_eq h.len).1 hd).1]
    · rw [if_neg (by simp [hd])]
      by_cases hu : inUse n s i
      · rw [h.use i hi hu]; rfl
      · have : lastV (d.at_ i) = zsec := Classical.byContradiction fun hne => hd ((dirty_eq h.len).2 ⟨hu, hne⟩)
        rw [this, hz hu]
  · next hany =>
    have hd : ¬ d.dirty s i = true := fun hd => hany (by unfold Dk.anyTo; exact List.any_eq_true.2 ⟨i, List.mem_range.2 (by rw [h.len]; exact hi), hd⟩)
    by_cases hu : inUse n s i
    · exact h.use i hi hu
    · have h2 : lastV (d.at_ i) = zsec := Classical.byContradiction fun hne => hd ((dirty_eq h.len).2 ⟨hu, hne⟩)
      obtain ⟨v, hv⟩ := hg i (by rw [h.len]; exact hi)
      rw [hv] at h2 ⊢
      rw [hz hu, ← h2]
      rfl
theorem cleaned_left (d : Dk) (s : Sv) : (d.cleaned s).left = d.left ∧ (d.cleaned s).off = d.off := by unfold Dk.cleaned; split <;> exact ⟨rfl, rfl⟩
theorem Near.mem {n : Nat} {s : Sv} {c : List Int} {d : Dk} (h : Near n s c d) : ∀ x ∈ d.vs, x ≠ [] := fun x hx => by
  obtain ⟨i, hi, rfl⟩ := List.mem_iff_getElem.1 hx
  have := h.some i (by rw [← h.len]; exact hi)
  unfold Dk.at_ at this
  simpa [List.getD, hi] using this
theorem crash_singles {d : Dk} (h : ∀ x ∈ d.vs, x ≠ []) (ks : List Int) : Singles (d.crash ks) := fun i hi => by
  have hi' : i < d.vs.length := by have : (d.crash ks).vs.length = d.vs.length := crashL_len _ _; omega
  obtain ⟨j, _, e⟩ := crashL_mem d.vs ks h i hi'
  exact ⟨_, e⟩
theorem crash_len (d : Dk) (ks : List Int) : (d.crash ks).vs.length = d.vs.length := crashL_len _ _
theorem crash_one {d : Dk} (h : ∀ x ∈ d.vs, x ≠ []) (ks : List Int) {i : Nat} (hi : i < d.vs.length) {v : List Int} (hv : d.at_ i = [v]) : (d.crash ks).at_ i = [v] := by
  obtain ⟨j, hj, e⟩ := crashL_mem d.vs ks h i hi
  unfold Dk.at_ at hv
  rw [hv] at hj e
  have : j = 0 := by simpa using hj
  subst this
  exact e
theorem near_crash {n : Nat} {s : Sv} {c : List Int} {d : Dk} (h : Near n s c d) (ks : List Int) : Near n s c (d.crash ks) := by
  refine ⟨by rw [crash_len, h.len], fun i hi hu => crash_one h.mem ks (by rw [h.len]; exact hi) (h.use i hi hu), fun i hi => ?_⟩
  obtain ⟨v, hv⟩ := crash_singles h.mem ks i (by rw [crash_len, h.len]; exact hi)
  rw [hv]; simp
/-- The head is loose: both states stand there. -/
structure Mid (n : Nat) (s : Sv) (c : List Int) (nx : Sv) (b : List Int) (d : Dk) : Prop where
  len : d.vs.length = n
  head : d.at_ 0 = [secAt n s c 0, headL nx]
  old : ∀ i, i < n → i ≠ 0 → inUse n s i → d.at_ i = [secAt n s c i]
  new : ∀ i, i < n → i ≠ 0 → inUse n nx i → d.at_ i = [secAt n nx b i]
  some : ∀ i, i < n → d.at_ i ≠ []
theorem nx_state {n : Nat} {s : Sv} {c b : List Int} (hs : IsState n s c) (hb : AreB b) (hr : b.length ≤ (n - 1) / 2 * 128) (hq : s.seq < 4294967295) : IsState n (nextSv s b.length) b := by
  refine ⟨?_, rfl, hr, ?_, fun h => ?_, hb⟩
  · unfold nextSv; dsimp only; split <;> omega
  · unfold nextSv; dsimp only; omega
  · unfold nextSv at h; dsimp only at h; omega
theorem disj {n : Nat} {s : Sv} {c b : List Int} (hs : IsState n s c) (hr : b.length ≤ (n - 1) / 2 * 128) {i : Nat} (hu : inUse n s i) : i < firstN n (nextSv s b.length) ∨ firstN n (nextSv s b.length) + takesN b.length ≤ i := by
  unfold inUse at hu
  have hh := hs.half
  have hr2 := hs.room
  by_cases hz : s.seq = 0
  · have := hs.zero hz
    subst this
    unfold firstN takesN at *
    dsimp only at *
    omega
  · have e : (nextSv s b.length).half = 1 - s.half := by unfold nextSv; dsimp only; rw [if_pos (by omega)]
    unfold firstN takesN at *
    rw [e]
    generalize (n - 1) / 2 = E at *
    obtain h0 | h0 : s.half = 0 ∨ s.half = 1 := by omega
    · rw [h0] at hu ⊢; omega
    · rw [h0] at hu ⊢; omega
theorem disj2 {n : Nat} {s : Sv} {c b : List Int} (hs : IsState n s c) (hr : b.length ≤ (n - 1) / 2 * 128) {i : Nat} (hu : inUse n (nextSv s b.length) i) : i < firstN n s ∨ firstN n s + takesN s.many ≤ i := by
  have h := fun hu' => disj hs hr (i := i) hu'
  unfold inUse at hu h
  have : (nextSv s b.length).many = b.length := rfl
  rw [this] at hu
  have : 1 ≤ firstN n s := by unfold firstN; omega
  by_cases h2 : firstN n s ≤ i ∧ i < firstN n s + takesN s.many
  · have := h (.inr h2); omega
  · omega
theorem zero_chunk {m j : Nat} : secL (chunkL (List.replicate m 0) j) = zsec := by
  have h : chunkL (List.replicate m (0 : Int)) j = List.replicate (min 128 (m - j * 128)) 0 := by unfold chunkL; rw [List.drop_replicate, List.take_replicate]
  rw [h]
  unfold secL zsec
  rw [List.length_replicate, List.replicate_append_replicate]
  congr 1
  omega
theorem head_chunk (s : Sv) : secL (chunkL (headL s) 0) = headL s := by
  have h : chunkL (headL s) 0 = headL s := by unfold chunkL; rw [Nat.zero_mul, List.drop_zero, List.take_of_length_le (by rw [headL_len]; exact Nat.le_refl _)]
  rw [h]
  unfold secL
  rw [headL_len]
  exact List.append_nil _
/-- What a save leaves. -/
structure Saved (n : Nat) (s : Sv) (c : List Int) (b : List Int) (d : Dk) (r : Dk × Sv × Option Nat) : Prop where
  low : ¬ okN d.left (takesN b.length + 1) → r.2.2 = Option.some 0 ∧ Near n s c r.1
  mid : okN d.left (takesN b.length + 1) → ¬ okN d.left (takesN b.length + 3) → r.2.2 = Option.some 0 ∧ Mid n s c (nextSv s b.length) b r.1
  high : okN d.left (takesN b.length + 3) → Near n (nextSv s b.length) b r.1 ∧ r.2.1 = nextSv s b.length ∧ (r.2.2 = none ∨ r.2.2 = Option.some 0) ∧ (r.2.2 = none → Clean n (nextSv s b.length) b r.1 ∧ r.1.off = false)
  free : d.left < 0 → r.2.2 = none ∧ r.1.left = d.left
theorem save_saved {n : Nat} {s : Sv} {c b : List Int} {d : Dk} (hs : IsState n s c) (hc : Clean n s c d) (ho : d.off = false) (hb : AreB b) (hr : b.length ≤ (n - 1) / 2 * 128) (hq : s.seq < 4294967295) (h1 : 1 ≤ n) : Saved n s c b d (d.save s b) := by
  have hnf : ¬ (d.room < b.length ∨ 4294967295 ≤ s.seq) := by rw [room_eq hc.len]; omega
  obtain ⟨nx, hnx⟩ : ∃ x, x = nextSv s b.length := ⟨_, rfl⟩
  have hnst : IsState n nx b := hnx ▸ nx_state hs hb hr hq
  have hnm : nx.many = b.length := by rw [hnx]; rfl
  have hnq : nx.seq ≠ 0 := by rw [hnx]; show s.seq + 1 ≠ 0; omega
  have hd1 : ∀ i, inUse n s i → i < firstN n nx ∨ firstN n nx + takesN b.length ≤ i := fun i hu => hnx ▸ disj hs hr hu
  have hd2 : ∀ i, inUse n nx i → i < firstN n s ∨ firstN n s + takesN s.many ≤ i := fun i hu => disj2 hs hr (b := b) (hnx ▸ hu)
  have hfit := hnst.fits h1
  have hfit0 := hs.fits h1
  rw [hnm] at hfit
  have hf0 : 1 ≤ firstN n nx := by unfold firstN; omega
  have hf0s : 1 ≤ firstN n s := by unfold firstN; omega
  obtain ⟨T, hT⟩ : ∃ x, x = takesN b.length := ⟨_, rfl⟩
  obtain ⟨F, hF⟩ : ∃ x, x = firstN n nx := ⟨_, rfl⟩
  have hp1 := puts_puts (d := d) (f := F) ho (by rw [hc.len, hF]; exact hfit) hb
  obtain ⟨D1, o1, hD1⟩ : ∃ D1 o1, d.puts (d.first nx.half) b = (D1, o1) := ⟨_, _, rfl⟩
  have hD1' := hD1
  rw [first_eq hc.len, ← hF] at hD1'
  rw [hD1', ← hT] at hp1
  dsimp only at hp1
  rw [← hT, ← hF] at hd1 hfit
  have hl1 : D1.vs.length = n := hp1.len.trans hc.len
  -- the data's sectors, written
  have hone : okN d.left (T + 1) → o1 = none ∧ D1.off = false ∧ D1.left = decN d.left (T + 1) ∧ ∀ i, i < n → D1.at_ i = [if F ≤ i ∧ i < F + T then secL (chunkL b (i - F)) else secAt n s c i] := fun hk => by
    obtain ⟨a1, a2, a3, a4⟩ := hp1.on hk
    refine ⟨a1, a2, a3, fun i hi => ?_⟩
    rw [a4 i (by rw [hc.len]; exact hi), hc.at_ i hi]
    rfl
  have hp2 : D1.off = false → Puts D1 (D1.puts 0 (headL nx)).1 0 1 (fun _ => headL nx) (D1.puts 0 (headL nx)).2 := fun h => by
    have h2 := puts_puts (d := D1) (f := 0) (b := headL nx) h (by rw [headL_len, hl1]; unfold takesN; omega) (headL_bytes nx)
    rw [headL_len, show takesN 128 = 1 from rfl] at h2
    refine ⟨h2.len, fun hk => ?_, fun hk => ?_⟩
    · obtain ⟨a1, a2, a3, a4⟩ := h2.on hk
      refine ⟨a1, a2, a3, fun i hi => ?_⟩
      rw [a4 i hi]
      by_cases h0 : 0 ≤ i ∧ i < 0 + 1
      · rw [if_pos h0, if_pos h0, show i - 0 = 0 by omega, head_chunk]
      · rw [if_neg h0, if_neg h0]
    · obtain ⟨a1, a2, a3, a4, a5⟩ := h2.off hk
      refine ⟨a1, a2, a3, fun j hj => ?_, fun h => ?_⟩
      · have := a4 j hj
        rw [show j = 0 by omega, head_chunk] at this
        rw [show j = 0 by omega]
        exact this
      · have := a5 h
        rw [head_chunk] at this
        exact this
  obtain ⟨D2, o2, hD2⟩ : ∃ D2 o2, D1.puts 0 (headL nx) = (D2, o2) := ⟨_, _, rfl⟩
  rw [hD2] at hp2
  dsimp only at hp2
  -- behind the head
  have htwo : okN d.left (T + 3) → o1 = none ∧ o2 = none ∧ D2.vs.length = n ∧ D2.off = false ∧ D2.left = decN d.left (T + 3) ∧ ∀ i, i < n → D2.at_ i = [if i = 0 then headL nx else if F ≤ i ∧ i < F + T then secL (chunkL b (i - F)) else secAt n s c i] := fun hk => by
    have hk1 : okN d.left (T + 1) := by unfold okN at *; omega
    obtain ⟨a1, a2, a3, a4⟩ := hone hk1
    obtain ⟨b1, b2, b3, b4⟩ := (hp2 a2).on (by rw [a3]; exact (okN_add hk1).2 hk)
    refine ⟨a1, b1, (hp2 a2).len.trans hl1, b2, by rw [b3, a3, decN_add _ _ _ hk1], fun i hi => ?_⟩
    rw [b4 i (by rw [hl1]; exact hi)]
    by_cases h0 : i = 0
    · rw [if_pos h0, if_pos (by omega)]
    · rw [if_neg h0, if_neg (by omega), a4 i hi]
      rfl
  have hsec : ∀ i, i < n → inUse n nx i → secAt n nx b i = if i = 0 then headL nx else if F ≤ i ∧ i < F + T then secL (chunkL b (i - F)) else secAt n s c i := fun i hi hu => by
    unfold inUse at hu
    rw [hnm, ← hT, ← hF] at hu
    conv => lhs; unfold secAt
    rw [hnm, ← hT, ← hF]
    by_cases h0 : i = 0
    · rw [if_pos h0, if_pos h0, if_neg hnq]
    · rw [if_neg h0, if_neg h0, if_pos (by omega), if_pos (by omega)]
  have hneg : ∀ k, d.left < 0 → decN d.left k = d.left := fun k hl => by unfold decN; rw [if_pos hl]
  have hfull : okN d.left (T + 3) → Near n nx b (d.save s b).1 ∧ (d.save s b).2.1 = nx ∧ ((d.save s b).2.2 = none ∨ (d.save s b).2.2 = some 0) ∧ ((d.save s b).2.2 = none → Clean n nx b (d.save s b).1 ∧ (d.save s b).1.off = false) ∧ (d.left < 0 → (d.save s b).2.2 = none ∧ (d.save s b).1.left = d.left) := fun hk => by
    obtain ⟨a1, a2, a3, a4, a5, a6⟩ := htwo hk
    by_cases hm0 : s.many = 0
    · have hcl : Clean n nx b D2 := ⟨a3, fun i hi => by
        rw [a6 i hi]
        by_cases hu : inUse n nx i
        · rw [hsec i hi hu]
        · have hu' := hu
          unfold inUse at hu
          rw [hnm, ← hT, ← hF] at hu
          rw [if_neg (by omega), if_neg (by omega)]
          have e1 : secAt n nx b i = zsec := by unfold secAt; rw [hnm, ← hT, ← hF, if_neg (by omega), if_neg (by omega)]
          have e2 : secAt n s c i = zsec := by unfold secAt; rw [hm0, show takesN 0 = 0 from rfl, if_neg (by omega), if_neg (by omega)]
          rw [e1, e2]⟩
      rw [save_0 hnf (a1 ▸ hD1) hnx (a2 ▸ hD2) hm0]
      exact ⟨hcl.near, rfl, .inl rfl, fun _ => ⟨hcl, a4⟩, fun hl => ⟨rfl, a5.trans (hneg _ hl)⟩⟩
    · obtain ⟨D3, o3, hD3⟩ : ∃ D3 o3, D2.puts (d.first s.half) (List.replicate s.many 0) = (D3, o3) := ⟨_, _, rfl⟩
      have hD3' := hD3
      rw [first_eq hc.len] at hD3'
      have hp3 := puts_puts (d := D2) (f := firstN n s) (b := List.replicate s.many 0) a4 (by rw [a3, List.length_replicate]; exact hfit0) (fun x hx => by rw [List.eq_of_mem_replicate hx]; omega)
      rw [hD3', List.length_replicate] at hp3
      dsimp only at hp3
      rw [save_3 hnf (a1 ▸ hD1) hnx (a2 ▸ hD2) hm0 hD3]
      obtain ⟨T0, hT0⟩ : ∃ x, x = takesN s.many := ⟨_, rfl⟩
      obtain ⟨F0, hF0⟩ : ∃ x, x = firstN n s := ⟨_, rfl⟩
      rw [← hT0, ← hF0] at hp3
      rw [← hT0, ← hF0] at hd2
      rw [← hF0] at hf0s
      have hl3 : D3.vs.length = n := hp3.len.trans a3
      have hcl : okN D2.left (T0 + 1) → o3 = none ∧ Clean n nx b D3 ∧ D3.off = false ∧ D3.left = decN D2.left (T0 + 1) := fun hk3 => by
        obtain ⟨c1, c2, c3, c4⟩ := hp3.on hk3
        refine ⟨c1, ⟨hl3, fun i hi => ?_⟩, c2, c3⟩
        rw [c4 i (by rw [a3]; exact hi)]
        by_cases hu : inUse n nx i
        · rw [if_neg (by have := hd2 i hu; omega), a6 i hi, hsec i hi hu]
          rfl
        · unfold inUse at hu
          rw [hnm, ← hT, ← hF] at hu
          have e1 : secAt n nx b i = zsec := by unfold secAt; rw [hnm, ← hT, ← hF, if_neg (by omega), if_neg (by omega)]
          rw [e1]
          by_cases hr0 : F0 ≤ i ∧ i < F0 + T0
          · rw [if_pos hr0, zero_chunk]
          · rw [if_neg hr0, a6 i hi, if_neg (by omega), if_neg (by omega)]
            have e2 : secAt n s c i = zsec := by unfold secAt; rw [← hT0, ← hF0, if_neg (by omega), if_neg hr0]
            rw [e2]
            rfl
      by_cases hk3 : okN D2.left (T0 + 1)
      · obtain ⟨c1, c2, c3, c4⟩ := hcl hk3
        exact ⟨c2.near, rfl, .inl c1, fun _ => ⟨c2, c3⟩, fun hl => ⟨c1, by rw [show ((D3, nx, o3) : Dk × Sv × Option Nat).1.left = D3.left from rfl, c4, a5, hneg _ hl, hneg _ hl]⟩⟩
      · obtain ⟨c1, c2, c3, c4, c5⟩ := hp3.off hk3
        refine ⟨⟨hl3, fun i hi hu => ?_, fun i hi => ?_⟩, rfl, .inr c1, fun h => absurd (c1.symm.trans h) (by simp), fun hl => absurd (show okN D2.left (T0 + 1) by rw [a5, hneg _ hl]; exact .inl hl) hk3⟩
        · show D3.at_ i = _
          rw [c3 i (hd2 i hu), a6 i hi, hsec i hi hu]
        · show D3.at_ i ≠ []
          by_cases hr0 : F0 ≤ i ∧ i < F0 + T0
          · obtain ⟨j, rfl⟩ : ∃ j, i = F0 + j := ⟨i - F0, by omega⟩
            rcases c4 j (by omega) with h | h <;> rw [h, a6 _ hi] <;> simp
          · rw [c3 i (by omega), a6 i hi]; simp
  refine ⟨fun hk => ?_, fun hk hk2 => ?_, fun hk => ?_, fun hl => ?_⟩
  · rw [← hT] at hk
    obtain ⟨a1, a2, a3, a4, a5⟩ := hp1.off hk
    rw [save_e1 hnf (a1 ▸ hD1) hnx]
    refine ⟨rfl, hl1, fun i hi hu => by rw [a3 i (hd1 i hu)]; exact hc.at_ i hi, fun i hi => ?_⟩
    show D1.at_ i ≠ []
    by_cases hr : F ≤ i ∧ i < F + T
    · obtain ⟨j, rfl⟩ : ∃ j, i = F + j := ⟨i - F, by omega⟩
      rcases a4 j (by omega) with h | h <;> rw [h, hc.at_ _ hi] <;> simp
    · rw [a3 i (by omega), hc.at_ i hi]; simp
  · rw [← hT] at hk hk2
    obtain ⟨a1, a2, a3, a4⟩ := hone hk
    obtain ⟨b1, b2, b3, b4, b5⟩ := (hp2 a2).off (by rw [a3]; exact fun h => hk2 ((okN_add hk).1 h))
    rw [save_e2 hnf (a1 ▸ hD1) hnx (b1 ▸ hD2), ← hnx]
    refine ⟨rfl, (hp2 a2).len.trans hl1, ?_, fun i hi h0 hu => ?_, fun i hi h0 hu => ?_, fun i hi => ?_⟩
    · show D2.at_ 0 = _
      rw [b5 (by omega), a4 0 (by omega), if_neg (by omega)]
      rfl
    · show D2.at_ i = _
      rw [b3 i (by omega), a4 i hi, if_neg (by have := hd1 i hu; omega)]
    · show D2.at_ i = _
      rw [b3 i (by omega), a4 i hi, hsec i hi hu, if_neg h0]
    · show D2.at_ i ≠ []
      by_cases h0 : i = 0
      · rw [h0, b5 (by omega)]; simp
      · rw [b3 i (by omega), a4 i hi]; simp
  · rw [← hT] at hk
    obtain ⟨a1, a2, a3, a4, a5⟩ := hfull hk
    rw [← hnx]
    exact ⟨a1, a2, a3, a4⟩
  · exact (hfull (.inl hl)).2.2.2.2 hl
end Go.Proofs.YtkefbgkdkmkghaaDoor
