/-
  Slots, as plain data: writes one behind the other, save, load, scrub.
-/
import Derived.Test.YtkefbgkdkmkghaaDoorSlotsHead
namespace Go.Proofs.YtkefbgkdkmkghaaDoor
set_option linter.unusedSimpArgs false
set_option linter.unusedVariables false
open Go.RowKit

def chunkL (b : List Int) (i : Nat) : List Int := (b.drop (i * 128)).take 128
def secsL (b : List Int) : List (List Int) := (List.range (takesN b.length)).map fun i => secL (chunkL b i)
/-- Sectors written one behind the other, till one fails. -/
def Dk.writes (d : Dk) (f : Nat) : List (List Int) → Dk × Option Nat
  | [] => (d, none)
  | x :: r => if (d.write f x).2 = none then (d.write f x).1.writes (f + 1) r else d.write f x
def Dk.puts (d : Dk) (f : Nat) (b : List Int) : Dk × Option Nat := if (d.writes f (secsL b)).2 = none then (d.writes f (secsL b)).1.sync else d.writes f (secsL b)
theorem writes_snoc : ∀ (xs : List (List Int)) (d : Dk) (f : Nat) (x : List Int), d.writes f (xs ++ [x]) = if (d.writes f xs).2 = none then (d.writes f xs).1.write (f + xs.length : Nat) x else d.writes f xs
  | [], d, f, x => by
    simp only [List.nil_append, Dk.writes, List.length_nil, Nat.add_zero, if_true]
    by_cases h : (d.write f x).2 = none
    · rw [if_pos h, Prod.ext_iff]; exact ⟨rfl, h.symm⟩
    · rw [if_neg h]
  | y :: r, d, f, x => by
    rw [List.cons_append]
    unfold Dk.writes
    by_cases h : (d.write f y).2 = none
    · rw [if_pos h, if_pos h, writes_snoc r, List.length_cons, show f + 1 + r.length = f + (r.length + 1) by omega]
    · rw [if_neg h, if_neg h, if_neg h]
theorem writes_err : ∀ (xs ys : List (List Int)) (d : Dk) (f : Nat), (d.writes f xs).2 ≠ none → d.writes f (xs ++ ys) = d.writes f xs
  | [], _, d, f, h => absurd rfl h
  | x :: r, ys, d, f, h => by
    rw [List.cons_append]
    unfold Dk.writes at h ⊢
    by_cases hw : (d.write f x).2 = none
    · rw [if_pos hw] at h
      rw [if_pos hw, if_pos hw]
      exact writes_err r ys _ _ h
    · rw [if_neg hw, if_neg hw]
theorem write_vs_len {d : Dk} {i : Int} {b : List Int} : (d.write i b).1.vs.length = d.vs.length := by
  unfold Dk.write
  split
  · rfl
  · split
    · rfl
    · show (d.vs.set _ _).length = _
      rw [List.length_set]
theorem writes_ok : ∀ (xs : List (List Int)) {d : Dk} {m : Nat} (f : Nat), d.Ok m → (∀ x ∈ xs, AreB x) → (d.writes f xs).1.Ok (m + xs.length)
  | [], d, m, f, h, _ => h
  | x :: r, d, m, f, h, hx => by
    unfold Dk.writes
    have hw := h.write f (hx x (List.mem_cons_self ..))
    by_cases he : (d.write f x).2 = none
    · rw [if_pos he]
      exact (writes_ok r (f + 1) hw (fun y hy => hx y (List.mem_cons_of_mem _ hy))).mono (by rw [List.length_cons]; omega)
    · rw [if_neg he]
      exact hw.mono (by rw [List.length_cons]; omega)
theorem writes_len : ∀ (xs : List (List Int)) (d : Dk) (f : Nat), (d.writes f xs).1.vs.length = d.vs.length
  | [], d, f => rfl
  | x :: r, d, f => by
    unfold Dk.writes
    by_cases he : (d.write f x).2 = none
    · rw [if_pos he, writes_len r, write_vs_len]
    · rw [if_neg he, write_vs_len]
theorem sync_len {d : Dk} : d.sync.1.vs.length = d.vs.length := by
  unfold Dk.sync
  split
  · rfl
  · split
    · rfl
    · show (d.vs.map _).length = _
      rw [List.length_map]
theorem puts_len {d : Dk} {f : Nat} {b : List Int} : (d.puts f b).1.vs.length = d.vs.length := by
  unfold Dk.puts
  split
  · rw [sync_len, writes_len]
  · rw [writes_len]
theorem chunk_len {b : List Int} {i : Nat} (h : i < takesN b.length) : (chunkL b i).length = min ((i + 1) * 128) b.length - i * 128 ∧ (chunkL b i).length ≤ 128 := by
  unfold chunkL takesN at *
  rw [List.length_take, List.length_drop]
  omega
theorem chunk_bytes {b : List Int} (h : AreB b) (i : Nat) : AreB (chunkL b i) := fun x hx => h x (List.mem_of_mem_drop (List.mem_of_mem_take hx))
theorem secsL_len (b : List Int) : (secsL b).length = takesN b.length := by simp [secsL]
theorem secsL_mem {b : List Int} (h : AreB b) : ∀ x ∈ secsL b, AreB x ∧ x.length = 128 := fun x hx => by
  obtain ⟨i, hi, rfl⟩ := List.mem_map.1 hx
  exact ⟨secL_bytes (chunk_bytes h i), secL_len (chunk_len (List.mem_range.1 hi)).2⟩
theorem secsL_take {b : List Int} {j : Nat} (h : j < takesN b.length) : (secsL b).take (j + 1) = (secsL b).take j ++ [secL (chunkL b j)] := by
  rw [List.take_succ_eq_append_getElem (by rw [secsL_len]; exact h)]
  simp [secsL]
theorem puts_ok {d : Dk} {m : Nat} (h : d.Ok m) (hm : 1 ≤ m) (f : Nat) {b : List Int} (hb : AreB b) : (d.puts f b).1.Ok (m + takesN b.length) := by
  have hw := writes_ok (secsL b) f h (fun x hx => (secsL_mem hb x hx).1)
  rw [secsL_len] at hw
  unfold Dk.puts
  split
  · exact hw.sync (by omega)
  · exact hw
theorem puts_lt {d : Dk} {f : Nat} {b : List Int} : ∀ k, (d.puts f b).2 = some k → k < 2 := fun k => by
  have key : ∀ (xs : List (List Int)) (d : Dk) (f : Nat) (k : Nat), (d.writes f xs).2 = some k → k < 2 := fun xs => by
    induction xs with
    | nil => intro d f k h; cases h
    | cons x r ih =>
      intro d f k h
      unfold Dk.writes at h
      by_cases hw : (d.write f x).2 = none
      · rw [if_pos hw] at h; exact ih _ _ _ h
      · rw [if_neg hw] at h
        unfold Dk.write at h
        split at h
        · cases h; omega
        · split at h
          · cases h; omega
          · dsimp only at h
            split at h
            · cases h; omega
            · cases h
  unfold Dk.puts
  split
  · intro h
    unfold Dk.sync at h
    split at h
    · cases h; omega
    · split at h
      · cases h; omega
      · cases h
  · exact key _ _ _ k
/-- Save: the disk, what it keeps as its state, the error's number. -/
def nextSv (s : Sv) (n : Nat) : Sv := ⟨s.seq + 1, if 0 < s.seq then 1 - s.half else 0, n⟩
def Dk.save (d : Dk) (s : Sv) (b : List Int) : Dk × Sv × Option Nat :=
  if d.room < b.length ∨ 4294967295 ≤ s.seq then (d, s, some 6) else
    let n := nextSv s b.length
    let r1 := d.puts (d.first n.half) b
    if r1.2 ≠ none then (r1.1, s, r1.2) else
      let r2 := r1.1.puts 0 (headL n)
      if r2.2 ≠ none then (r2.1, s, r2.2) else
        if s.many = 0 then (r2.1, n, none) else
          let r3 := r2.1.puts (d.first s.half) (List.replicate s.many 0)
          (r3.1, n, r3.2)
/-- Load: the sectors of a half, one behind the other. -/
def Dk.loadTo (d : Dk) (s : Sv) (j : Nat) : List Int := ((List.range j).map fun i => lastV (d.at_ (d.first s.half + i))).flatten
def Dk.loadV (d : Dk) (s : Sv) : List Int := (d.loadTo s (takesN s.many)).take s.many
theorem loadTo_succ (d : Dk) (s : Sv) (j : Nat) : d.loadTo s (j + 1) = d.loadTo s j ++ lastV (d.at_ (d.first s.half + j)) := by
  unfold Dk.loadTo
  rw [List.range_succ, List.map_append, List.flatten_append]
  simp
/-- What the first sector tells. -/
def rawSv (b : List Int) : Sv := ⟨(num4 b 4).toNat, (b.getD 8 0).toNat, (num4 b 9).toNat⟩
def okHead (d : Dk) (s : Sv) (b : List Int) : Prop := b = headL s ∧ s.seq ≠ 0 ∧ s.half ≤ 1 ∧ s.many ≤ d.room
instance (d : Dk) (s : Sv) (b : List Int) : Decidable (okHead d s b) := by unfold okHead; exact inferInstance
def Dk.parse (d : Dk) (b : List Int) : Option Sv := if b = zsec then some ⟨0, 0, 0⟩ else if okHead d (rawSv b) b then some (rawSv b) else none
/-- A sector that is in use is left. -/
def Dk.used (d : Dk) (s : Sv) (i : Nat) : Bool := decide (d.first s.half ≤ i) && decide (i < d.first s.half + takesN s.many)
def Dk.dirty (d : Dk) (s : Sv) (i : Nat) : Bool := decide (1 ≤ i) && !(d.used s i) && (lastV (d.at_ i) != zsec)
def Dk.scrub (d : Dk) (s : Sv) (j : Nat) : Dk := { d with vs := (List.range d.vs.length).map fun i => if decide (i < j) && d.dirty s i then d.at_ i ++ [zsec] else d.at_ i }
def Dk.anyTo (d : Dk) (s : Sv) (j : Nat) : Bool := (List.range j).any (d.dirty s)
def Dk.cleaned (d : Dk) (s : Sv) : Dk := if d.anyTo s d.vs.length = true then (d.scrub s d.vs.length).settle else d
theorem scrub_len (d : Dk) (s : Sv) (j : Nat) : (d.scrub s j).vs.length = d.vs.length := by simp [Dk.scrub]
theorem scrub_at {d : Dk} {s : Sv} {j i : Nat} (h : i < d.vs.length) : (d.scrub s j).at_ i = if decide (i < j) && d.dirty s i then d.at_ i ++ [zsec] else d.at_ i := by
  unfold Dk.scrub
  show List.getD _ i [] = _
  rw [List.getD_eq_getElem?_getD, List.getElem?_map, List.getElem?_range h]
  rfl
theorem vs_ext {a b : List (List (List Int))} (hl : a.length = b.length) (h : ∀ i, i < b.length → a.getD i [] = b.getD i []) : a = b :=
  List.ext_getElem hl (fun i h1 h2 => by
    have := h i h2
    simpa [List.getD, h1, h2] using this)
theorem scrub_zero {d : Dk} {s : Sv} : d.scrub s 1 = d := by
  have h : (d.scrub s 1).vs = d.vs := vs_ext (scrub_len d s 1) (fun i hi => by
    have h1 := scrub_at (d := d) (s := s) (j := 1) hi
    have h2 : (decide (i < 1) && d.dirty s i) = false := by
      unfold Dk.dirty
      by_cases h0 : i = 0
      · subst h0; simp
      · simp; omega
    rw [h2] at h1
    exact h1)
  have : d.scrub s 1 = { d with vs := (d.scrub s 1).vs } := rfl
  rw [this, h]
theorem scrub_same {d : Dk} {s : Sv} {i : Nat} (h : d.dirty s i = false) : d.scrub s (i + 1) = d.scrub s i := by
  have hv : (d.scrub s (i + 1)).vs = (d.scrub s i).vs := vs_ext (by rw [scrub_len, scrub_len]) (fun k hk => by
    rw [scrub_len] at hk
    have h1 := scrub_at (d := d) (s := s) (j := i + 1) hk
    have h2 := scrub_at (d := d) (s := s) (j := i) hk
    have e : (decide (k < i + 1) && d.dirty s k) = (decide (k < i) && d.dirty s k) := by
      by_cases hki : k = i
      · subst hki; rw [h]; simp
      · have : decide (k < i + 1) = decide (k < i) := by simp; omega
        rw [this]
    rw [e, ← h2] at h1
    exact h1)
  have : d.scrub s (i + 1) = { d with vs := (d.scrub s (i + 1)).vs } := rfl
  rw [this, hv]
  rfl
theorem scrub_put {d : Dk} {s : Sv} {i : Nat} (hi : i < d.vs.length) (h : d.dirty s i = true) : (d.scrub s i).put i zsec = d.scrub s (i + 1) := by
  have hv : ((d.scrub s i).put i zsec).vs = (d.scrub s (i + 1)).vs := vs_ext (by show (List.set _ _ _).length = _; rw [List.length_set, scrub_len, scrub_len]) (fun k hk => by
    rw [scrub_len] at hk
    have h1 := scrub_at (d := d) (s := s) (j := i + 1) hk
    have h2 := put_at (d := d.scrub s i) (i := i) (j := k) (b := zsec) (by rw [scrub_len]; exact hi)
    have h3 := scrub_at (d := d) (s := s) (j := i) hi
    have h4 := scrub_at (d := d) (s := s) (j := i) hk
    show ((d.scrub s i).put i zsec).at_ k = (d.scrub s (i + 1)).at_ k
    rw [h2, h1]
    by_cases hki : i = k
    · subst hki
      rw [if_pos rfl, h3, h]
      simp
    · rw [if_neg hki, h4]
      have : decide (k < i + 1) = decide (k < i) := by simp; omega
      rw [this])
  have e1 : (d.scrub s i).put i zsec = { d with vs := ((d.scrub s i).put i zsec).vs } := rfl
  have e2 : d.scrub s (i + 1) = { d with vs := (d.scrub s (i + 1)).vs } := rfl
  rw [e1, e2, hv]
theorem scrub_ok {d : Dk} {m : Nat} (h : d.Ok m) (s : Sv) (j : Nat) : (d.scrub s j).Ok (m + 1) := by
  have key : ∀ l ∈ (d.scrub s j).vs, ∃ i, i < d.vs.length ∧ (l = d.at_ i ∨ l = d.at_ i ++ [zsec]) := fun l hl => by
    obtain ⟨i, hi, rfl⟩ := List.mem_map.1 hl
    refine ⟨i, List.mem_range.1 hi, ?_⟩
    split
    · exact .inr rfl
    · exact .inl rfl
  refine ⟨fun l hl => ?_, fun l hl => ?_, fun l hl b hb => ?_, by rw [scrub_len]; exact h.size, h.left⟩
  · obtain ⟨i, hi, rfl | rfl⟩ := key l hl
    · exact h.some _ (Dk.at_mem hi)
    · simp
  · obtain ⟨i, hi, rfl | rfl⟩ := key l hl
    · have := h.at_ hi; omega
    · have := h.at_ hi; rw [List.length_append, List.length_singleton]; omega
  · obtain ⟨i, hi, rfl | rfl⟩ := key l hl
    · exact h.each _ (Dk.at_mem hi) b hb
    · rcases List.mem_append.1 hb with h1 | h1
      · exact h.each _ (Dk.at_mem hi) b h1
      · rw [List.mem_singleton.1 h1]; exact ⟨zsec_len, zsec_bytes⟩
theorem cleaned_ok {d : Dk} {m : Nat} (h : d.Ok m) (s : Sv) : (d.cleaned s).Ok (m + 1) := by
  unfold Dk.cleaned
  split
  · exact (scrub_ok h s _).settle (by omega)
  · exact h.mono (by omega)
theorem cleaned_len (d : Dk) (s : Sv) : (d.cleaned s).vs.length = d.vs.length := by
  unfold Dk.cleaned
  split
  · show (List.map _ _).length = _
    rw [List.length_map, scrub_len]
  · rfl
theorem anyTo_succ (d : Dk) (s : Sv) (j : Nat) : d.anyTo s (j + 1) = (d.anyTo s j || d.dirty s j) := by
  unfold Dk.anyTo
  rw [List.range_succ, List.any_append]
  simp
end Go.Proofs.YtkefbgkdkmkghaaDoor
