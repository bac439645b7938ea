/-
  Slices of digests: 32 cells each. No program in sight.
-/
import Derived.Test.YtmbdldnldcgdjaaDoorTreePlain
namespace Go.Proofs.YtmbdldnldcgdjaaDoor
set_option linter.unusedSimpArgs false
set_option linter.unusedVariables false
open Go.RowKit

theorem flat_len : ∀ {l : List (List Int)}, AreH l → l.flatten.length = l.length * 32
  | [], _ => rfl
  | x :: l, h => by
    have h1 := (h x (List.mem_cons_self ..)).1
    have h2 := flat_len (l := l) (fun y hy => h y (List.mem_cons_of_mem _ hy))
    rw [List.flatten_cons, List.length_append, h1, h2, List.length_cons]; omega
theorem flat_at : ∀ {l : List (List Int)}, AreH l → ∀ i j, j < 32 → l.flatten[i * 32 + j]? = (l.getD i [])[j]?
  | [], _, i, j, _ => by simp
  | x :: l, h, i, j, hj => by
    have h1 := (h x (List.mem_cons_self ..)).1
    have h2 := flat_at (l := l) (fun y hy => h y (List.mem_cons_of_mem _ hy))
    rw [List.flatten_cons]
    cases i with
    | zero =>
      rw [List.getElem?_append_left (by omega)]
      simp
    | succ i =>
      rw [List.getElem?_append_right (by omega), h1, show (i + 1) * 32 + j - 32 = i * 32 + j by omega, h2 i j hj]
      simp
theorem areB_flat {l : List (List Int)} (h : AreH l) : AreB l.flatten := fun x hx => by
  obtain ⟨y, hy, hxy⟩ := List.mem_flatten.1 hx
  exact (h y hy).2 x hxy
/-- Digests that lie where an address leads. -/
structure Hs (w : World) (a : Option Addr) (l : List (List Int)) : Prop where
  are : AreH l
  most : l.length ≤ 1000000
  rng : 0 < l.length → ∃ b off, a = some ⟨b, off, none⟩ ∧ b < w.heap.size ∧ ∀ i, i < l.length → w.rangeAt b (off + i * 32) (byteV (l.getD i []))
theorem rangeAt_keep {S : Nat → Prop} {w w' : World} {b o : Nat} {cs : List Value} (h : w.rangeAt b o cs) (hk : Keeps S w w') (hn : ¬ S b) : w'.rangeAt b o cs := fun j v hv => hk.cell (h j v hv) hn
theorem Hs.keep {S : Nat → Prop} {w w' : World} {a : Option Addr} {l : List (List Int)} (h : Hs w a l) (hk : Keeps S w w') (hn : ∀ k, blkOf a k → ¬ S k) : Hs w' a l :=
  ⟨h.are, h.most, fun h0 => by
    obtain ⟨b, off, ha, hb, hr⟩ := h.rng h0
    exact ⟨b, off, ha, Nat.lt_of_lt_of_le hb hk.size, fun i hi => rangeAt_keep (hr i hi) hk (hn b ⟨_, ha, rfl⟩)⟩⟩
theorem Hs.keep0 {w w' : World} {a : Option Addr} {l : List (List Int)} (h : Hs w a l) (hk : Keeps Nil w w') : Hs w' a l := h.keep hk (fun _ _ h => h)
theorem Hs.none (w : World) (a : Option Addr) : Hs w a [] := ⟨(fun _ hx => nomatch hx), Nat.zero_le _, fun h => absurd h (Nat.lt_irrefl 0)⟩
theorem Hs.take {w : World} {a : Option Addr} {l : List (List Int)} (h : Hs w a l) (m : Nat) : Hs w a (l.take m) :=
  ⟨h.are.take m, by have := h.most; rw [List.length_take]; omega, fun h0 => by
    rw [List.length_take] at h0
    obtain ⟨b, off, ha, hb, hr⟩ := h.rng (by omega)
    refine ⟨b, off, ha, hb, fun i hi => ?_⟩
    rw [List.length_take] at hi
    have := hr i (by omega)
    rwa [show (l.take m).getD i [] = l.getD i [] by simp [List.getD, List.getElem?_take, show i < m by omega]]⟩
theorem Hs.drop {w : World} {ad : Addr} {l : List (List Int)} (h : Hs w (some ad) l) (m : Nat) : Hs w (some (ad.add (m * 32))) (l.drop m) :=
  ⟨h.are.drop m, by have := h.most; rw [List.length_drop]; omega, fun h0 => by
    rw [List.length_drop] at h0
    obtain ⟨b, off, ha, hb, hr⟩ := h.rng (by omega)
    cases ha
    refine ⟨b, off + m * 32, by rw [Addr.add_lit], hb, fun i hi => ?_⟩
    rw [List.length_drop] at hi
    have := hr (m + i) (by omega)
    rwa [show (l.drop m).getD i [] = l.getD (m + i) [] by simp [List.getD], show off + m * 32 + i * 32 = off + (m + i) * 32 by omega]⟩
theorem Hs.blk {w : World} {g : Nat} {l : List (List Int)} {sp : List Value} {T : TypeId} (h : Blk w g (byteV l.flatten ++ sp) T) (hl : AreH l) (hm : l.length ≤ 1000000) : Hs w (some ⟨g, 0, .none⟩) l :=
  ⟨hl, hm, fun _ => ⟨g, 0, rfl, h.lt, fun i hi j v hv => by
    rw [Nat.zero_add]
    have h32 := (hl.at_ hi).1
    have hj : j < 32 := by have := (List.getElem?_eq_some_iff.1 hv).1; simp [byteV] at this; rw [List.getD_eq_getElem?_getD] at h32; omega
    refine h.cell (i * 32 + j) ?_
    have hf := flat_len hl
    rw [List.getElem?_append_left (by simp only [byteV, List.length_map]; omega)]
    rw [byteV, List.getElem?_map, flat_at hl i j hj, ← List.getElem?_map]
    exact hv⟩⟩
theorem Hs.own {w : World} {e : TypeId} {a : Option Addr} {cap n : Nat} {l : List (List Int)} (h : Own w e 32 a cap n (byteV l.flatten)) (hl : AreH l) (hm : l.length ≤ 1000000) : Hs w a l := by
  obtain ⟨h1, _, _, h4⟩ := h
  rcases h4 with ⟨rfl, hn, _⟩ | ⟨g, sp, rfl, hb, _⟩
  · have : l = [] := by
      have h2 := flat_len hl
      simp only [byteV, List.length_map] at h1
      exact List.eq_nil_of_length_eq_zero (by omega)
    subst this
    exact Hs.none _ _
  · exact Hs.blk hb hl hm
/-- Its cells, one behind the other. -/
theorem Hs.src {w : World} {a : Option Addr} {l : List (List Int)} {c : Nat} (h : Hs w a l) (hc : a = Option.none → c = 0) : Src w a l.length c 32 (byteV l.flatten) := by
  have hf := flat_len h.are
  refine ⟨by simp only [byteV, List.length_map]; exact hf, fun u hu => by obtain ⟨x, _, rfl⟩ := List.mem_map.1 hu; rfl, ?_⟩
  by_cases h0 : 0 < l.length
  · obtain ⟨b, off, ha, hb, hr⟩ := h.rng h0
    subst ha
    refine .inr ⟨_, rfl, fun j u hu => ?_⟩
    have hj : j < l.length * 32 := by have := (List.getElem?_eq_some_iff.1 hu).1; simp only [byteV, List.length_map] at this; omega
    have h1 := flat_at h.are (j / 32) (j % 32) (by omega)
    rw [show j / 32 * 32 + j % 32 = j by omega] at h1
    have h2 := hr (j / 32) (by omega) (j % 32) u (by
      rw [byteV, List.getElem?_map, ← h1, ← List.getElem?_map]
      exact hu)
    rw [show off + j / 32 * 32 + j % 32 = off + j by omega] at h2
    rw [Addr.add_lit]
    exact h2
  · have hl : l = [] := List.eq_nil_of_length_eq_zero (by omega)
    subst hl
    cases a with
    | none => exact .inl ⟨rfl, rfl, hc rfl⟩
    | some ad => exact .inr ⟨ad, rfl, fun j u hu => by simp [byteV] at hu⟩
end Go.Proofs.YtmbdldnldcgdjaaDoor
