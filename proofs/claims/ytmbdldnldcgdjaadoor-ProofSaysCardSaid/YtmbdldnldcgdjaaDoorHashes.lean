/-
  couriermake's numbers one by one, and digests out of them.
-/
import Derived.Test.YtmbdldnldcgdjaaDoorHs
import Derived.Test.YtmbdldnldcgdjaaDoorNumber
import Derived.Test.YtmbdldnldcgdjaaDoorMake
namespace Go.Proofs.YtmbdldnldcgdjaaDoor
set_option linter.unusedSimpArgs false
set_option linter.unusedVariables false
open Go.RowKit

/-- Numbers that are taken one by one. -/
def SeqAt (w : World) (g : Nat) (a : Option Addr) (n cap : Nat) (l : List Int) (i : Nat) : Prop := Blk w g [.slice a n cap, .int .i64 i] 40 ∧ Row .i64 w a n l ∧ (0 < n → ¬ blkOf a g)
def NextPost (w : World) (g : Nat) (a : Option Addr) (n cap : Nat) (l : List Int) (i : Nat) (b : Int) (e : Ending) (w' : World) : Prop :=
  ∃ v : Nat, e = .returned (.int .i64 v) ∧ (v : Int) < b ∧ SeqAt w' g a n cap l (i + 1) ∧ Keeps (One g) w w'
theorem SeqAt.next {w : World} {g : Nat} {a : Option Addr} {n cap : Nat} {l : List Int} {i : Nat} (h : SeqAt w g a n cap l i) :
    SeqAt (w.setCell ⟨g, 1, none⟩ (.int .i64 ((i : Int) + 1))) g a n cap l (i + 1) ∧ Keeps (One g) w (w.setCell ⟨g, 1, none⟩ (.int .i64 ((i : Int) + 1))) := by
  have hk := (Keeps.refl (One g) w).setOne 1 (.int .i64 ((i : Int) + 1))
  exact ⟨⟨h.1.set 1 _, h.2.1.keepF hk (fun h0 b hb e => h.2.2 h0 (by rw [← show b = g from e]; exact hb)), h.2.2⟩, hk⟩
theorem SeqAt.keep0 {w w' : World} {g : Nat} {a : Option Addr} {n cap : Nat} {l : List Int} {i : Nat} (h : SeqAt w g a n cap l i) (hk : Keeps Nil w w') : SeqAt w' g a n cap l i := ⟨h.1.keep0 hk, h.2.1.keep hk, h.2.2⟩
set_option maxHeartbeats 1600000 in
theorem next_walk {w : World} {g : Nat} {a : Option Addr} {n cap : Nat} {l : List Int} {i : Nat} (h : SeqAt w g a n cap l i) (hi : i ≤ 1000000) (b : Int) (hb1 : 1 ≤ b) (hb2 : b ≤ 1000000) :
    Calls Tryd.prog 24 #[.pointer (some ⟨g, 0, none⟩), .int .i64 b] w (NextPost w g a n cap l i b) := by
  have c0 := h.1.cell 0 (v := .slice a n cap) rfl
  have c1 := h.1.cell 1 (v := .int .i64 i) rfl
  have HH := Lib.hid h
  by_cases hlt : i < n
  · obtain ⟨bb, off, ha, hbb, hc⟩ := h.2.1.cell (by omega)
    subst ha
    have cx := hc i hlt
    have hx := i64_wf (h.2.1.wf _ (h.2.1.at_ hlt))
    have e1 : (i : Int) < n := by omega
    have e0 : (0 : Int) ≤ i := by omega
    clear hc h
    generalize l.getD i 0 = x at *
    go_enter Tryd.func24, Tryd.ntmps24
    go_wp2_with fail
    go_quiet (fail)
    have HW := Lib.hid ((Keeps.refl Nil w).drewN nq)
    have d0 : (w.drewN nq).cell? ⟨g, 0, none⟩ = some (.slice (some ⟨bb, off, none⟩) n cap) := c0
    have d1 : (w.drewN nq).cell? ⟨g, 1, none⟩ = some (.int .i64 i) := c1
    have dx : (w.drewN nq).cell? ⟨bb, off + i, none⟩ = some (.int .i64 x) := cx
    clear c0 c1 cx
    generalize w.drewN nq = v1 at *
    go_wp2_with fail
    go_quiet (fail)
    replace HW := Lib.hid (HW.out.drewN nq)
    clear d0 d1 dx
    generalize v1.drewN nq = v2 at *
    -- at a world v2 with HW : Keeps Nil w v2; c1 the cell of the place
    have hn1 := (HH.out.keep0 HW.out).next
    have hs1 : v2.cell? ⟨g, 1, none⟩ = some (.int .i64 i) := (HH.out.keep0 HW.out).1.cell 1 rfl
    have hz1 := (HH.out.keep0 HW.out).1.frozen 1
    have HNX := Lib.hid hn1
    have hsmall : (i : Int) ≤ 1000000 := by omega
    have hnn : (0 : Int) ≤ i := by omega
    clear hn1
    go_wp2_with fail
    refine (number_walk x b _ hx.1 hx.2 hb1 (by omega)).mono ?_
    rintro e w5 ⟨rfl, rfl⟩
    go_wp2_with fail
    go_ret
    refine ⟨(x % b).toNat, by rw [Int.toNat_of_nonneg (Int.emod_nonneg _ (by omega))]; rfl, ?_, HNX.out.1, (HW.out.nil).trans HNX.out.2⟩
    rw [Int.toNat_of_nonneg (Int.emod_nonneg _ (by omega))]
    exact Int.emod_lt_of_pos _ (by omega)
  · have e1 : ¬ (i : Int) < n := by omega
    clear h
    go_enter Tryd.func24, Tryd.ntmps24
    go_wp2_with fail
    go_quiet (fail)
    have HW := Lib.hid ((Keeps.refl Nil w).drewN nq)
    clear c0 c1
    generalize w.drewN nq = v1 at *
    -- at a world v1 with HW : Keeps Nil w v1; c1 the cell of the place
    have hn1 := (HH.out.keep0 HW.out).next
    have hs1 : v1.cell? ⟨g, 1, none⟩ = some (.int .i64 i) := (HH.out.keep0 HW.out).1.cell 1 rfl
    have hz1 := (HH.out.keep0 HW.out).1.frozen 1
    have HNX := Lib.hid hn1
    have hsmall : (i : Int) ≤ 1000000 := by omega
    have hnn : (0 : Int) ≤ i := by omega
    clear hn1
    go_wp2_with fail
    refine (number_walk 0 b _ (by omega) (by omega) hb1 (by omega)).mono ?_
    rintro e w5 ⟨rfl, rfl⟩
    go_wp2_with fail
    go_ret
    exact ⟨0, by first | rfl | (rw [Int.zero_emod]; rfl), by omega, HNX.out.1, (HW.out.nil).trans HNX.out.2⟩
/-- Digests that were made, in a slice of its own. -/
def MadeH (w w' : World) (S : Nat → Prop) (most : Nat) (e : Ending) : Prop :=
  ∃ (a : Option Addr) (cap : Nat) (L : List (List Int)), e = .returned (.slice a L.length cap) ∧ Own w' 26 32 a cap L.length (byteV L.flatten) ∧ AreH L ∧ L.length ≤ most ∧ Keeps S w w' ∧ (∀ k, blkOf a k → w.heap.size ≤ k)
theorem Tryd.infoHh : (Tryd.prog.info? 26).map (fun i => (i.zero.map (·.cells.size), i.size, i.bytes)) = some (some 32, 32, 32) := by kernel_rfl
theorem Tryd.infoHh2 : (Tryd.prog.info? 26).map (fun i => (i.zero.map (·.cells.size), i.size)) = some (some 32, 32) := by kernel_rfl
theorem src_hash {w : World} {g : Nat} {x : List Int} {T : TypeId} (h : Blk w g (byteV x) T) (hx : x.length = 32) : Src w (some ⟨g, 0, none⟩) 1 1 32 (byteV x) :=
  ⟨by simp [byteV, hx], fun u hu => by obtain ⟨y, _, rfl⟩ := List.mem_map.1 hu; rfl, .inr ⟨_, rfl, fun j u hu => by rw [Addr.add_lit]; simpa using h.cell j hu⟩⟩
set_option maxRecDepth 20000 in
set_option maxHeartbeats 1600000 in
theorem hashes_walk {w : World} {g : Nat} {a : Option Addr} {n cap : Nat} {l : List Int} {i : Nat} (h : SeqAt w g a n cap l i) (hi : i = 0) (most : Nat) (hm : most ≤ 1000) :
    Calls Tryd.prog 13 #[.pointer (some ⟨g, 0, none⟩), .int .i64 most] w fun e w' => MadeH w w' (One g) most e := by
  have HG := Lib.hid h.1.lt
  have HB : Hid (0 < n → ∀ b, blkOf a b → b < w.heap.size) := Lib.hid (fun h0 b hb => by
    obtain ⟨bb, off, ha, hbb, _⟩ := h.2.1.cell h0
    rw [ha] at hb
    rw [(blkOf_some _ _ _ _).1 hb]; exact hbb)
  have HN := Lib.hid (next_walk h (by omega) ((most : Int) + 1) (by omega) (by omega))
  clear h
  have hm0 : (0 : Int) ≤ most := by omega
  have hm1 : (most : Int) ≤ 1000 := by omega
  go_enter Tryd.func13, Tryd.ntmps13
  go_wp2_with fail
  refine HN.out.mono ?_
  rintro e w1 ⟨v, rfl, hv, hs1, hk1⟩
  have HS := Lib.hid hs1
  have HK := Lib.hid hk1
  clear hs1 hk1 HN
  go_wp2_with fail
  go_loopw [5, 6] (fun o x wr => ∃ (ah : Option Addr) (ch : Nat) (L : List (List Int)) (j at_ : Nat), o = .slice ah L.length ch ∧ x = .int .i64 j ∧ L.length + j ≤ most ∧ at_ + j ≤ 2000 ∧ Hid (Own wr 26 32 ah ch L.length (byteV L.flatten)) ∧ Hid (AreH L) ∧ Hid (SeqAt wr g a n cap l at_) ∧ Hid (Keeps (One g) w wr) ∧ Hid (∀ k, blkOf ah k → w.heap.size ≤ k)) (fun _ x _ => (intOf x).toNat)
  case atStart => exact ⟨none, 0, [], v, i + 1, rfl, rfl, by simp; omega, by omega, Lib.hid (Own.nil _ _ _), Lib.hid (fun _ hx => nomatch hx), HS, HK, Lib.hid (fun k hk => (blkOf_none k hk).elim)⟩
  case round =>
    obtain ⟨ah, ch, L, j, at_, rfl, rfl, hlj, haj, hO, hA, hSq, hkr, hf⟩ := hrel
    by_cases hj : j = 0
    · subst hj
      go_wp2_with fail
      go_ret
      exact ⟨ah, ch, L, rfl, hO.out, hA.out, by omega, hkr.out, hf.out⟩
    · have hj0 : (0 : Int) < j := by omega
      have hj1 : (j : Int) ≤ 1000 := by omega
      have HN := Lib.hid (next_walk hSq.out (by omega) 5000 (by omega) (by omega))
      go_wp2_with fail
      refine HN.out.mono ?_
      rintro e w2 ⟨x, rfl, hx, hs2, hk2⟩
      have HS2 := Lib.hid hs2
      have HK2 := Lib.hid hk2
      clear hs2 hk2 HN
      have HKY := Lib.hid (key_walk (x : Int) w2 (by omega) (by omega))
      go_wp2_with fail
      refine HKY.out.mono ?_
      rintro e w3 ⟨rfl, hk3⟩
      have hX1 := keyOf_len (x : Int)
      have hX2 := keyOf_bytes (x : Int)
      unfold keyV
      generalize keyOf (x : Int) = X at *
      have hXl : (byteV X).length = 32 := by simp [byteV, hX1]
      have hX := Lib.hid (And.intro hX1 hX2)
      have hb := Blk.new w3 (byteV X) 26
      have hka := (Keeps.refl Nil w3).alloc (.cells (byteV X).toArray 26)
      have hne : ∀ k, blkOf ah k → ¬ One g k := fun k hk e => by have h1 := hf.out k hk; have h2 := HG.out; rw [show k = g from e] at h1; omega
      have hO4 := ((hO.out.keep HK2.out hne).keep0 hk3).keep0 hka
      have hsrc := src_hash hb hX1
      have hK4 := ((hkr.out.trans HK2.out).trans hk3.nil).trans (hka.nil (S := One g))
      have hS4 := (HS2.out.keep0 hk3).keep0 hka
      have hS := Lib.hid (And.intro hK4 hS4)
      clear hK4 hS4 hX1 hX2 hk3 HKY hb hka hne
      go_wp2_with (first | (refine wpl_bsOne rfl 24 26 _ rfl (byteV X) (.agg (byteV X).toArray) rfl 32 Tryd.underlying24 Tryd.infoHh2 (by omega) (by omega) hXl (by simp [Act.eval]) ?_) | (at_builtin; go_must (refine wpl_append rfl _ _ 24 rfl 26 32 32 Tryd.underlying24 Tryd.infoHh (by omega) ah ch L.length _ rfl hO4 (some ⟨w3.heap.size, 0, none⟩) 1 1 (byteV X) rfl hsrc (by unfold maxLen; omega) (by omega) ?_)))
      intro a5 c5 w5 hO5 hk5 hf5 _
      have hgl := hS.out.2.1.lt
      have hwl := hS.out.1.size
      have hK5 : Keeps (One g) w w5 := hS.out.1.step hk5 (fun k hk => .inr (hf.out k hk))
      have hS5 : SeqAt w5 g a n cap l (at_ + 1) := by
        have hh := hS.out.2
        have hgk : ¬ blkOf ah g := fun e => by have h1 := hf.out g e; have h2 := HG.out; omega
        refine ⟨hh.1.keep hk5 hgk, hh.2.1.keepF hk5 (fun h0 b hb e => ?_), hh.2.2⟩
        have h1 := hf.out b e
        have h2 := HB.out h0 b hb
        omega
      have hO6 : Own w5 26 32 a5 c5 (L ++ [X]).length (byteV (L ++ [X]).flatten) := by
        rw [List.length_append, List.flatten_append, show [X].flatten = X by simp, show byteV (L.flatten ++ X) = byteV L.flatten ++ byteV X from List.map_append]
        exact hO5
      have hA6 : AreH (L ++ [X]) := hA.out.append (fun y hy => by rw [List.mem_singleton.1 hy]; exact hX.out)
      have hf6 : ∀ k, blkOf a5 k → w.heap.size ≤ k := fun k hk => by
        rcases hf5 k hk with h1 | h1
        · exact hf.out k h1
        · rw [h1]; first | exact hwl | (rw [size_alloc'] at hwl; omega)
      have HE := Lib.hid (And.intro hO6 (And.intro hA6 (And.intro hf6 (And.intro hK5 hS5))))
      clear hO5 hk5 hf5 hgl hwl hK5 hS5 hO6 hA6 hf6 hO4 hsrc hXl
      have hj2 : ((j : Int) - 1) = ((j - 1 : Nat) : Int) := by omega
      have HJ := Lib.hid hj2
      clear hj2
      go_wp2_with fail
      exact ⟨⟨a5, c5, L ++ [X], j - 1, at_ + 1, by simp, by rw [HJ.out], by simp; omega, by omega, Lib.hid HE.out.1, Lib.hid HE.out.2.1, Lib.hid HE.out.2.2.2.2, Lib.hid HE.out.2.2.2.1, Lib.hid HE.out.2.2.1⟩, by simp [intOf]; omega⟩
end Go.Proofs.YtmbdldnldcgdjaaDoor
