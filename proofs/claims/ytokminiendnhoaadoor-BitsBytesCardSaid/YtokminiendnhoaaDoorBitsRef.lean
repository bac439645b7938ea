/-
  The walks of the document's map (courierref16.Map): the same answers over the same bytes.
-/
import Derived.Test.YtokminiendnhoaaDoorBits
namespace Go.Proofs.YtokminiendnhoaaDoor
open Go.RowKit

/-- The pieces of a map as cells. -/
def refC (n : Nat) (bs : List Int) : List Value := (List.range n).map fun (i : Nat) => Value.bool (hasI n bs (i : Int))
theorem refC_length (n : Nat) (bs : List Int) : (refC n bs).length = n := by simp [refC]
theorem refC_get {n : Nat} {bs : List Int} {i : Nat} (h : i < n) : (refC n bs)[i]? = some (.bool (hasI n bs (i : Int))) := by simp [refC, h]
theorem refC_zero (n m : Nat) : refC n (List.replicate m 0) = List.replicate n (.bool false) := by
  apply List.ext_getElem?
  intro i
  by_cases h : i < n
  · rw [refC_get h]
    have : hasI n (List.replicate m 0) (i : Int) = false := by
      have h0 := countI_zero n m
      unfold countI at h0
      rw [List.countP_eq_zero] at h0
      have := h0 i (by simpa using h)
      simpa using this
    rw [this]
    simp [h]
  · rw [List.getElem?_eq_none (by simp [refC]; omega), List.getElem?_eq_none (by simp; omega)]
theorem refC_set {n : Nat} {bs : List Int} {i : Nat} (hi : i / 8 < bs.length) (hw : ∀ x ∈ bs, 0 ≤ x ∧ x < 256) (hin : i < n) : (refC n bs).set i (.bool true) = refC n (setB bs i) := by
  apply List.ext_getElem?
  intro j
  by_cases h : j < n
  · rw [refC_get h, hasI_set hi hw hin j, List.getElem?_set]
    by_cases e : i = j
    · subst e; simp [refC_length, h]
    · rw [if_neg e, refC_get h]
      simp [show ¬ j = i from fun h => e h.symm]
  · rw [List.getElem?_eq_none (by simp [refC_length]; omega), List.getElem?_eq_none (by simp [refC]; omega)]

/-- The document's map of n pieces at block g, its bools in block b. -/
structure IsRef (w : World) (g b n : Nat) (bs : List Int) : Prop where
  obj : Blk w g [.slice (some ⟨b, 0, none⟩) n n] 37
  arr : Blk w b (refC n bs) 4
  ne : g ≠ b
  most : n ≤ 1000
  len : bs.length = bytesOf n
  wf : ∀ x ∈ bs, 0 ≤ x ∧ x < 256

section
variable {w w' : World} {g b n : Nat} {bs : List Int}
theorem IsRef.keep {S : Nat → Prop} (h : IsRef w g b n bs) (hk : Keeps S w w') (h1 : ¬ S g) (h2 : ¬ S b) : IsRef w' g b n bs :=
  ⟨h.obj.keep hk h1, h.arr.keep hk h2, h.ne, h.most, h.len, h.wf⟩
theorem IsRef.keep0 (h : IsRef w g b n bs) (hk : Keeps Nil w w') : IsRef w' g b n bs := h.keep hk (fun h => h) (fun h => h)
theorem IsRef.drewN (h : IsRef w g b n bs) (m : Nat) : IsRef (w.drewN m) g b n bs := h.keep0 ((Keeps.refl _ _).drewN m)
theorem IsRef.cell0 (h : IsRef w g b n bs) : w.cell? ⟨g, 0, none⟩ = some (.slice (some ⟨b, 0, none⟩) n n) := h.obj.cell 0 rfl
theorem IsRef.bit (h : IsRef w g b n bs) {i : Nat} (hi : i < n) : w.cell? ⟨b, i, none⟩ = some (.bool (hasI n bs (i : Int))) := h.arr.cell i (refC_get hi)
theorem IsRef.setlt (h : IsRef w g b n bs) {i : Nat} (hi : i < n) : i / 8 < bs.length := by
  have := h.len
  unfold bytesOf at this
  omega
end

set_option maxHeartbeats 400000 in
theorem refHas_walk {g b n : Nat} {bs : List Int} (i : Int) (w : World) (h : IsRef w g b n bs) :
    Calls Tryd.prog 26 #[.pointer (some ⟨g, 0, none⟩), .int .i64 i] w fun e w' => e = .returned (.bool (hasI n bs i)) ∧ w = w' := by
  have c0 := h.cell0
  have hm := h.most
  by_cases hi : 0 ≤ i
  · obtain ⟨k, rfl⟩ := Int.eq_ofNat_of_zero_le hi
    by_cases hn : k < n
    · have c2 := h.bit hn
      clear h
      generalize hasI n bs (k : Int) = x at *
      go_enter Tryd.func26, Tryd.ntmps26
      go_wp2
      go_ret
      exact ⟨rfl, rfl⟩
    · have HF : Hid (hasI n bs (k : Int) = false) := by simp [Hid, hasI, hn]
      clear h
      go_enter Tryd.func26, Tryd.ntmps26
      go_wp2
      go_ret
      exact ⟨by rw [HF.out]; rfl, rfl⟩
  · have HF : Hid (hasI n bs i = false) := by simp [Hid, hasI, hi]
    clear h
    go_enter Tryd.func26, Tryd.ntmps26
    go_wp2
    go_ret
    exact ⟨by rw [HF.out]; rfl, rfl⟩

set_option maxHeartbeats 400000 in
theorem refCount_walk {g b n : Nat} {bs : List Int} (w : World) (h : IsRef w g b n bs) :
    Calls Tryd.prog 21 #[.pointer (some ⟨g, 0, none⟩)] w fun e w' => e = .returned (.int .i64 (countI n bs : Nat)) ∧ w = w' := by
  have c0 := h.cell0
  have hm := h.most
  go_enter Tryd.func21, Tryd.ntmps21
  go_wp2
  go_loop [3, 4] (fun k i => ∃ j : Nat, j ≤ n ∧ i = .int .i64 j ∧ k = .int .i64 (((List.range j).countP fun (i : Nat) => hasI n bs (i : Int)) : Nat)) (fun _ i => n - (intOf i).toNat)
  case atStart => exact ⟨0, Nat.zero_le _, rfl, rfl⟩
  case round =>
    obtain ⟨j, hj, rfl, rfl⟩ := hrel
    by_cases hlt : j < n
    · have hc : (List.range j).countP (fun (i : Nat) => hasI n bs (i : Int)) ≤ j := by
        have := List.countP_le_length (p := fun (i : Nat) => hasI n bs (i : Int)) (l := List.range j)
        simpa using this
      have hs : (List.range (j + 1)).countP (fun (i : Nat) => hasI n bs (i : Int)) = (List.range j).countP (fun (i : Nat) => hasI n bs (i : Int)) + if hasI n bs (j : Int) then 1 else 0 := by
        rw [List.range_succ, List.countP_append]
        simp [List.countP_cons]
      have HS := Lib.hid hs
      have c2 := h.bit hlt
      clear hs
      generalize (List.range j).countP (fun (i : Nat) => hasI n bs (i : Int)) = c at *
      go_wp2
      all_goals
        go_round
        case rel => first | exact ⟨j + 1, by omega, by go_num, by rw [HS.out]; simp_all⟩ | ((repeat apply Exists.intro); exact ⟨⟨j + 1, by omega, by go_num, by rw [HS.out]; simp_all⟩, rfl⟩)
        case measure => simp [intOf]; omega
    · obtain rfl : j = n := by omega
      go_wp2
      go_ret
      exact ⟨rfl, rfl⟩

set_option maxHeartbeats 400000 in
theorem refFront_walk {g b n : Nat} {bs : List Int} (w : World) (h : IsRef w g b n bs) :
    Calls Tryd.prog 25 #[.pointer (some ⟨g, 0, none⟩)] w fun e w' => e = .returned (.int .i64 (frontI n bs : Nat)) ∧ w = w' := by
  have c0 := h.cell0
  have hm := h.most
  go_enter Tryd.func25, Tryd.ntmps25
  go_wp2
  go_loop [3] (fun i => ∃ j : Nat, j ≤ n ∧ i = .int .i64 j ∧ Hid (∀ t : Nat, t < j → hasI n bs (t : Int) = true)) (fun i => n - (intOf i).toNat)
  case atStart => exact ⟨0, Nat.zero_le _, rfl, by intro t ht; omega⟩
  case round =>
    obtain ⟨j, hj, rfl, hall⟩ := hrel
    by_cases hlt : j < n
    · have hnext : hasI n bs j = true → Hid (∀ t : Nat, t < j + 1 → hasI n bs (t : Int) = true) := fun hyes t ht => by
        by_cases e : t = j
        · exact e ▸ hyes
        · exact hall.out t (by omega)
      have hfin : hasI n bs j = false → frontI n bs = j := fun hno => frontI_eq hj hall.out hno
      have HO := Lib.hid (And.intro hnext hfin)
      clear hnext hfin
      have c2 := h.bit hlt
      cases hp : hasI n bs j
      · have HF := Lib.hid (HO.out.2 hp)
        rw [hp] at c2
        clear hp
        go_wp2
        go_ret
        exact ⟨by rw [HF.out]; rfl, rfl⟩
      · have HA := HO.out.1 hp
        rw [hp] at c2
        clear hp
        go_wp2
        go_round
        case rel => exact ⟨j + 1, by omega, by go_num, HA⟩
        case measure => simp [intOf]; omega
    · obtain rfl : j = n := by omega
      have HF : Hid (frontI j bs = j) := frontI_eq (Nat.le_refl _) hall.out (by simp [hasI])
      go_wp2
      go_ret
      exact ⟨by rw [HF.out]; rfl, rfl⟩

set_option maxHeartbeats 400000 in
theorem refNext_walk {g b n : Nat} {bs : List Int} (f : Int) (w : World) (h : IsRef w g b n bs) (h1 : -9223372036854775808 ≤ f) (h2 : f ≤ 9223372036854775807) :
    Calls Tryd.prog 23 #[.pointer (some ⟨g, 0, none⟩), .int .i64 f] w fun e w' => e = .returned (.int .i64 (nextI n bs f)) ∧ Drawn w w' := by
  have c0 := h.cell0
  have hm := h.most
  go_enter Tryd.func23, Tryd.ntmps23
  go_wp2
  go_loopw [5] (fun i wr => ∃ j q : Nat, j ≤ n ∧ i = .int .i64 j ∧ wr = w.drewN q ∧ Hid (∀ t, t < j → hasI n bs (placeOf n f t) = true)) (fun i _ => n - (intOf i).toNat)
  case atStart => exact ⟨0, 0, Nat.zero_le _, rfl, rfl, by intro t ht; omega⟩
  case round =>
    obtain ⟨j, q, hj, rfl, rfl, hall⟩ := hrel
    by_cases hlt : j < n
    · have hpl := placeOf_eq n f j (by omega) (by omega)
      have hpb := placeOf_rng n f j (by omega)
      have hN : hasI n bs (placeOf n f j) = false → nextI n bs f = placeOf n f j := fun hno => nextI_found hlt hall.out hno
      have hA : hasI n bs (placeOf n f j) = true → ∀ t, t < j + 1 → hasI n bs (placeOf n f t) = true := fun hyes t ht => by
        by_cases e : t = j
        · exact e ▸ hyes
        · exact hall.out t (by omega)
      have HP := Lib.hid hpl
      have HN := Lib.hid hN
      have HA := Lib.hid hA
      clear hpl hN hA
      go_wp2
      go_quiet (fail)
      rw [HP.out]
      clear HP
      obtain ⟨pl, hpl⟩ : ∃ pl : Nat, placeOf n f j = pl := ⟨(placeOf n f j).toNat, by omega⟩
      rw [hpl] at hpb HN HA ⊢
      clear hpl
      have c2 := h.bit (i := pl) (by omega)
      generalize (if f < 0 then 0 else f) = fm
      cases hp : hasI n bs pl
      · have HN' := Lib.hid (HN.out hp)
        rw [hp] at c2
        clear hp
        go_wp2
        go_ret
        exact ⟨by rw [HN'.out]; rfl, _, rfl⟩
      · have HA' := Lib.hid (HA.out hp)
        rw [hp] at c2
        clear hp
        go_wp2
        go_roundw
        case rel => exact ⟨j + 1, _, by omega, by go_num, rfl, HA'.out⟩
        case measure => simp [intOf]; omega
    · obtain rfl : j = n := by omega
      go_wp2
      go_ret
      exact ⟨by rw [nextI_none hall.out]; rfl, q, rfl⟩

set_option maxHeartbeats 400000 in
theorem refSet_no {g b n : Nat} {bs : List Int} (i : Int) (w : World) (h : IsRef w g b n bs) (hno : i < 0 ∨ (n : Int) ≤ i ∨ hasI n bs i = true) :
    Calls Tryd.prog 20 #[.pointer (some ⟨g, 0, none⟩), .int .i64 i] w fun e w' => e = .returned (.bool false) ∧ w = w' := by
  have c0 := h.cell0
  have hm := h.most
  by_cases hi : i < 0
  · go_enter Tryd.func20, Tryd.ntmps20
    go_wp2
    go_ret
    exact ⟨rfl, rfl⟩
  · obtain ⟨k, rfl⟩ := Int.eq_ofNat_of_zero_le (show 0 ≤ i by omega)
    by_cases hn : n ≤ k
    · go_enter Tryd.func20, Tryd.ntmps20
      go_wp2
      go_ret
      exact ⟨rfl, rfl⟩
    · have hp : hasI n bs k = true := by
        rcases hno with h' | h' | h'
        · omega
        · omega
        · exact h'
      have c2 := h.bit (i := k) (by omega)
      rw [hp] at c2
      clear hno hp
      go_enter Tryd.func20, Tryd.ntmps20
      go_wp2
      go_ret
      exact ⟨rfl, rfl⟩
def RefSetPost (w : World) (g b n : Nat) (bs : List Int) (i : Nat) (e : Ending) (w' : World) : Prop :=
  e = .returned (.bool true) ∧ IsRef w' g b n (setB bs i) ∧ Keeps (One b) w w'
theorem IsRef.put {w : World} {g b n : Nat} {bs : List Int} (h : IsRef w g b n bs) {i : Nat} (hi : i < n) : IsRef (w.setCell ⟨b, i, none⟩ (.bool true)) g b n (setB bs i) := by
  have hw := setB_wf i h.wf
  refine ⟨h.obj.far (p := ⟨b, i, none⟩) h.ne _, ?_, h.ne, h.most, by rw [hw.1]; exact h.len, hw.2⟩
  have := h.arr.set i (.bool true)
  rwa [refC_set (h.setlt hi) h.wf hi] at this
set_option maxHeartbeats 400000 in
theorem refSet_yes {g b n : Nat} {bs : List Int} (i : Nat) (w : World) (h : IsRef w g b n bs) (hi : i < n) (hp : hasI n bs i = false) :
    Calls Tryd.prog 20 #[.pointer (some ⟨g, 0, none⟩), .int .i64 i] w (RefSetPost w g b n bs i) := by
  have c0 := h.cell0
  have hm := h.most
  have c2 := h.bit hi
  have hf := h.arr.frozen i
  rw [hp] at c2
  clear hp
  go_enter Tryd.func20, Tryd.ntmps20
  go_wp2
  go_ret
  exact ⟨rfl, h.put hi, (Keeps.refl _ _).setOne _ _⟩

theorem Tryd.infoB : (Tryd.prog.info? 4).map (fun i => (i.zero, i.size, i.bytes)) = some (some (.bool false), 1, 1) := by kernel_rfl
def RefNewPost (w : World) (n : Nat) (e : Ending) (w' : World) : Prop :=
  ∃ g b, e = .returned (.pointer (some ⟨g, 0, none⟩)) ∧ IsRef w' g b n (List.replicate (bytesOf n) 0) ∧ Keeps Nil w w' ∧ w.heap.size ≤ g ∧ w.heap.size ≤ b
theorem refNew_post (w w1 : World) (k : Nat) (hk : k ≤ 1000) (hb : Blk w1 w.heap.size (List.replicate k (.bool false)) 4) (hk1 : Keeps Nil w w1) : RefNewPost w k (.returned (.pointer (some ⟨w1.heap.size, 0, none⟩)))
    (w1.alloc (.cells #[.slice (some ⟨w.heap.size, 0, none⟩) k k] 37)) := by
  refine ⟨w1.heap.size, w.heap.size, rfl, ⟨Blk.new w1 [.slice (some ⟨w.heap.size, 0, none⟩) k k] _, ?_, ?_, hk, by simp, ?_⟩, hk1.alloc _, hk1.size, Nat.le_refl _⟩
  · rw [refC_zero]; exact hb.alloc _
  · have := hb.lt; omega
  · intro x hx
    obtain ⟨_, rfl⟩ := List.mem_replicate.1 hx
    omega
set_option maxRecDepth 100000 in
set_option maxHeartbeats 400000 in
theorem refNew_walk (n : Int) (w : World) : Calls Tryd.prog 19 #[.int .i64 n] w (RefNewPost w (capN n)) := by
  by_cases hn : n < 0
  · have hc : capN n = 0 := by unfold capN; omega
    rw [hc]
    go_enter Tryd.func19, Tryd.ntmps19
    go_wp2_with (at_make; refine wpl_make rfl _ _ 35 rfl 4 (.bool false) 1 Tryd.underlying35 Tryd.infoB rfl .i64 .i64 0 0 _ _ rfl rfl rfl rfl (by omega) (by omega) (by unfold maxLen; omega) ?_)
    intro w1 _ hb hk1
    go_wp2
    go_ret
    exact refNew_post w w1 0 (by omega) hb hk1
  · by_cases hn2 : 1000 < n
    · have hc : capN n = 1000 := by unfold capN; omega
      rw [hc]
      go_enter Tryd.func19, Tryd.ntmps19
      go_wp2_with (at_make; refine wpl_make rfl _ _ 35 rfl 4 (.bool false) 1 Tryd.underlying35 Tryd.infoB rfl .i64 .i64 1000 1000 _ _ rfl rfl rfl rfl (by omega) (by omega) (by unfold maxLen; omega) ?_)
      intro w1 ho hb hk1
      have HB := Lib.hid hb
      clear ho hb
      go_wp2
      go_ret
      exact refNew_post w w1 1000 (by omega) HB.out hk1
    · obtain ⟨k, rfl⟩ := Int.eq_ofNat_of_zero_le (show 0 ≤ n by omega)
      have hc : capN k = k := by unfold capN; omega
      rw [hc]
      clear hc
      go_enter Tryd.func19, Tryd.ntmps19
      go_wp2_with (at_make; refine wpl_make rfl _ _ 35 rfl 4 (.bool false) 1 Tryd.underlying35 Tryd.infoB rfl .i64 .i64 k k _ _ rfl rfl rfl rfl (by omega) (by omega) (by unfold maxLen; omega) ?_)
      intro w1 _ hb hk1
      go_wp2
      go_ret
      exact refNew_post w w1 k (by omega) hb hk1
set_option maxHeartbeats 800000 in
theorem refBytes2_walk {g b n : Nat} {bs : List Int} (w : World) (h : IsRef w g b n bs) : Calls Tryd.prog 27 #[.pointer (some ⟨g, 0, none⟩)] w fun e w' => FreshB w w' (packTo n bs n) e := by
  have c0 := h.cell0
  have hm := h.most
  have hcast : ((n : Int) + 7) / 8 = ((bytesOf n : Nat) : Int) := by unfold bytesOf; omega
  have hbn : bytesOf n ≤ 126 := by unfold bytesOf; omega
  have HC := Lib.hid hcast
  clear hcast
  have hg := h.obj.lt
  have hb := h.arr.lt
  go_enter Tryd.func27, Tryd.ntmps27
  go_wp2_with (at_make; refine wpl_make rfl _ _ 22 rfl 5 (.int .u8 0) 1 Tryd.underlying22 Tryd.info8 rfl .i64 .i64 (bytesOf n) (bytesOf n) _ _ rfl rfl HC.out HC.out (by omega) (by omega) (by unfold maxLen; omega) ?_)
  intro w1 ho hb1 hk1
  have hd := h.keep0 hk1
  clear ho
  have HB : Hid (Blk w1 w.heap.size (byteV (packTo n bs 0)) 5) := by
    unfold Hid packTo byteV
    simpa using hb1
  have HK := Lib.hid hk1
  clear hb1 hk1 c0 h
  go_wp2
  go_loopw [4] (fun i wr => ∃ (j : Nat), j ≤ n ∧ i = .int .i64 j ∧ Hid (Blk wr w.heap.size (byteV (packTo n bs j)) 5) ∧ IsRef wr g b n bs ∧ Hid (Keeps Nil w wr)) (fun i _ => n - (intOf i).toNat)
  case atStart => exact ⟨0, Nat.zero_le _, rfl, HB.out, hd, HK.out⟩
  case round =>
    obtain ⟨j, hj, rfl, hbl, hd2, hkr⟩ := hrel
    clear hd
    have c0 := hd2.cell0
    by_cases hlt : j < n
    · have c2 := hd2.bit hlt
      cases hp : hasI n bs j
      · have HP : Hid (packTo n bs (j + 1) = packTo n bs j) := by unfold Hid; rw [packTo, hp]; rfl
        rw [hp] at c2
        clear hp
        go_wp2
        go_roundw
        case rel => first | exact ⟨j + 1, by omega, by go_num, by rw [HP.out]; exact hbl.out, hd2, hkr.out⟩ | ((repeat apply Exists.intro); exact ⟨⟨j + 1, by omega, by go_num, by rw [HP.out]; exact hbl.out, hd2, hkr.out⟩, rfl⟩)
        case measure => simp [intOf]; omega
      · have HP : Hid (packTo n bs (j + 1) = setB (packTo n bs j) j) := by unfold Hid; rw [packTo, hp]; rfl
        have hf := packTo_fits n bs j
        have hlj : j / 8 < (packTo n bs j).length := by rw [hf.1]; unfold bytesOf; omega
        have hlj2 : j / 8 < bytesOf n := by unfold bytesOf; omega
        have hcb := hbl.out.cell (j / 8) (v := .int .u8 ((packTo n bs j).getD (j / 8) 0)) (by simp [byteV, List.getElem?_map, List.getD, hlj])
        have hfb := hbl.out.frozen (j / 8)
        have hnew : ∀ v, v = bits .or .u8 ((packTo n bs j).getD (j / 8) 0) (2 ^ (j % 8) % 256) → Blk (wr.setCell ⟨w.heap.size, j / 8, none⟩ (.int .u8 v)) w.heap.size (byteV (packTo n bs (j + 1))) 5 := by
          intro v hv
          have := hbl.out.set (j / 8) (.int .u8 v)
          rw [HP.out]
          unfold setB
          rw [← hv]
          simpa [byteV, List.map_set] using this
        have HN := Lib.hid hnew
        rw [hp] at c2
        clear hp hnew hf hlj
        generalize (packTo n bs j).getD (j / 8) 0 = x at *
        go_wp2
        go_roundw
        case rel =>
          have hd3 := hd2.keep ((Keeps.refl (One w.heap.size) wr).setOne (j / 8) (.int .u8 (bits .or .u8 x (2 ^ (j % 8) % 256)))) (fun e => by rw [show g = w.heap.size from e] at hg; omega) (fun e => by rw [show b = w.heap.size from e] at hb; omega)
          have hk3 := hkr.out.setCell (p := ⟨w.heap.size, j / 8, none⟩) (.inr (Nat.le_refl _)) (.int .u8 (bits .or .u8 x (2 ^ (j % 8) % 256)))
          first | exact ⟨j + 1, by omega, by go_num, HN.out _ rfl, hd3, hk3⟩ | ((repeat apply Exists.intro); exact ⟨⟨j + 1, by omega, by go_num, HN.out _ rfl, hd3, hk3⟩, rfl⟩)
        case measure => simp [intOf]; omega
    · obtain rfl : j = n := by omega
      have hf := packTo_fits j bs j
      go_wp2
      go_ret
      refine ⟨some ⟨w.heap.size, 0, none⟩, bytesOf j, by rw [hf.1]; rfl, ?_, hkr.out, fun k hk => by rw [(blkOf_some _ _ _ _).1 hk]; exact Nat.le_refl _⟩
      refine ⟨by simp [byteV], by rw [hf.1]; exact Nat.le_refl _, by unfold maxLen; omega, .inr ⟨w.heap.size, [], rfl, by rw [List.append_nil]; exact hbl.out, by simp [byteV, hf.1]⟩⟩
end Go.Proofs.YtokminiendnhoaaDoor
