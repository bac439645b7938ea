/-
  The walks of package bits (New, Has, Set, Count, Next, Front), each a contract over the bytes of the map.
-/
import Derived.Test.YtokminiendnhoaaProg
import Derived.Test.YtokminiendnhoaaBitsPlain
namespace Go.Proofs.Ytokminiendnhoaa
open Go.RowKit

def u8s (bs : List Int) : List Value := bs.map (Value.int .u8)
/-- A map of n pieces at block g, its bytes in block b. -/
structure IsMap (w : World) (g b : Nat) (n : Nat) (bs : List Int) : Prop where
  obj : Blk w g [.int .i64 n, .slice (some ⟨b, 0, none⟩) bs.length bs.length] 59
  arr : Blk w b (u8s bs) 5
  ne : g ≠ b
  most : n ≤ 1000
  len : bs.length = bytesOf n
  wf : ∀ x ∈ bs, 0 ≤ x ∧ x < 256

theorem IsMap.keep {w w' : World} {g b n : Nat} {bs : List Int} {S : Nat → Prop} (h : IsMap w g b n bs) (hk : Keeps S w w') (h1 : ¬ S g) (h2 : ¬ S b) : IsMap w' g b n bs :=
  ⟨h.obj.keep hk h1, h.arr.keep hk h2, h.ne, h.most, h.len, h.wf⟩
theorem IsMap.drewN {w : World} {g b n : Nat} {bs : List Int} (h : IsMap w g b n bs) (m : Nat) : IsMap (w.drewN m) g b n bs := ⟨h.obj, h.arr, h.ne, h.most, h.len, h.wf⟩

theorem IsMap.cell0 {w : World} {g b n : Nat} {bs : List Int} (h : IsMap w g b n bs) : w.cell? ⟨g, 0, none⟩ = some (.int .i64 n) := h.obj.cell 0 rfl
theorem IsMap.cell1 {w : World} {g b n : Nat} {bs : List Int} (h : IsMap w g b n bs) : w.cell? ⟨g, 1, none⟩ = some (.slice (some ⟨b, 0, none⟩) bs.length bs.length) := h.obj.cell 1 rfl
theorem IsMap.byte {w : World} {g b n : Nat} {bs : List Int} (h : IsMap w g b n bs) {i : Nat} (hi : i < n) : w.cell? ⟨b, i / 8, none⟩ = some (.int .u8 (bs.getD (i / 8) 0)) := by
  have hl := h.len
  unfold bytesOf at hl
  have hlt : i / 8 < bs.length := by omega
  refine h.arr.cell (i / 8) ?_
  simp [u8s, List.getElem?_map, List.getD, hlt]
theorem IsMap.rng {w : World} {g b n : Nat} {bs : List Int} (h : IsMap w g b n bs) (i : Nat) : 0 ≤ bs.getD i 0 ∧ bs.getD i 0 < 256 := by
  by_cases hi : i < bs.length
  · have := h.wf (bs.getD i 0) (by simp [List.getD, hi])
    exact this
  · simp [List.getD, hi]

theorem and1 (x : Int) (h0 : 0 ≤ x) (h1 : x < 256) : bits .and .u8 x 1 = x % 2 := by
  rw [u8_and x 1 h0 h1 (by omega) (by omega)]
  have : x.toNat &&& (1 : Int).toNat = x.toNat % 2 := nat_mask1 _
  rw [this]
  omega

set_option maxHeartbeats 400000 in
theorem has_any {g b n : Nat} {bs : List Int} (i : Int) (w : World) (h : IsMap w g b n bs) (h1 : -9223372036854775808 ≤ i) (h2 : i ≤ 9223372036854775807) :
    Calls Try.prog 12 #[.pointer (some ⟨g, 0, none⟩), .int .i64 i] w fun e w' => e = .returned (.bool (hasI n bs i)) ∧ w = w' := by
  have c0 := h.cell0
  have c1 := h.cell1
  have hl := h.len
  have hm := h.most
  unfold bytesOf at hl
  by_cases hi : 0 ≤ i
  · obtain ⟨k, rfl⟩ := Int.eq_ofNat_of_zero_le hi
    by_cases hn : k < n
    · have c2 := h.byte hn
      have hr := h.rng (k / 8)
      have hlt : k / 8 < bs.length := by omega
      have hfin : hasI n bs (k : Int) = (bits .and .u8 (bs.getD (k / 8) 0 / 2 ^ (k % 8)) 1 == 1) := by
        have hp : (0 : Int) < 2 ^ (k % 8) := Int.pow_pos (by omega)
        rw [and1 _ (Int.ediv_nonneg hr.1 (by omega)) (Int.lt_of_le_of_lt (Int.ediv_le_self _ hr.1) hr.2)]
        simp [hasI, hasB, hn]
      have HF := Lib.hid hfin
      clear hfin hl h h1 h2 hr
      generalize bs.length = L at *
      generalize bs.getD (k / 8) 0 = x at *
      go_enter Try.func12, Try.ntmps12
      go_wp2
      go_ret
      refine ⟨?_, rfl⟩
      rw [HF.out]
      rfl
    · have hfin : hasI n bs (k : Int) = false := by simp [hasI, hn]
      have HF := Lib.hid hfin
      clear hfin h
      go_enter Try.func12, Try.ntmps12
      go_wp2
      go_ret
      exact ⟨by rw [HF.out]; rfl, rfl⟩
  · have hfin : hasI n bs i = false := by simp [hasI, hi]
    have HF := Lib.hid hfin
    clear hfin h
    go_enter Try.func12, Try.ntmps12
    go_wp2
    go_ret
    exact ⟨by rw [HF.out]; rfl, rfl⟩


set_option maxHeartbeats 400000 in
theorem count_walk {g b n : Nat} {bs : List Int} (w : World) (h : IsMap w g b n bs) :
    Calls Try.prog 14 #[.pointer (some ⟨g, 0, none⟩)] w fun e w' => e = .returned (.int .i64 (countI n bs : Nat)) ∧ w = w' := by
  have c0 := h.cell0
  have hm := h.most
  go_enter Try.func14, Try.ntmps14
  go_wp2
  go_loop [3, 9] (fun k i => ∃ j : Nat, j ≤ n ∧ i = .int .i64 j ∧ k = .int .i64 (((List.range j).countP fun (i : Nat) => hasI n bs (i : Int)) : Nat)) (fun _ i => n - (intOf i).toNat)
  case atStart => exact ⟨0, Nat.zero_le _, rfl, rfl⟩
  case round =>
    obtain ⟨j, hj, rfl, rfl⟩ := hrel
    by_cases hlt : j < n
    · have hc : (List.range j).countP (fun (i : Nat) => hasI n bs (i : Int)) ≤ j := by
        have := List.countP_le_length (p := fun (i : Nat) => hasI n bs (i : Int)) (l := List.range j)
        simpa using this
      have hs : (List.range (j + 1)).countP (fun (i : Nat) => hasI n bs (i : Int)) = (List.range j).countP (fun (i : Nat) => hasI n bs (i : Int)) + if hasI n bs (j : Int) then 1 else 0 := by
        rw [List.range_succ, List.countP_append]
        simp [List.countP_cons]
      have HS := Lib.hid hs
      clear hs
      generalize (List.range j).countP (fun (i : Nat) => hasI n bs (i : Int)) = c at *
      go_wp2_with (go_at_call 12; refine (has_any _ _ h (by omega) (by omega)).mono ?_; rintro e w' ⟨rfl, rfl⟩)
      all_goals
        go_round
        case rel => exact ⟨j + 1, by omega, by go_num, by rw [HS.out]; simp_all⟩
        case measure => simp [intOf]; omega
    · obtain rfl : j = n := by omega
      go_wp2
      go_ret
      exact ⟨rfl, rfl⟩


def Drawn (w w' : World) : Prop := ∃ q, w.drewN q = w'

set_option maxHeartbeats 400000 in
theorem next_walk {g b n : Nat} {bs : List Int} (f : Int) (w : World) (h : IsMap w g b n bs) (h1 : -9223372036854775808 ≤ f) (h2 : f ≤ 9223372036854775807) :
    Calls Try.prog 11 #[.pointer (some ⟨g, 0, none⟩), .int .i64 f] w fun e w' => e = .returned (.int .i64 (nextI n bs f)) ∧ Drawn w w' := by
  have c0 := h.cell0
  have hm := h.most
  go_enter Try.func11, Try.ntmps11
  go_wp2
  go_loopw [11] (fun i wr => ∃ j q : Nat, j ≤ n ∧ i = .int .i64 j ∧ wr = w.drewN q ∧ Hid (∀ t, t < j → hasI n bs (placeOf n f t) = true)) (fun i _ => n - (intOf i).toNat)
  case atStart => exact ⟨0, 0, Nat.zero_le _, rfl, rfl, by intro t ht; omega⟩
  case round =>
    obtain ⟨j, q, hj, rfl, rfl, hall⟩ := hrel
    by_cases hlt : j < n
    · have hpl := placeOf_eq n f j (by omega) (by omega)
      have hpb := placeOf_rng n f j (by omega)
      have hN : hasI n bs (placeOf n f j) = false → nextI n bs f = placeOf n f j := fun hno => nextI_found hlt hall.out hno
      have hA : hasI n bs (placeOf n f j) = true → ∀ t, t < j + 1 → hasI n bs (placeOf n f t) = true := fun hyes t ht => by
        by_cases e : t = j
        · exact e ▸ hyes
        · exact hall.out t (by omega)
      have HP := Lib.hid hpl
      have HN := Lib.hid hN
      have HA := Lib.hid hA
      clear hpl hN hA
      go_wp2
      go_quiet (fail)
      rw [HP.out]
      clear HP
      generalize placeOf n f j = pl at *
      generalize (if f < 0 then 0 else f) = fm
      cases hp : hasI n bs pl
      · have HN' := Lib.hid (HN.out hp)
        go_wp2_with (go_at_call 12; refine (has_any _ _ (h.drewN _) (by omega) (by omega)).mono ?_; rintro e w' ⟨rfl, rfl⟩)
        go_ret
        exact ⟨by rw [HN'.out]; rfl, _, rfl⟩
      · have HA' := Lib.hid (HA.out hp)
        go_wp2_with (go_at_call 12; refine (has_any _ _ (h.drewN _) (by omega) (by omega)).mono ?_; rintro e w' ⟨rfl, rfl⟩)
        go_roundw
        case rel => exact ⟨j + 1, _, by omega, by go_num, rfl, HA'.out⟩
        case measure => simp [intOf]; omega
    · obtain rfl : j = n := by omega
      go_wp2
      go_ret
      exact ⟨by rw [nextI_none hall.out]; rfl, q, rfl⟩


set_option maxHeartbeats 400000 in
theorem front_walk {g b n : Nat} {bs : List Int} (w : World) (h : IsMap w g b n bs) :
    Calls Try.prog 15 #[.pointer (some ⟨g, 0, none⟩)] w fun e w' => e = .returned (.int .i64 (frontI n bs : Nat)) ∧ w = w' := by
  have hm := h.most
  go_enter Try.func15, Try.ntmps15
  go_wp2
  go_loop [3] (fun i => ∃ j : Nat, j ≤ n ∧ i = .int .i64 j ∧ Hid (∀ t : Nat, t < j → hasI n bs (t : Int) = true)) (fun i => n - (intOf i).toNat)
  case atStart => exact ⟨0, Nat.zero_le _, rfl, by intro t ht; omega⟩
  case round =>
    obtain ⟨j, hj, rfl, hall⟩ := hrel
    have hout : j = n → hasI n bs j = false := fun e => by simp [hasI, e]
    have hnext : hasI n bs j = true → Hid (∀ t : Nat, t < j + 1 → hasI n bs (t : Int) = true) := fun hyes t ht => by
      by_cases e : t = j
      · exact e ▸ hyes
      · exact hall.out t (by omega)
    have hlt : hasI n bs j = true → j < n := fun hyes => by
      rcases Nat.lt_or_ge j n with h' | h'
      · exact h'
      · rw [hout (by omega)] at hyes; cases hyes
    have hfin : hasI n bs j = false → frontI n bs = j := fun hno => frontI_eq hj hall.out hno
    have HO := Lib.hid (And.intro hnext (And.intro hlt hfin))
    clear hout hnext hlt hfin
    cases hp : hasI n bs j
    · have HF := Lib.hid (HO.out.2.2 hp)
      go_wp2_with (go_at_call 12; refine (has_any _ _ h (by omega) (by omega)).mono ?_; rintro e w' ⟨rfl, rfl⟩)
      go_ret
      exact ⟨by rw [HF.out]; rfl, rfl⟩
    · have hlt := HO.out.2.1 hp
      have HA := HO.out.1 hp
      go_wp2_with (go_at_call 12; refine (has_any _ _ h (by omega) (by omega)).mono ?_; rintro e w' ⟨rfl, rfl⟩)
      go_round
      case rel => exact ⟨j + 1, by omega, by go_num, HA⟩
      case measure => simp [intOf]; omega

set_option maxHeartbeats 400000 in
theorem set_no {g b n : Nat} {bs : List Int} (i : Int) (w : World) (h : IsMap w g b n bs) (h1 : -9223372036854775808 ≤ i) (h2 : i ≤ 9223372036854775807)
    (hno : i < 0 ∨ (n : Int) ≤ i ∨ hasI n bs i = true) :
    Calls Try.prog 13 #[.pointer (some ⟨g, 0, none⟩), .int .i64 i] w fun e w' => e = .returned (.bool false) ∧ w = w' := by
  have c0 := h.cell0
  by_cases hi : i < 0
  · go_enter Try.func13, Try.ntmps13
    go_wp2_with fail
    go_ret
    exact ⟨rfl, rfl⟩
  · by_cases hn : (n : Int) ≤ i
    · go_enter Try.func13, Try.ntmps13
      go_wp2_with fail
      go_ret
      exact ⟨rfl, rfl⟩
    · have hp : hasI n bs i = true := by
        rcases hno with h' | h' | h'
        · omega
        · omega
        · exact h'
      clear hno
      go_enter Try.func13, Try.ntmps13
      go_wp2_with (go_at_call 12; refine (has_any _ _ h (by omega) (by omega)).mono ?_; rintro e w' ⟨rfl, rfl⟩)
      go_ret
      exact ⟨rfl, rfl⟩

def SetPost (w : World) (g b n : Nat) (bs : List Int) (i : Nat) (e : Ending) (w' : World) : Prop :=
  e = .returned (.bool true) ∧ IsMap w' g b n (setB bs i) ∧ Keeps (One b) w w'

set_option maxHeartbeats 400000 in
theorem set_yes {g b n : Nat} {bs : List Int} (i : Nat) (w : World) (h : IsMap w g b n bs) (hi : i < n) (hp : hasI n bs i = false) :
    Calls Try.prog 13 #[.pointer (some ⟨g, 0, none⟩), .int .i64 i] w (SetPost w g b n bs i) := by
  have c0 := h.cell0
  have c1 := h.cell1
  have hm := h.most
  have hl := h.len
  have c2 := h.byte hi
  have hf := h.arr.frozen (i / 8)
  unfold bytesOf at hl
  have hlt : i / 8 < bs.length := by omega
  have hfin : ∀ v, v = bits .or .u8 (bs.getD (i / 8) 0) (2 ^ (i % 8) % 256) → IsMap (w.setCell ⟨b, i / 8, none⟩ (.int .u8 v)).drew g b n (setB bs i) := by
    intro v hv
    have hs : setB bs i = bs.set (i / 8) v := by rw [hv]; rfl
    have hr := h.rng (i / 8)
    have hv2 : 0 ≤ v ∧ v < 256 := by
      have hp1 : (0 : Int) ≤ 2 ^ (i % 8) % 256 := Int.emod_nonneg _ (by omega)
      have hp2 : (2 : Int) ^ (i % 8) % 256 < 256 := Int.emod_lt_of_pos _ (by omega)
      rw [hv, u8_or _ _ hr.1 hr.2 hp1 hp2]
      have := Nat.or_lt_two_pow (n := 8) (x := (bs.getD (i / 8) 0).toNat) (y := ((2 : Int) ^ (i % 8) % 256).toNat) (by omega) (by omega)
      omega
    refine ⟨?_, ?_, h.ne, h.most, ?_, ?_⟩
    · have := h.obj.far (p := ⟨b, i / 8, none⟩) h.ne (.int .u8 v)
      rw [hs, List.length_set]
      exact this.drew
    · have := h.arr.set (i / 8) (.int .u8 v)
      rw [hs]
      simpa [u8s, List.map_set] using this.drew
    · rw [hs, List.length_set]; exact h.len
    · intro x hx
      rw [hs] at hx
      rcases List.mem_or_eq_of_mem_set hx with hx | hx
      · exact h.wf x hx
      · rw [hx]; exact hv2
  have HF := Lib.hid hfin
  clear hfin
  generalize hx : bs.getD (i / 8) 0 = x at *
  have HX := Lib.hid hx
  generalize hL : bs.length = L at *
  have HL := Lib.hid hL
  clear hL hx
  go_enter Try.func13, Try.ntmps13
  go_wp2_with (go_at_call 12; refine (has_any _ _ h (by omega) (by omega)).mono ?_; rintro e w' ⟨rfl, rfl⟩)
  go_region
  go_wp2
  go_ret
  exact ⟨rfl, HF.out _ rfl, ((Keeps.refl _ _).setOne _ _).drew⟩

def SetAny (w : World) (g b n : Nat) (e : Ending) (w' : World) : Prop :=
  ∃ (r : Bool) (bs' : List Int), e = .returned (.bool r) ∧ IsMap w' g b n bs' ∧ Keeps (One b) w w'
theorem set_any {g b n : Nat} {bs : List Int} (i : Int) (w : World) (h : IsMap w g b n bs) (h1 : -9223372036854775808 ≤ i) (h2 : i ≤ 9223372036854775807) :
    Calls Try.prog 13 #[.pointer (some ⟨g, 0, none⟩), .int .i64 i] w (SetAny w g b n) := by
  by_cases hno : i < 0 ∨ (n : Int) ≤ i ∨ hasI n bs i = true
  · refine (set_no i w h h1 h2 hno).mono ?_
    rintro e w' ⟨rfl, rfl⟩
    exact ⟨false, bs, rfl, h, Keeps.refl _ _⟩
  · obtain ⟨k, rfl⟩ := Int.eq_ofNat_of_zero_le (show 0 ≤ i by omega)
    refine (set_yes k w h (by omega) ?_).mono ?_
    · cases hh : hasI n bs (k : Int)
      · rfl
      · exact (hno (.inr (.inr hh))).elim
    · rintro e w' ⟨rfl, hm, hk⟩
      exact ⟨true, _, rfl, hm, hk⟩
theorem Try.infoU8 : (Try.prog.info? 5).map (fun i => (i.zero, i.size, i.bytes)) = some (some (.int .u8 0), 1, 1) := by kernel_rfl

def NewPost (w : World) (n : Nat) (e : Ending) (w' : World) : Prop :=
  ∃ g b, e = .returned (.pointer (some ⟨g, 0, none⟩)) ∧ IsMap w' g b n (List.replicate (bytesOf n) 0) ∧ Keeps Nil w w' ∧ w.heap.size ≤ g ∧ w.heap.size ≤ b

/-- How many pieces New makes of a number. -/
def capN (n : Int) : Nat := (min (max n 0) 1000).toNat
theorem u8s_zeros (m : Nat) : List.replicate m (Value.int .u8 0) = u8s (List.replicate m 0) := by simp [u8s]
theorem new_post (w : World) (k : Nat) (hk : k ≤ 1000) : NewPost w k (.returned (.pointer (some ⟨w.heap.size + 1, 0, none⟩)))
    ((w.alloc (.cells (List.replicate (bytesOf k) (Value.int .u8 0)).toArray 5)).alloc (.cells #[.int .i64 k, .slice (some ⟨w.heap.size, 0, none⟩) (bytesOf k) (bytesOf k)] 59)) := by
  refine ⟨w.heap.size + 1, w.heap.size, rfl, ⟨?_, ?_, by omega, hk, by simp, ?_⟩, ((Keeps.refl _ _).alloc _).alloc _, by omega, by omega⟩
  · have := Blk.new' (n := w.heap.size + 1) (w.alloc (.cells (List.replicate (bytesOf k) (Value.int .u8 0)).toArray 5)) [.int .i64 k, .slice (some ⟨w.heap.size, 0, none⟩) (bytesOf k) (bytesOf k)] 59 (by simp)
    simpa using this
  · have := (Blk.new w (u8s (List.replicate (bytesOf k) 0)) 5).alloc (.cells #[.int .i64 k, .slice (some ⟨w.heap.size, 0, none⟩) (bytesOf k) (bytesOf k)] 59)
    rw [u8s_zeros]
    exact this
  · intro x hx
    obtain ⟨_, rfl⟩ := List.mem_replicate.1 hx
    omega
set_option maxHeartbeats 400000 in
theorem new_walk (n : Int) (w : World) : Calls Try.prog 10 #[.int .i64 n] w (NewPost w (capN n)) := by
  obtain ⟨i0, hi, hz0, hz1, hz2⟩ := info_parts Try.infoU8
  by_cases hn : n < 0
  · have hc : capN n = 0 := by unfold capN; omega
    rw [hc]
    go_enter Try.func10, Try.ntmps10
    go_wp2_with (at_make; refine wpList_mk rfl _ _ 57 rfl 5 i0 (.int .u8 0) Try.underlying57 hi hz0 hz1 1 hz2 rfl .i64 .i64 0 0 rfl rfl (by omega) (by omega) (by omega) (by omega) ?_)
    go_ret
    exact new_post w 0 (by omega)
  · by_cases hn2 : 1000 < n
    · have hc : capN n = 1000 := by unfold capN; omega
      rw [hc]
      go_enter Try.func10, Try.ntmps10
      go_wp2_with (at_make; refine wpList_mk rfl _ _ 57 rfl 5 i0 (.int .u8 0) Try.underlying57 hi hz0 hz1 1 hz2 rfl .i64 .i64 125 125 rfl rfl (by omega) (by omega) (by omega) (by omega) ?_)
      go_ret
      exact new_post w 1000 (by omega)
    · obtain ⟨k, rfl⟩ := Int.eq_ofNat_of_zero_le (show 0 ≤ n by omega)
      have hc : capN k = k := by unfold capN; omega
      have hp := new_post w k (by omega)
      rw [hc]
      have HP := Lib.hid hp
      clear hp hc
      go_enter Try.func10, Try.ntmps10
      go_wp2_with (at_make; refine wpList_mk rfl _ _ 57 rfl 5 i0 (.int .u8 0) Try.underlying57 hi hz0 hz1 1 hz2 rfl .i64 .i64 (((k : Int) + 7) / 8) (((k : Int) + 7) / 8) rfl rfl (by omega) (by omega) (by omega) (by omega) ?_)
      go_ret
      exact HP.out
end Go.Proofs.Ytokminiendnhoaa
