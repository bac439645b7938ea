/-
  The walks of package bits (New, Has, Set, Count, Next, Front), each a contract over the bytes of the map.
-/
import Derived.Test.YtokminiendnhoaaDoorProg
import Derived.Test.YtokminiendnhoaaDoorBitsPlain
import Derived.Test.YtokminiendnhoaaDoorBytes
namespace Go.Proofs.YtokminiendnhoaaDoor
open Go.RowKit

abbrev u8s (bs : List Int) : List Value := byteV bs
/-- A map of n pieces at block g, its bytes in a slice. -/
structure IsMap (w : World) (g : Nat) (a : Option Addr) (cap n : Nat) (bs : List Int) : Prop where
  obj : Blk w g [.int .i64 n, .slice a bs.length cap] 50
  arr : Own w 5 1 a cap bs.length (u8s bs)
  ne : ¬ blkOf a g
  most : n ≤ 1000
  len : bs.length = bytesOf n
  wf : ∀ x ∈ bs, 0 ≤ x ∧ x < 256

section
variable {w w' : World} {g cap n : Nat} {a : Option Addr} {bs : List Int}
theorem IsMap.keep {S : Nat → Prop} (h : IsMap w g a cap n bs) (hk : Keeps S w w') (h1 : ¬ S g) (h2 : ∀ k, blkOf a k → ¬ S k) : IsMap w' g a cap n bs :=
  ⟨h.obj.keep hk h1, h.arr.keep hk h2, h.ne, h.most, h.len, h.wf⟩
theorem IsMap.keep0 (h : IsMap w g a cap n bs) (hk : Keeps Nil w w') : IsMap w' g a cap n bs := h.keep hk (fun h => h) (fun _ _ h => h)
theorem IsMap.drewN (h : IsMap w g a cap n bs) (m : Nat) : IsMap (w.drewN m) g a cap n bs := h.keep0 ((Keeps.refl _ _).drewN m)
theorem IsMap.cell0 (h : IsMap w g a cap n bs) : w.cell? ⟨g, 0, none⟩ = some (.int .i64 n) := h.obj.cell 0 rfl
theorem IsMap.cell1 (h : IsMap w g a cap n bs) : w.cell? ⟨g, 1, none⟩ = some (.slice a bs.length cap) := h.obj.cell 1 rfl
theorem IsMap.byte (h : IsMap w g a cap n bs) {i : Nat} (hi : i < n) : ∃ b sp, a = some ⟨b, 0, none⟩ ∧ g ≠ b ∧ Blk w b (u8s bs ++ sp) 5 ∧ i / 8 < bs.length ∧ w.cell? ⟨b, i / 8, none⟩ = some (.int .u8 (bs.getD (i / 8) 0)) := by
  have hl := h.len
  unfold bytesOf at hl
  have hlt : i / 8 < bs.length := by omega
  obtain ⟨_, _, _, h4⟩ := h.arr
  rcases h4 with ⟨_, h0, _⟩ | ⟨b, sp, ha, hb, _⟩
  · omega
  · refine ⟨b, sp, ha, fun e => h.ne (by rw [ha, blkOf_some]; exact e), hb, hlt, hb.cell (i / 8) ?_⟩
    rw [List.getElem?_append_left (by simpa [byteV] using hlt)]
    simp [byteV, List.getElem?_map, List.getD, hlt]
theorem IsMap.rng (h : IsMap w g a cap n bs) (i : Nat) : 0 ≤ bs.getD i 0 ∧ bs.getD i 0 < 256 := by
  by_cases hi : i < bs.length
  · have := h.wf (bs.getD i 0) (by simp [List.getD, hi])
    exact this
  · simp [List.getD, hi]
theorem IsMap.setlt (h : IsMap w g a cap n bs) {i : Nat} (hi : i < n) : i / 8 < bs.length := by
  have := h.len
  unfold bytesOf at this
  omega
end

theorem and1 (x : Int) (h0 : 0 ≤ x) (h1 : x < 256) : bits .and .u8 x 1 = x % 2 := by
  rw [u8_and x 1 h0 h1 (by omega) (by omega)]
  have : x.toNat &&& (1 : Int).toNat = x.toNat % 2 := nat_mask1 _
  rw [this]
  omega

set_option maxHeartbeats 400000 in
theorem has_any {g cap n : Nat} {a : Option Addr} {bs : List Int} (i : Int) (w : World) (h : IsMap w g a cap n bs) (h1 : -9223372036854775808 ≤ i) (h2 : i ≤ 9223372036854775807) :
    Calls Tryd.prog 16 #[.pointer (some ⟨g, 0, none⟩), .int .i64 i] w fun e w' => e = .returned (.bool (hasI n bs i)) ∧ w = w' := by
  have c0 := h.cell0
  have c1 := h.cell1
  have hl := h.len
  have hm := h.most
  unfold bytesOf at hl
  by_cases hi : 0 ≤ i
  · obtain ⟨k, rfl⟩ := Int.eq_ofNat_of_zero_le hi
    by_cases hn : k < n
    · obtain ⟨b, sp, rfl, hgb, hbb, hlt, c2⟩ := h.byte hn
      have hr := h.rng (k / 8)
      have hfin : hasI n bs (k : Int) = (bits .and .u8 (bs.getD (k / 8) 0 / 2 ^ (k % 8)) 1 == 1) := by
        have hp : (0 : Int) < 2 ^ (k % 8) := Int.pow_pos (by omega)
        rw [and1 _ (Int.ediv_nonneg hr.1 (by omega)) (Int.lt_of_le_of_lt (Int.ediv_le_self _ hr.1) hr.2)]
        simp [hasI, hasB, hn]
      have HF := Lib.hid hfin
      clear hfin hl h h1 h2 hr hbb
      generalize bs.length = L at *
      generalize bs.getD (k / 8) 0 = x at *
      go_enter Tryd.func16, Tryd.ntmps16
      go_wp2
      go_ret
      refine ⟨?_, rfl⟩
      rw [HF.out]
      rfl
    · have hfin : hasI n bs (k : Int) = false := by simp [hasI, hn]
      have HF := Lib.hid hfin
      clear hfin h
      go_enter Tryd.func16, Tryd.ntmps16
      go_wp2
      go_ret
      exact ⟨by rw [HF.out]; rfl, rfl⟩
  · have hfin : hasI n bs i = false := by simp [hasI, hi]
    have HF := Lib.hid hfin
    clear hfin h
    go_enter Tryd.func16, Tryd.ntmps16
    go_wp2
    go_ret
    exact ⟨by rw [HF.out]; rfl, rfl⟩


set_option maxHeartbeats 400000 in
theorem count_walk {g cap n : Nat} {a : Option Addr} {bs : List Int} (w : World) (h : IsMap w g a cap n bs) :
    Calls Tryd.prog 18 #[.pointer (some ⟨g, 0, none⟩)] w fun e w' => e = .returned (.int .i64 (countI n bs : Nat)) ∧ w = w' := by
  have c0 := h.cell0
  have hm := h.most
  go_enter Tryd.func18, Tryd.ntmps18
  go_wp2
  go_loop [3, 9] (fun k i => ∃ j : Nat, j ≤ n ∧ i = .int .i64 j ∧ k = .int .i64 (((List.range j).countP fun (i : Nat) => hasI n bs (i : Int)) : Nat)) (fun _ i => n - (intOf i).toNat)
  case atStart => exact ⟨0, Nat.zero_le _, rfl, rfl⟩
  case round =>
    obtain ⟨j, hj, rfl, rfl⟩ := hrel
    by_cases hlt : j < n
    · have hc : (List.range j).countP (fun (i : Nat) => hasI n bs (i : Int)) ≤ j := by
        have := List.countP_le_length (p := fun (i : Nat) => hasI n bs (i : Int)) (l := List.range j)
        simpa using this
      have hs : (List.range (j + 1)).countP (fun (i : Nat) => hasI n bs (i : Int)) = (List.range j).countP (fun (i : Nat) => hasI n bs (i : Int)) + if hasI n bs (j : Int) then 1 else 0 := by
        rw [List.range_succ, List.countP_append]
        simp [List.countP_cons]
      have HS := Lib.hid hs
      clear hs
      generalize (List.range j).countP (fun (i : Nat) => hasI n bs (i : Int)) = c at *
      go_wp2_with (go_at_call 16; refine (has_any _ _ h (by omega) (by omega)).mono ?_; rintro e w' ⟨rfl, rfl⟩)
      all_goals
        go_round
        case rel => exact ⟨j + 1, by omega, by go_num, by rw [HS.out]; simp_all⟩
        case measure => simp [intOf]; omega
    · obtain rfl : j = n := by omega
      go_wp2
      go_ret
      exact ⟨rfl, rfl⟩



set_option maxHeartbeats 400000 in
theorem next_walk {g cap n : Nat} {a : Option Addr} {bs : List Int} (f : Int) (w : World) (h : IsMap w g a cap n bs) (h1 : -9223372036854775808 ≤ f) (h2 : f ≤ 9223372036854775807) :
    Calls Tryd.prog 22 #[.pointer (some ⟨g, 0, none⟩), .int .i64 f] w fun e w' => e = .returned (.int .i64 (nextI n bs f)) ∧ Drawn w w' := by
  have c0 := h.cell0
  have hm := h.most
  go_enter Tryd.func22, Tryd.ntmps22
  go_wp2
  go_loopw [11] (fun i wr => ∃ j q : Nat, j ≤ n ∧ i = .int .i64 j ∧ wr = w.drewN q ∧ Hid (∀ t, t < j → hasI n bs (placeOf n f t) = true)) (fun i _ => n - (intOf i).toNat)
  case atStart => exact ⟨0, 0, Nat.zero_le _, rfl, rfl, by intro t ht; omega⟩
  case round =>
    obtain ⟨j, q, hj, rfl, rfl, hall⟩ := hrel
    by_cases hlt : j < n
    · have hpl := placeOf_eq n f j (by omega) (by omega)
      have hpb := placeOf_rng n f j (by omega)
      have hN : hasI n bs (placeOf n f j) = false → nextI n bs f = placeOf n f j := fun hno => nextI_found hlt hall.out hno
      have hA : hasI n bs (placeOf n f j) = true → ∀ t, t < j + 1 → hasI n bs (placeOf n f t) = true := fun hyes t ht => by
        by_cases e : t = j
        · exact e ▸ hyes
        · exact hall.out t (by omega)
      have HP := Lib.hid hpl
      have HN := Lib.hid hN
      have HA := Lib.hid hA
      clear hpl hN hA
      go_wp2
      go_quiet (fail)
      rw [HP.out]
      clear HP
      generalize placeOf n f j = pl at *
      generalize (if f < 0 then 0 else f) = fm
      cases hp : hasI n bs pl
      · have HN' := Lib.hid (HN.out hp)
        go_wp2_with (go_at_call 16; refine (has_any _ _ (h.drewN _) (by omega) (by omega)).mono ?_; rintro e w' ⟨rfl, rfl⟩)
        go_ret
        exact ⟨by rw [HN'.out]; rfl, _, rfl⟩
      · have HA' := Lib.hid (HA.out hp)
        go_wp2_with (go_at_call 16; refine (has_any _ _ (h.drewN _) (by omega) (by omega)).mono ?_; rintro e w' ⟨rfl, rfl⟩)
        go_roundw
        case rel => exact ⟨j + 1, _, by omega, by go_num, rfl, HA'.out⟩
        case measure => simp [intOf]; omega
    · obtain rfl : j = n := by omega
      go_wp2
      go_ret
      exact ⟨by rw [nextI_none hall.out]; rfl, q, rfl⟩


set_option maxHeartbeats 400000 in
theorem front_walk {g cap n : Nat} {a : Option Addr} {bs : List Int} (w : World) (h : IsMap w g a cap n bs) :
    Calls Tryd.prog 24 #[.pointer (some ⟨g, 0, none⟩)] w fun e w' => e = .returned (.int .i64 (frontI n bs : Nat)) ∧ w = w' := by
  have hm := h.most
  go_enter Tryd.func24, Tryd.ntmps24
  go_wp2
  go_loop [3] (fun i => ∃ j : Nat, j ≤ n ∧ i = .int .i64 j ∧ Hid (∀ t : Nat, t < j → hasI n bs (t : Int) = true)) (fun i => n - (intOf i).toNat)
  case atStart => exact ⟨0, Nat.zero_le _, rfl, by intro t ht; omega⟩
  case round =>
    obtain ⟨j, hj, rfl, hall⟩ := hrel
    have hout : j = n → hasI n bs j = false := fun e => by simp [hasI, e]
    have hnext : hasI n bs j = true → Hid (∀ t : Nat, t < j + 1 → hasI n bs (t : Int) = true) := fun hyes t ht => by
      by_cases e : t = j
      · exact e ▸ hyes
      · exact hall.out t (by omega)
    have hlt : hasI n bs j = true → j < n := fun hyes => by
      rcases Nat.lt_or_ge j n with h' | h'
      · exact h'
      · rw [hout (by omega)] at hyes; cases hyes
    have hfin : hasI n bs j = false → frontI n bs = j := fun hno => frontI_eq hj hall.out hno
    have HO := Lib.hid (And.intro hnext (And.intro hlt hfin))
    clear hout hnext hlt hfin
    cases hp : hasI n bs j
    · have HF := Lib.hid (HO.out.2.2 hp)
      go_wp2_with (go_at_call 16; refine (has_any _ _ h (by omega) (by omega)).mono ?_; rintro e w' ⟨rfl, rfl⟩)
      go_ret
      exact ⟨by rw [HF.out]; rfl, rfl⟩
    · have hlt := HO.out.2.1 hp
      have HA := HO.out.1 hp
      go_wp2_with (go_at_call 16; refine (has_any _ _ h (by omega) (by omega)).mono ?_; rintro e w' ⟨rfl, rfl⟩)
      go_round
      case rel => exact ⟨j + 1, by omega, by go_num, HA⟩
      case measure => simp [intOf]; omega

set_option maxHeartbeats 400000 in
theorem set_no {g cap n : Nat} {a : Option Addr} {bs : List Int} (i : Int) (w : World) (h : IsMap w g a cap n bs) (h1 : -9223372036854775808 ≤ i) (h2 : i ≤ 9223372036854775807)
    (hno : i < 0 ∨ (n : Int) ≤ i ∨ hasI n bs i = true) :
    Calls Tryd.prog 15 #[.pointer (some ⟨g, 0, none⟩), .int .i64 i] w fun e w' => e = .returned (.bool false) ∧ w = w' := by
  have c0 := h.cell0
  by_cases hi : i < 0
  · go_enter Tryd.func15, Tryd.ntmps15
    go_wp2_with fail
    go_ret
    exact ⟨rfl, rfl⟩
  · by_cases hn : (n : Int) ≤ i
    · go_enter Tryd.func15, Tryd.ntmps15
      go_wp2_with fail
      go_ret
      exact ⟨rfl, rfl⟩
    · have hp : hasI n bs i = true := by
        rcases hno with h' | h' | h'
        · omega
        · omega
        · exact h'
      clear hno
      go_enter Tryd.func15, Tryd.ntmps15
      go_wp2_with (go_at_call 16; refine (has_any _ _ h (by omega) (by omega)).mono ?_; rintro e w' ⟨rfl, rfl⟩)
      go_ret
      exact ⟨rfl, rfl⟩

def SetPost (w : World) (g : Nat) (a : Option Addr) (cap n : Nat) (bs : List Int) (i : Nat) (e : Ending) (w' : World) : Prop :=
  e = .returned (.bool true) ∧ IsMap w' g a cap n (setB bs i) ∧ Keeps (blkOf a) w w'

set_option maxHeartbeats 400000 in
theorem set_yes {g cap n : Nat} {a : Option Addr} {bs : List Int} (i : Nat) (w : World) (h : IsMap w g a cap n bs) (hi : i < n) (hp : hasI n bs i = false) :
    Calls Tryd.prog 15 #[.pointer (some ⟨g, 0, none⟩), .int .i64 i] w (SetPost w g a cap n bs i) := by
  have c0 := h.cell0
  have c1 := h.cell1
  have hm := h.most
  have hl := h.len
  obtain ⟨b, sp, rfl, hgb, hbb, hlt, c2⟩ := h.byte hi
  have hf := hbb.frozen (i / 8)
  have hfin : ∀ v, v = bits .or .u8 (bs.getD (i / 8) 0) (2 ^ (i % 8) % 256) → IsMap (w.setCell ⟨b, i / 8, none⟩ (.int .u8 v)).drew g (some ⟨b, 0, none⟩) cap n (setB bs i) := by
    intro v hv
    have hs : setB bs i = bs.set (i / 8) v := by rw [hv]; rfl
    have hr := h.rng (i / 8)
    have hv2 : 0 ≤ v ∧ v < 256 := by
      have hp1 : (0 : Int) ≤ 2 ^ (i % 8) % 256 := Int.emod_nonneg _ (by omega)
      have hp2 : (2 : Int) ^ (i % 8) % 256 < 256 := Int.emod_lt_of_pos _ (by omega)
      rw [hv, u8_or _ _ hr.1 hr.2 hp1 hp2]
      have := Nat.or_lt_two_pow (n := 8) (x := (bs.getD (i / 8) 0).toNat) (y := ((2 : Int) ^ (i % 8) % 256).toNat) (by omega) (by omega)
      omega
    refine ⟨?_, ?_, h.ne, h.most, ?_, ?_⟩
    · have := h.obj.far (p := ⟨b, i / 8, none⟩) hgb (.int .u8 v)
      rw [hs, List.length_set]
      exact this.drew
    · have h1 := (hbb.set (i / 8) (.int .u8 v)).drew
      obtain ⟨e1, e2, e3, e4⟩ := h.arr
      rcases e4 with ⟨e, _⟩ | ⟨b', sp', e, hb', hl'⟩
      · cases e
      · cases e
        have hsp : sp' = sp := by
          have := hb'
          unfold Blk at this hbb
          rw [hbb] at this
          simpa using this.symm
        subst hsp
        rw [List.set_append_left _ _ (by simpa [byteV] using hlt)] at h1
        have hu : (u8s bs).set (i / 8) (Value.int .u8 v) = u8s (setB bs i) := by rw [hs]; simp [byteV, List.map_set]
        rw [hu] at h1
        refine ⟨by simp [byteV, hs], by rw [hs, List.length_set]; exact e2, e3, .inr ⟨b, sp', rfl, h1, ?_⟩⟩
        rw [← hl']
        simp [byteV, hs]
    · rw [hs, List.length_set]; exact h.len
    · intro x hx
      rw [hs] at hx
      rcases List.mem_or_eq_of_mem_set hx with hx | hx
      · exact h.wf x hx
      · rw [hx]; exact hv2
  have HF := Lib.hid hfin
  clear hfin
  generalize hx : bs.getD (i / 8) 0 = x at *
  have HX := Lib.hid hx
  generalize hL : bs.length = L at *
  have HL := Lib.hid hL
  clear hL hx
  go_enter Tryd.func15, Tryd.ntmps15
  go_wp2_with (go_at_call 16; refine (has_any _ _ h (by omega) (by omega)).mono ?_; rintro e w' ⟨rfl, rfl⟩)
  go_region
  go_wp2
  go_ret
  exact ⟨rfl, HF.out _ rfl, ((Keeps.refl _ _).setCell (p := ⟨b, i / 8, none⟩) (.inl ⟨_, rfl, rfl⟩) _).drew⟩

def SetAny (w : World) (g : Nat) (a : Option Addr) (cap n : Nat) (e : Ending) (w' : World) : Prop :=
  ∃ (r : Bool) (bs' : List Int), e = .returned (.bool r) ∧ IsMap w' g a cap n bs' ∧ Keeps (blkOf a) w w'
theorem set_any {g cap n : Nat} {a : Option Addr} {bs : List Int} (i : Int) (w : World) (h : IsMap w g a cap n bs) (h1 : -9223372036854775808 ≤ i) (h2 : i ≤ 9223372036854775807) :
    Calls Tryd.prog 15 #[.pointer (some ⟨g, 0, none⟩), .int .i64 i] w (SetAny w g a cap n) := by
  by_cases hno : i < 0 ∨ (n : Int) ≤ i ∨ hasI n bs i = true
  · refine (set_no i w h h1 h2 hno).mono ?_
    rintro e w' ⟨rfl, rfl⟩
    exact ⟨false, bs, rfl, h, Keeps.refl _ _⟩
  · obtain ⟨k, rfl⟩ := Int.eq_ofNat_of_zero_le (show 0 ≤ i by omega)
    refine (set_yes k w h (by omega) ?_).mono ?_
    · cases hh : hasI n bs (k : Int)
      · rfl
      · exact (hno (.inr (.inr hh))).elim
    · rintro e w' ⟨rfl, hm, hk⟩
      exact ⟨true, _, rfl, hm, hk⟩
def NewPost (w : World) (n : Nat) (e : Ending) (w' : World) : Prop :=
  ∃ g a cap, e = .returned (.pointer (some ⟨g, 0, none⟩)) ∧ IsMap w' g a cap n (List.replicate (bytesOf n) 0) ∧ Keeps Nil w w' ∧ w.heap.size ≤ g ∧ (∀ k, blkOf a k → w.heap.size ≤ k)

/-- How many pieces New makes of a number. -/
def capN (n : Int) : Nat := (min (max n 0) 1000).toNat
theorem capN_le (n : Int) : capN n ≤ 1000 := by unfold capN; omega
theorem u8s_zeros (m : Nat) : List.replicate m (Value.int .u8 0) = u8s (List.replicate m 0) := by simp [byteV]
theorem new_post (w w1 : World) (k : Nat) (hk : k ≤ 1000) (hown : Own w1 5 1 (some ⟨w.heap.size, 0, none⟩) (bytesOf k) (bytesOf k) (List.replicate (bytesOf k) (.int .u8 0))) (hk1 : Keeps Nil w w1) : NewPost w k (.returned (.pointer (some ⟨w1.heap.size, 0, none⟩)))
    (w1.alloc (.cells #[.int .i64 k, .slice (some ⟨w.heap.size, 0, none⟩) (bytesOf k) (bytesOf k)] 50)) := by
  have hlt := hown.lt w.heap.size ((blkOf_some _ _ _ _).2 rfl)
  refine ⟨w1.heap.size, some ⟨w.heap.size, 0, none⟩, bytesOf k, rfl, ⟨?_, ?_, ?_, hk, by simp, ?_⟩, hk1.alloc _, hk1.size, fun k hk => by rw [(blkOf_some _ _ _ _).1 hk]; exact Nat.le_refl _⟩
  · have := Blk.new w1 [.int .i64 k, .slice (some ⟨w.heap.size, 0, none⟩) (bytesOf k) (bytesOf k)] 50
    simpa using this
  · rw [List.length_replicate, ← u8s_zeros]
    exact hown.keep0 ((Keeps.refl _ _).alloc _)
  · rw [blkOf_some]; omega
  · intro x hx
    obtain ⟨_, rfl⟩ := List.mem_replicate.1 hx
    omega
set_option maxHeartbeats 400000 in
theorem new_walk (n : Int) (w : World) : Calls Tryd.prog 14 #[.int .i64 n] w (NewPost w (capN n)) := by
  have hc1000 := capN_le n
  have hm : bytesOf (capN n) ≤ 126 := by unfold bytesOf; omega
  by_cases hn : n < 0
  · have hc : capN n = 0 := by unfold capN; omega
    rw [hc] at *
    go_enter Tryd.func14, Tryd.ntmps14
    go_wp2_with (at_make; refine wpl_make rfl _ _ 22 rfl 5 (.int .u8 0) 1 Tryd.underlying22 Tryd.info8 rfl .i64 .i64 0 0 _ _ rfl rfl rfl rfl (by omega) (by omega) (by unfold maxLen; omega) ?_)
    intro w1 hown _ hk1
    go_wp2
    go_ret
    exact new_post w w1 0 (by omega) hown hk1
  · by_cases hn2 : 1000 < n
    · have hc : capN n = 1000 := by unfold capN; omega
      rw [hc] at *
      go_enter Tryd.func14, Tryd.ntmps14
      go_wp2_with (at_make; refine wpl_make rfl _ _ 22 rfl 5 (.int .u8 0) 1 Tryd.underlying22 Tryd.info8 rfl .i64 .i64 125 125 _ _ rfl rfl rfl rfl (by omega) (by omega) (by unfold maxLen; omega) ?_)
      intro w1 hown _ hk1
      go_wp2
      go_ret
      exact new_post w w1 1000 (by omega) hown hk1
    · obtain ⟨k, rfl⟩ := Int.eq_ofNat_of_zero_le (show 0 ≤ n by omega)
      have hc : capN k = k := by unfold capN; omega
      have hmk : bytesOf k ≤ 126 := by unfold bytesOf; omega
      rw [hc]
      have hcast : ((k : Int) + 7) / 8 = ((bytesOf k : Nat) : Int) := by unfold bytesOf; omega
      have HC := Lib.hid hcast
      clear hcast hc
      go_enter Tryd.func14, Tryd.ntmps14
      go_wp2_with (at_make; refine wpl_make rfl _ _ 22 rfl 5 (.int .u8 0) 1 Tryd.underlying22 Tryd.info8 rfl .i64 .i64 (bytesOf k) (bytesOf k) _ _ rfl rfl HC.out HC.out (by omega) (by omega) (by unfold maxLen; omega) ?_)
      intro w1 hown _ hk1
      go_wp2
      go_ret
      exact new_post w w1 k (by omega) hown hk1

set_option maxHeartbeats 400000 in
theorem size_walk {g cap n : Nat} {a : Option Addr} {bs : List Int} (w : World) (h : IsMap w g a cap n bs) : Calls Tryd.prog 11 #[.pointer (some ⟨g, 0, none⟩)] w fun e w' => e = .returned (.int .i64 n) ∧ w = w' := by
  have c0 := h.cell0
  go_enter Tryd.func11, Tryd.ntmps11
  go_wp2
  go_ret
  exact ⟨rfl, rfl⟩
set_option maxHeartbeats 400000 in
theorem mapBytes_walk {g cap n : Nat} {a : Option Addr} {bs : List Int} (w : World) (h : IsMap w g a cap n bs) : Calls Tryd.prog 13 #[.pointer (some ⟨g, 0, none⟩)] w fun e w' => FreshB w w' bs e := by
  have c1 := h.cell1
  have hl := h.len
  have hm := h.most
  have hrow : Row .u8 w a bs.length bs := h.arr.row (fun x hx => by have := h.wf x hx; simp [Lit.wf, IntKind.min, IntKind.max, IntKind.signed, IntKind.bits]; omega)
  have hnil : a = none → cap = 0 ∧ bs.length = 0 := fun ha => by
    obtain ⟨_, _, _, h4⟩ := h.arr
    rcases h4 with ⟨_, h1, h2⟩ | ⟨b, sp, e, _⟩
    · exact ⟨h2, h1⟩
    · rw [ha] at e; cases e
  have hb : bs.length ≤ 140737488351232 := by rw [hl]; unfold bytesOf; omega
  have HC := Lib.hid (cloneB_walk hrow hnil hb)
  clear hrow hnil hl h hb
  generalize bs.length = L at *
  go_enter Tryd.func13, Tryd.ntmps13
  go_wp2_with fail
  refine HC.out.mono ?_
  rintro e w1 ⟨a', cap', rfl, h2, h3, h4⟩
  go_wp2_with fail
  go_ret
  exact ⟨a', cap', rfl, h2, h3, h4⟩
end Go.Proofs.YtokminiendnhoaaDoor
