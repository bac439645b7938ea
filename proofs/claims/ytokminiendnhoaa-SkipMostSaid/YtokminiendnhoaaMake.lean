/-
  couriermake.Key: a key out of a number.
-/
import Derived.Test.YtokminiendnhoaaKeys
import Derived.Test.YtokminiendnhoaaVars
namespace Go.Proofs.Ytokminiendnhoaa
set_option linter.unusedSimpArgs false
set_option linter.unusedVariables false
open Go.RowKit

/-- A key's byte, by its place. -/
def keyB (n : Int) (i : Nat) : Int := (n / 2 ^ (i % 8 * 4) + 17 * i) % 256
def keyUp (n : Int) (j : Nat) : List Int := (List.range j).map (keyB n) ++ List.replicate (32 - j) 0
/-- The key of a number. -/
def keyOf (n : Int) : List Int := (List.range 32).map (keyB n)
theorem keyOf_len (n : Int) : (keyOf n).length = 32 := by simp [keyOf]
theorem keyOf_bytes (n : Int) : AreB (keyOf n) := fun x hx => by
  obtain ⟨i, _, rfl⟩ := List.mem_map.1 hx
  unfold keyB
  exact ⟨Int.emod_nonneg _ (by omega), Int.emod_lt_of_pos _ (by omega)⟩
theorem keyUp_len (n : Int) (j : Nat) (h : j ≤ 32) : (keyUp n j).length = 32 := by simp [keyUp]; omega
theorem keyUp_succ (n : Int) (j : Nat) (h : j < 32) : keyUp n (j + 1) = (keyUp n j).set j (keyB n j) := by
  unfold keyUp
  rw [List.set_append_right _ _ (by simp), List.range_succ, List.map_append]
  simp only [List.length_map, List.length_range, Nat.sub_self, List.map_cons, List.map_nil]
  obtain ⟨m, hm⟩ : ∃ m, 32 - j = m + 1 := ⟨32 - j - 1, by omega⟩
  rw [hm, List.replicate_succ, List.set_cons_zero, show 32 - (j + 1) = m by omega]
  simp
theorem byteV_set (l : List Int) (i : Nat) (x : Int) : byteV (l.set i x) = (byteV l).set i (.int .u8 x) := by simp [byteV, List.map_set]
theorem Try.infoKeyM : (Try.prog.info? 37).map (·.size) = some 32 := by kernel_rfl
theorem Try.undKeyM : Try.prog.underlying 37 = some (.array 32 5) := by kernel_rfl
def KeyPost (w : World) (n : Int) (e : Ending) (w' : World) : Prop := e = .returned (keyV (keyOf n)) ∧ Keeps Nil w w'
set_option maxRecDepth 20000 in
set_option maxHeartbeats 1600000 in
theorem key_walk (n : Int) (w : World) (h1 : -9223372036854775808 ≤ n) (h2 : n ≤ 9223372036854775807) :
    Calls Try.prog 18 #[.int .i64 n] w (KeyPost w n) := by
  have hV := ((Has.nil w).cons (byteV (keyUp n 0)) 37 rfl).cons (byteV (keyUp n 0)) 37 (n := w.heap.size + 1) (by simp [size_alloc'])
  have hk : Keeps Nil w ((w.alloc (.cells (byteV (keyUp n 0)).toArray 37)).alloc (.cells (byteV (keyUp n 0)).toArray 37)) := ((Keeps.refl Nil w).alloc _).alloc _
  have hB1 := hV.at 1 rfl
  have hB2 := hV.at 0 rfl
  clear hV
  go_enter Try.func18, Try.ntmps18
  go_wp2_with fail
  change Code.wp _ _ _ _ ((w.alloc (.cells (byteV (keyUp n 0)).toArray 37)).alloc (.cells (byteV (keyUp n 0)).toArray 37))
  generalize (w.alloc (.cells (byteV (keyUp n 0)).toArray 37)).alloc (.cells (byteV (keyUp n 0)).toArray 37) = wz at *
  have hlt : w.heap.size < w.heap.size + 1 := by omega
  generalize w.heap.size + 1 = gk at *
  generalize hgr : w.heap.size = gr at *
  go_loopw [4] (fun v wr => ∃ j : Nat, j ≤ 32 ∧ v = .int .i64 j ∧ Blk wr gk (byteV (keyUp n j)) 37 ∧ Hid (Keeps (One gk) wz wr)) (fun v _ => 32 - (intOf v).toNat)
  case atStart => exact ⟨0, by omega, rfl, hB2, Keeps.refl _ _⟩
  case round =>
    obtain ⟨j, hj, rfl, hB, hkr⟩ := hrel
    clear hB2
    by_cases hjl : j < 32
    · have hc := hB.cell j (v := .int .u8 ((keyUp n j).getD j 0)) (by have := keyUp_len n j hj; simp [byteV, List.getD, this, hjl])
      have hz := hB.frozen j
      have hj0 : (0 : Int) ≤ j := by omega
      have hj1 : (j : Int) < 32 := by omega
      go_wp2_with fail
      have hnew := hB.set j (.int .u8 (keyB n j))
      rw [← byteV_set, ← keyUp_succ n j hjl] at hnew
      have hkn := hkr.out.setOne j (.int .u8 (keyB n j))
      unfold keyB at hnew hkn
      go_roundw
      case rel => first | exact ⟨j + 1, by omega, by go_num, hnew, hkn⟩ | ((repeat apply Exists.intro); exact ⟨⟨j + 1, by omega, by go_num, hnew, hkn⟩, rfl⟩)
      case measure => simp [intOf]; omega
    · obtain rfl : j = 32 := by omega
      have hfin : keyUp n 32 = keyOf n := by simp [keyUp, keyOf]
      rw [hfin] at hB
      have hl : (byteV (keyOf n)).length = 32 := by simp [byteV, keyOf_len]
      have hB1r := hB1.keep hkr.out (fun e => by have : gr = gk := e; omega)
      have hl2 : (byteV (keyOf n)).length = (byteV (keyUp n 0)).length := by rw [hl]; simp [byteV, keyUp_len]
      have HL := Lib.hid (And.intro hl hl2)
      clear hl hl2 hfin
      go_wp2_with (first | (refine wpl_load rfl 37 _ rfl gk rfl hB _ Try.undKeyM rfl (by rw [HL.out.1]; exact Try.infoKeyM) ?_) | (refine wpl_store rfl 37 _ _ rfl gr rfl (byteV (keyOf n)) rfl hB1r HL.out.2 (by rw [HL.out.1]; exact Try.infoKeyM) (fun v hv => by obtain ⟨x, _, rfl⟩ := List.mem_map.1 hv; rfl) ?_))
      intro w3 hb3 hk3 hs3
      go_wp2_with fail
      refine ret_blk Try.results18 gr rfl hb3 _ Try.undKeyM rfl (by rw [HL.out.1]; exact Try.infoKeyM) rfl ⟨rfl, ?_⟩
      exact (hk.step hkr.out (fun i hi => .inr (by rw [show i = gk from hi]; omega))).step hk3 (fun i hi => .inr (by rw [show i = gr from hi]; omega))
end Go.Proofs.Ytokminiendnhoaa
