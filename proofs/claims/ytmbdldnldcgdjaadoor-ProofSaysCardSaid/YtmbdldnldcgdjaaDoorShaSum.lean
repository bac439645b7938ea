/-
  sha.Hash.Sum: what was written is filled up, and the digest told.
-/
import Derived.Test.YtmbdldnldcgdjaaDoorShaWrite
import Derived.Test.YtmbdldnldcgdjaaDoorKeys
namespace Go.Proofs.YtmbdldnldcgdjaaDoor
set_option linter.unusedSimpArgs false
set_option linter.unusedVariables false
open Go.RowKit

/-- How many zeros fill up n bytes. -/
def padN (n : Nat) : Nat := (119 - n % 64) % 64
def padTo (l : List Int) (j : Nat) : List Int := l ++ [128] ++ List.replicate j 0
/-- A number's eight bytes, the greatest first, the first j. -/
def lenB (n : Int) (j : Nat) : List Int := (List.range j).map fun i => n * 8 / 2 ^ (56 - 8 * i) % 256
def padded (l : List Int) : List Int := padTo l (padN l.length) ++ lenB l.length 8
/-- Eight words as bytes. -/
def wordB (H : List Int) (i : Nat) : Int := H.getD (i / 4) 0 / 2 ^ (24 - 8 * (i % 4)) % 256
def digUp (H : List Int) (j : Nat) : List Int := (List.range j).map (wordB H) ++ List.replicate (32 - j) 0
/-- The digest of bytes. -/
def digest (l : List Int) : List Int := (List.range 32).map (wordB (blocks shaH0 (padded l) ((padded l).length / 64)))
theorem digest_len (l : List Int) : (digest l).length = 32 := by simp [digest]
theorem digest_bytes (l : List Int) : AreB (digest l) := fun x hx => by
  obtain ⟨i, _, rfl⟩ := List.mem_map.1 hx
  unfold wordB
  exact ⟨Int.emod_nonneg _ (by omega), Int.emod_lt_of_pos _ (by omega)⟩
theorem digUp_len (H : List Int) (j : Nat) (h : j ≤ 32) : (digUp H j).length = 32 := by simp [digUp]; omega
theorem digUp_succ (H : List Int) (j : Nat) (h : j < 32) : (digUp H j).set j (wordB H j) = digUp H (j + 1) := by
  unfold digUp
  rw [List.set_append_right _ _ (by simp), List.range_succ, List.map_append]
  simp only [List.length_map, List.length_range, Nat.sub_self, List.map_cons, List.map_nil]
  obtain ⟨m, hm⟩ : ∃ m, 32 - j = m + 1 := ⟨32 - j - 1, by omega⟩
  rw [hm, List.replicate_succ, List.set_cons_zero, show 32 - (j + 1) = m by omega]
  simp
theorem digUp_full (H : List Int) : digUp H 32 = (List.range 32).map (wordB H) := by simp [digUp]
theorem padTo_len (l : List Int) (j : Nat) : (padTo l j).length = l.length + 1 + j := by simp [padTo]; omega
theorem padTo_succ (l : List Int) (j : Nat) : padTo l j ++ [0] = padTo l (j + 1) := by simp [padTo, List.replicate_succ']
theorem lenB_len (n : Int) (j : Nat) : (lenB n j).length = j := by simp [lenB]
theorem lenB_succ (n : Int) (j : Nat) : lenB n j ++ [n * 8 / 2 ^ (56 - 8 * j) % 256] = lenB n (j + 1) := by simp [lenB, List.range_succ]
theorem byteV_setS (l : List Int) (i : Nat) (x : Int) : byteV (l.set i x) = (byteV l).set i (.int .u8 x) := by simp [byteV, List.map_set]
theorem byteV_one (l : List Int) : ∀ v ∈ byteV l, v.oneCell' = true := fun v hv => by obtain ⟨x, _, rfl⟩ := List.mem_map.1 hv; rfl
theorem byteV_len (l : List Int) : (byteV l).length = l.length := by simp [byteV]
theorem wf_u8 {x : Int} (h0 : 0 ≤ x) (h1 : x < 256) : (Lit.int .u8 x).wf = true := by simp [Lit.wf, IntKind.min, IntKind.max, IntKind.signed, IntKind.bits]; omega
def z32 : List Int := List.replicate 32 0
theorem z32_len : z32.length = 32 := by simp [z32]
theorem row_none (w : World) : Row .u8 w none 0 [] := ⟨rfl, by omega, fun h => by omega, fun x hx => by cases hx⟩

theorem Tryd.undH : Tryd.prog.underlying 26 = some (.array 32 5) := by kernel_rfl
theorem Tryd.infoH : (Tryd.prog.info? 26).map (·.size) = some 32 := by kernel_rfl
theorem Tryd.zeroH32 (w : World) : (zeroValue 26).run Tryd.prog w = .ok (.agg (byteV z32).toArray) w := by kernel_rfl
theorem Tryd.builtHash2 (a b c d e f g h : Int) (ad : Option Addr) (n cap : Nat) : Tryd.prog.built 95 [(0, .agg (wordV [a, b, c, d, e, f, g, h]).toArray), (1, .slice ad n cap)] = some (hashV [a, b, c, d, e, f, g, h] ad n cap 0).toArray := by kernel_rfl

/-- The copy that is filled up. -/
def SumGo (w : World) (q g : Nat) (P : List Int) (wr : World) : Prop := ∃ n a cap, HashAt wr g a cap q n P 0 ∧ Keeps Nil w wr ∧ (∀ k, midOf a cap k → w.heap.size ≤ k)
theorem push_step {w wr w3 : World} {q g n cap cap' : Nat} {a a' : Option Addr} {P : List Int} {x : Int} {o : Obj} (h : HashAt wr g a cap q n P 0) (hk : Keeps Nil w wr) (hg : w.heap.size ≤ g) (hfr : ∀ k, midOf a cap k → w.heap.size ≤ k) (hx : 0 ≤ x ∧ x < 256)
    (hm : MidB w3 5 a' cap' (n + 1) (P.drop (64 * q) ++ [x])) (hk3 : Keeps (midOf a cap) (wr.alloc o) w3) (hf : ∀ k, midOf a' cap' k → midOf a cap k ∨ wr.heap.size + 1 ≤ k) (hmost : P.length < 1000000) :
    SumGo w q g (P ++ [x]) (w3.setCell ⟨g, 8, none⟩ (.slice a' (n + 1) cap')) := by
  have hko : Keeps Nil wr (wr.alloc o) := (Keeps.refl _ _).alloc o
  have hlt := h.obj.lt
  have hob := (h.obj.keep0 hko).keep hk3 (fun hi => h.far g hi rfl)
  have hfar : ∀ k, midOf a' cap' k → k ≠ g := fun k hk' e => by
    rcases hf k hk' with h' | h'
    · exact h.far k h' e
    · omega
  have hk4 : Keeps (One g) w3 (w3.setCell ⟨g, 8, none⟩ (.slice a' (n + 1) cap')) := (Keeps.refl _ w3).setOne 8 _
  have hq := h.qle
  refine ⟨n + 1, a', cap', ⟨?_, ?_, hfar, by simp; omega, fun y hy => (List.mem_append.1 hy).elim (h.wf y) (fun hy => by rw [List.mem_singleton.1 hy]; exact wf_u8 hx.1 hx.2), by simp; omega⟩, ?_, fun k hk' => ?_⟩
  · have := hob.set 8 (.slice a' (n + 1) cap')
    rw [hashV_set8 _ _ _ _ _ _ _ _ (blocks_len _ _)] at this
    rw [blocks_append _ _ _ _ hq]
    exact this
  · rw [List.drop_append_of_le_length hq]
    exact hm.keep hk4 (fun k hk' e => hfar k hk' e)
  · exact ((hk.trans hko).step hk3 (fun i hi => .inr (hfr i hi))).step hk4 (fun i hi => .inr (by rw [show i = g from hi]; exact hg))
  · rcases hf k hk' with h' | h'
    · exact hfr k h'
    · have := hk.size; omega

set_option maxRecDepth 20000 in
set_option maxHeartbeats 3200000 in
theorem sum_walk {w : World} {g cap : Nat} {a : Option Addr} {l : List Int} (h : IsHash w g a cap l) (hl : l.length ≤ 900000) :
    Calls Tryd.prog 46 #[.pointer (some ⟨g, 0, none⟩)] w fun e w' => e = .returned (.agg (byteV (digest l)).toArray) ∧ Keeps Nil w w' := by
  have hzv := Tryd.zeroH32
  have hbR := Blk.new w (byteV z32) 26
  have hkA := (Keeps.refl Nil w).alloc (.cells (byteV z32).toArray 26)
  have hA : HashAt (w.alloc (.cells (byteV z32).toArray 26)) g a cap (l.length / 64) (l.length % 64) l l.length := HashAt.keep0 h hkA
  have hszA : (w.alloc (.cells (byteV z32).toArray 26)).heap.size = w.heap.size + 1 := Array.size_push _
  have hgl := h.obj.lt
  have c8 := hA.c8
  have hH8 := blocks_len l (l.length / 64)
  have hrg : (w.alloc (.cells (byteV z32).toArray 26)).rangeAt g 0 (wordV (blocks shaH0 l (l.length / 64))) := hA.obj.rangeAt 0 (fun j v hv => by
    have hj : j < (wordV (blocks shaH0 l (l.length / 64))).length := (List.getElem?_eq_some_iff.1 hv).1
    unfold hashV
    rw [Nat.zero_add, List.getElem?_append_left hj]; exact hv)
  have hU8 := Tryd.undW8
  have hI8 : (Tryd.prog.info? 69).map (·.size) = some (wordV (blocks shaH0 l (l.length / 64))).length := by rw [wordV_len, hH8]; exact Tryd.infoW8
  have hS : ∀ w', Keeps Nil (w.alloc (.cells (byteV z32).toArray 26)) w' → w'.rangeAt g 0 (wordV (blocks shaH0 l (l.length / 64))) ∧ w'.cell? ⟨g, 8, none⟩ = some (.slice a (l.length % 64) cap) := fun w' hk' => by
    have hA' := hA.keep0 hk'
    refine ⟨hA'.obj.rangeAt 0 (fun j v hv => ?_), hA'.c8⟩
    have hj : j < (wordV (blocks shaH0 l (l.length / 64))).length := (List.getElem?_eq_some_iff.1 hv).1
    unfold hashV
    rw [Nat.zero_add, List.getElem?_append_left hj]; exact hv
  have HS := Lib.hid hS
  have hm0 : a = none → cap = 0 ∧ l.length % 64 = 0 := fun ha => ⟨h.rest.nil ha, by have h1 := h.rest.le; have h2 := h.rest.nil ha; omega⟩
  clear hS
  have HA := Lib.hid hA
  have HW := Lib.hid (h.wf)
  have HL := Lib.hid hl
  have hM : l.length % 64 ≤ 64 := by omega
  have hqq : 64 * (l.length / 64) ≤ l.length := by omega
  have HD := Lib.hid (show digest l = (List.range 32).map (wordB (blocks shaH0 (padded l) ((padded l).length / 64))) from rfl)
  clear hA h
  generalize hHH : blocks shaH0 l (l.length / 64) = HH at *
  generalize hQQ : l.length / 64 = Q at *
  generalize hMM : l.length % 64 = M at *
  generalize hww : w.alloc (.cells (byteV z32).toArray 26) = wA at *
  have HE := Lib.hid (And.intro hHH (And.intro hQQ (And.intro hMM hww)))
  clear hHH hQQ hMM hl
  have hzz : (byteV z32).length = 32 := by rw [byteV_len, z32_len]
  have HZ := Lib.hid hzz
  clear hzz
  generalize hZZ : byteV z32 = Z at *
  have HZE := Lib.hid hZZ
  clear hZZ
  go_enter Tryd.func46, Tryd.ntmps46
  go_wp2_with fail
  clear hww
  refine wp_region_held_drew (S := fun w' => w'.rangeAt g 0 (wordV HH) ∧ w'.cell? ⟨g, 8, none⟩ = some (.slice a M cap)) (by kernel_rfl) ⟨hrg, c8⟩ (fun hHeld => ?_)
  refine takeL (i := 0) (v := _) rfl (by kernel_rfl) (by kernel_rfl) (by kernel_rfl) (fun _ _ _ h => h) (Or.inl ⟨by rfl, by intro w hSw; (try dsimp only at hSw); go_simp; try with_reducible rfl⟩) (by assumption) ?_
  try simp only [Act.put, List.setIfInBounds_toArray, List.set_cons_zero, List.set_cons_succ]
  refine takeL (i := 1) (v := _) rfl (by kernel_rfl) (by kernel_rfl) (by kernel_rfl) (fun _ _ _ h => h) (Or.inl ⟨by rfl, by intro w hSw; (try dsimp only at hSw); go_simp; try with_reducible rfl⟩) (by assumption) ?_
  try simp only [Act.put, List.setIfInBounds_toArray, List.set_cons_zero, List.set_cons_succ]
  refine takeL (i := 2) (v := _) rfl (by kernel_rfl) (by kernel_rfl) (by kernel_rfl) (fun _ _ _ h => h) (Or.inl ⟨by rfl, by intro w hSw; (try dsimp only at hSw); go_simp; try with_reducible rfl⟩) (by assumption) ?_
  try simp only [Act.put, List.setIfInBounds_toArray, List.set_cons_zero, List.set_cons_succ]
  refine takeL (i := 3) (v := _) rfl (by kernel_rfl) (by kernel_rfl) (by kernel_rfl) (fun _ _ _ h => h) (yieldsIf_load_mid (by rfl) 69 _ rfl g 0 rfl (wordV HH) _ (fun w hSw => hSw.1) hU8 rfl hI8) (by assumption) ?_
  try simp only [Act.put, List.setIfInBounds_toArray, List.set_cons_zero, List.set_cons_succ]
  refine takeL (i := 5) (v := _) rfl (by kernel_rfl) (by kernel_rfl) (by kernel_rfl) (fun _ _ _ h => h) (Or.inl ⟨by rfl, by intro w hSw; (try dsimp only at hSw); go_simp; try with_reducible rfl⟩) (by assumption) ?_
  try simp only [Act.put, List.setIfInBounds_toArray, List.set_cons_zero, List.set_cons_succ]
  refine takeL (i := 6) (v := _) rfl (by kernel_rfl) (by kernel_rfl) (by kernel_rfl) (fun _ _ _ h => h) (Or.inl ⟨by rfl, by intro w hSw; (try dsimp only at hSw); go_simp; try with_reducible rfl⟩) (by assumption) ?_
  try simp only [Act.put, List.setIfInBounds_toArray, List.set_cons_zero, List.set_cons_succ]
  refine takeL (i := 7) (v := _) rfl (by kernel_rfl) (by kernel_rfl) (by kernel_rfl) (fun _ _ _ h => h) (Or.inl ⟨by rfl, by intro w hSw; (try dsimp only at hSw); go_simp; try with_reducible rfl⟩) (by assumption) ?_
  try simp only [Act.put, List.setIfInBounds_toArray, List.set_cons_zero, List.set_cons_succ]
  refine takeL (i := 8) (v := _) rfl (by kernel_rfl) (by kernel_rfl) (by kernel_rfl) (fun _ _ _ h => h) (Or.inl ⟨by rfl, by intro w hSw; (try dsimp only at hSw); go_simp; try with_reducible rfl⟩) (by assumption) ?_
  try simp only [Act.put, List.setIfInBounds_toArray, List.set_cons_zero, List.set_cons_succ]
  refine onlyL (i := 4) rfl (by kernel_rfl) (fun K hK => ?_)
  refine step_bs0 rfl _ 5 rfl Tryd.underlying65 (by kernel_rfl) ?_
  intro w2 hm2 hk2
  have hkA2 := (Keeps.refl Nil wA).drew.trans hk2
  refine (fun hHeld => hK _ _ hHeld ?_) (HS.out w2 hkA2)
  clear hK
  try simp only [Act.put, List.setIfInBounds_toArray, List.set_cons_zero, List.set_cons_succ]
  have hsrc := (((HA.out.rest.keep0 hkA2).row (fun x hx => HW.out x (List.mem_of_mem_drop hx))).src hm0)
  refine onlyL (i := 9) rfl (by kernel_rfl) (fun K hK => ?_)
  refine step_appendM rfl _ _ 65 rfl 5 Tryd.underlying65 Tryd.info8s _ 0 0 [] rfl hm2 a M cap (l.drop (64 * Q)) rfl hsrc (by omega) ?_
  intro a3 cap3 w3 hm3 hk3 hf3 hz3
  rw [Nat.zero_add, List.nil_append] at hm3
  rw [Nat.zero_add]
  have hlt2 : w.heap.size + 1 ≤ w2.heap.size := by have := hkA2.size; omega
  have hm2l : ∀ k, midOf (some ⟨wA.drew.heap.size, 0, none⟩) 0 k → False := fun k hk => by have := hk.1; omega
  have hkA3 : Keeps Nil wA w3 := hkA2.step hk3 (fun i hi => (hm2l i hi).elim)
  have hf3' : ∀ k, midOf a3 cap3 k → wA.heap.size ≤ k := fun k hk => by
    rcases hf3 k hk with h' | h'
    · exact (hm2l k h').elim
    · omega
  refine (fun hHeld => hK _ _ hHeld ?_) (HS.out w3 hkA3)
  clear hK
  try simp only [Act.put, List.setIfInBounds_toArray, List.set_cons_zero, List.set_cons_succ]
  clear hsrc hm2 hk2 hk3 hf3 hz3 hm2l hkA2 hm0
  have hB : Tryd.prog.built 95 [(0, .agg (wordV HH).toArray), (1, .slice a3 M cap3)] = some (hashV HH a3 M cap3 0).toArray := by
    obtain ⟨x0, x1, x2, x3, x4, x5, x6, x7, rfl⟩ := eight hH8
    exact Tryd.builtHash2 _ _ _ _ _ _ _ _ _ _ _
  refine takeL (i := 10) (v := .agg (hashV HH a3 M cap3 0).toArray) rfl (by kernel_rfl) (by kernel_rfl) (by kernel_rfl) (fun _ _ _ h => h) (yieldsIf_build (by rfl) 95 _ rfl (hashV HH a3 M cap3 0) _ hB (by simp [Act.eval])) (by assumption) ?_
  try simp only [Act.put, List.setIfInBounds_toArray, List.set_cons_zero, List.set_cons_succ]
  refine onlyL (i := 11) rfl (by kernel_rfl) (fun K hK => ?_)
  go_simp
  have hkA4 : Keeps Nil wA (w3.alloc (.cells (hashV HH a3 M cap3 0).toArray 95)) := hkA3.alloc _
  refine (fun hHeld => hK _ _ hHeld ?_) (HS.out _ hkA4)
  clear hK
  try simp only [Act.put, List.setIfInBounds_toArray, List.set_cons_zero, List.set_cons_succ]
  refine takeL (i := 12) (v := _) rfl (by kernel_rfl) (by kernel_rfl) (by kernel_rfl) (fun _ _ _ h => h) (Or.inl ⟨by rfl, by intro w hSw; (try dsimp only at hSw); go_simp; try with_reducible rfl⟩) (by assumption) ?_
  try simp only [Act.put, List.setIfInBounds_toArray, List.set_cons_zero, List.set_cons_succ]
  refine wpAnyH_done (by kernel_rfl) ?_ _
  have hlt3 : w.heap.size + 1 ≤ w3.heap.size := by have := hkA3.size; omega
  have hG : HashAt (w3.alloc (.cells (hashV HH a3 M cap3 0).toArray 95)) w3.heap.size a3 cap3 Q M l 0 :=
    ⟨by rw [HE.out.1]; exact Blk.new w3 _ _, hm3.keep0 ((Keeps.refl Nil w3).alloc _), fun k hk => by have := hm3.lt k hk; omega, by have := HL.out; omega, HW.out, hqq⟩
  have hKG : Keeps Nil wA (w3.alloc (.cells (hashV HH a3 M cap3 0).toArray 95)) := hkA4
  have hbR4 := (hbR.keep0 hkA4)
  clear hm3 hkA3 hkA4 hB hrg c8 hU8 hI8 hHeld
  generalize hg' : w3.heap.size = g' at *
  generalize w3.alloc (.cells (hashV HH a3 M cap3 0).toArray 95) = w4 at *
  have c8 := hG.c8
  have z8 := hG.obj.frozen 8
  have hg0 : wA.heap.size ≤ g' := by omega
  have hll := HL.out
  have hM1 : M + 1 ≤ 1000000 := by omega
  -- the byte 128 goes behind: what holds is hG (in the world w4, kept hKG, the slice's blocks new hf3'), what will hold is hG5
  go_wp2_with (first | (refine wpList_bs rfl 65 5 1 _ rfl [.int .u8 (128)] Tryd.underlying65 Tryd.bs8 rfl (by decide) (by decide) rfl (by simp [Value.cells]) ?_) | (at_builtin; go_must (refine wpl_appendM rfl _ _ 65 rfl 5 Tryd.underlying65 Tryd.info8s a3 cap3 M (l.drop (64 * Q)) rfl (hG.rest.keep0 ((Keeps.refl _ _).alloc _)) _ 1 1 [128] rfl (Src.one (Blk.new _ _ _) rfl) (by omega) ?_)))
  intro a5 cap5 w5 hm5 hk5 hf5
  try intro _
  have hob5 := (hG.obj.keep0 ((Keeps.refl Nil w4).alloc _)).keep hk5 (fun hi => hG.far g' hi rfl)
  have z8 := hob5.frozen 8
  have x8 : w5.cell? ⟨g', 8, none⟩ = some (.slice a3 M cap3) := hob5.cell 8 (hashV_8 _ _ _ _ _ (blocks_len _ _))
  have hG5 := push_step hG hKG hg0 hf3' (by omega) hm5 hk5 hf5 (by omega)
  clear hob5 hm5 hk5 hf5
  have hp0 : l ++ [128] = padTo l 0 := by simp [padTo]
  rw [hp0] at hG5
  have HG5 := Lib.hid hG5
  have hN : padN l.length < 64 ∧ (l.length + 1 + padN l.length) % 64 = 56 := by unfold padN; omega
  clear hG hp0 hG5 hKG c8 hf3'
  generalize hpn : padN l.length = N at *
  have HPN := Lib.hid hpn
  clear hpn
  go_wp2_with fail
  generalize w5.setCell ⟨g', 8, none⟩ (.slice a5 (M + 1) cap5) = w6 at *
  clear x8 z8
  go_loopw [28] (fun _ wr => ∃ j, j ≤ N ∧ Hid (SumGo wA Q g' (padTo l j) wr)) (fun _ wr => (120 - restLen g' wr % 64) % 64)
  case atStart => exact ⟨0, by omega, HG5.out⟩
  case round =>
    obtain ⟨j, hj, hGo⟩ := hrel
    clear HG5
    have hGo2 := hGo.out
    obtain ⟨n, a7, cap7, hG, hKG, hfr7⟩ := hGo.out
    have c8 := hG.c8
    have z8 := hG.obj.frozen 8
    have hnl := hG.rest.len
    rw [List.length_drop, padTo_len] at hnl
    have hrl := restLen_of c8
    have HRL := Lib.hid hrl
    have hpl := padTo_len l j
    have HPL := Lib.hid hpl
    have HNL := Lib.hid hnl
    by_cases hjn : j = N
    · have e1 : (((n : Nat) : Int) % 64 != 56) = false := by
        have := hN.2
        simp only [bne_eq_false_iff_eq]
        omega
      subst hjn
      have hN64 := hN.1
      clear hnl hrl hpl hN hGo hG hKG hfr7
      have hGo3 : SumGo wA Q g' (padTo l j ++ lenB l.length 0) wr := by simpa [lenB] using hGo2
      have HGO := Lib.hid hGo3
      clear hGo2 hGo3
      go_wp2_with fail
      go_loopw [44] (fun v wq => ∃ i : Nat, i ≤ 8 ∧ v = .int .i64 i ∧ Hid (SumGo wA Q g' (padTo l j ++ lenB l.length i) wq)) (fun v _ => 8 - (intOf v).toNat)
      case atStart => exact ⟨0, by omega, rfl, HGO.out⟩
      case round =>
        obtain ⟨i, hi, rfl, hGi⟩ := hrel
        have hGi2 := hGi.out
        clear HGO c8 z8
        obtain ⟨n2, a10, cap10, hG, hKG, hfr10⟩ := hGi.out
        have c8 := hG.c8
        have z8 := hG.obj.frozen 8
        have c9 := (HashAt.keep0 HA.out hKG).c9
        have hnl := hG.rest.len
        rw [List.length_drop, List.length_append, padTo_len, lenB_len] at hnl
        have hpl : (padTo l j ++ lenB l.length i).length = l.length + 1 + j + i := by rw [List.length_append, padTo_len, lenB_len]
        by_cases hi8 : i < 8
        · have hn9 : n2 ≤ 1000000 := by omega
          have hjl : (padTo l j ++ lenB l.length i).length < 1000000 := by omega
          have HLB := Lib.hid (lenB_succ l.length i)
          have HPL2 := Lib.hid hpl
          have hL0 : (0 : Int) ≤ l.length := by omega
          have hL1 : (l.length : Int) ≤ 900000 := by omega
          clear hnl hpl hGi hGi2
          generalize hPP : padTo l j ++ lenB (l.length : Int) i = P at *
          have HPP := Lib.hid hPP
          clear hPP
          generalize hLL : (l.length : Int) = L at *
          have HLL := Lib.hid hLL
          clear hLL
          have hwb : IntKind.u64.wrap (L * 8) = L * 8 := by rw [IntKind.wrap_u64]; omega
          have hw1 : IntKind.i64.wrap (8 * (i : Int)) = 8 * (i : Int) := by rw [IntKind.wrap_i64]; omega
          have hw2 : IntKind.i64.wrap (56 - 8 * (i : Int)) = 56 - 8 * (i : Int) := by rw [IntKind.wrap_i64]; omega
          have hi0 : (0 : Int) ≤ i := by omega
          have hi1 : (i : Int) < 8 := by omega
          have hkd : Keeps Nil wr wr.drew := (Keeps.refl _ _).drew
          have hGd := hG.keep0 hkd
          have hKd := hKG.trans hkd
          have c8d := hGd.c8
          have z8d := hGd.obj.frozen 8
          have c9d : wr.drew.cell? ⟨g, 9, none⟩ = some (.int .u64 L) := c9
          clear hG hKG c8 z8 c9 hkd
          have hXe : IntKind.u8.wrap (L * 8 / 2 ^ (56 - 8 * (i : Int)).toNat) = L * 8 / 2 ^ (56 - 8 * i) % 256 := by rw [IntKind.wrap_u8, show (56 - 8 * (i : Int)).toNat = 56 - 8 * i by omega]
          generalize hX : L * 8 / 2 ^ (56 - 8 * i) % 256 = X at *
          have hX0 : 0 ≤ X ∧ X < 256 := by rw [← hX]; exact ⟨Int.emod_nonneg _ (by omega), Int.emod_lt_of_pos _ (by omega)⟩
          go_wp2_with fail
          refine wp_region_held_drew (S := fun _ => True) (by kernel_rfl) trivial (fun hHeld => ?_)
          generalize wr.drew = wd at *
          refine takeL (i := 0) (v := _) rfl (by kernel_rfl) (by kernel_rfl) (by kernel_rfl) (fun _ _ _ h => h) (Or.inl ⟨by rfl, by intro w hSw; (try dsimp only at hSw); go_simp; try with_reducible rfl⟩) (by assumption) ?_
          try simp only [Act.put, List.setIfInBounds_toArray, List.set_cons_zero, List.set_cons_succ]
          refine takeL (i := 1) (v := _) rfl (by kernel_rfl) (by kernel_rfl) (by kernel_rfl) (fun _ _ _ h => h) (Or.inl ⟨by rfl, by intro w hSw; (try dsimp only at hSw); go_simp; try with_reducible rfl⟩) (by assumption) ?_
          try simp only [Act.put, List.setIfInBounds_toArray, List.set_cons_zero, List.set_cons_succ]
          refine takeL (i := 2) (v := _) rfl (by kernel_rfl) (by kernel_rfl) (by kernel_rfl) (fun _ _ _ h => h) (Or.inl ⟨by rfl, by intro w hSw; (try dsimp only at hSw); go_simp; try with_reducible rfl⟩) (by assumption) ?_
          try simp only [Act.put, List.setIfInBounds_toArray, List.set_cons_zero, List.set_cons_succ]
          refine takeL (i := 3) (v := _) rfl (by kernel_rfl) (by kernel_rfl) (by kernel_rfl) (fun _ _ _ h => h) (Or.inl ⟨by rfl, by intro w hSw; (try dsimp only at hSw); go_simp; try with_reducible rfl⟩) (by assumption) ?_
          try simp only [Act.put, List.setIfInBounds_toArray, List.set_cons_zero, List.set_cons_succ]
          refine takeL (i := 5) (v := _) rfl (by kernel_rfl) (by kernel_rfl) (by kernel_rfl) (fun _ _ _ h => h) (Or.inl ⟨by rfl, by intro w hSw; (try dsimp only at hSw); go_simp; try with_reducible rfl⟩) (by assumption) ?_
          try simp only [Act.put, List.setIfInBounds_toArray, List.set_cons_zero, List.set_cons_succ]
          refine takeL (i := 6) (v := _) rfl (by kernel_rfl) (by kernel_rfl) (by kernel_rfl) (fun _ _ _ h => h) (Or.inl ⟨by rfl, by intro w hSw; (try dsimp only at hSw); go_simp; try with_reducible rfl⟩) (by assumption) ?_
          try simp only [Act.put, List.setIfInBounds_toArray, List.set_cons_zero, List.set_cons_succ]
          refine takeL (i := 7) (v := _) rfl (by kernel_rfl) (by kernel_rfl) (by kernel_rfl) (fun _ _ _ h => h) (Or.inl ⟨by rfl, by intro w hSw; (try dsimp only at hSw); go_simp; try with_reducible rfl⟩) (by assumption) ?_
          try simp only [Act.put, List.setIfInBounds_toArray, List.set_cons_zero, List.set_cons_succ]
          refine takeL (i := 10) (v := _) rfl (by kernel_rfl) (by kernel_rfl) (by kernel_rfl) (fun _ _ _ h => h) (Or.inl ⟨by rfl, by intro w hSw; (try dsimp only at hSw); go_simp; try with_reducible rfl⟩) (by assumption) ?_
          try simp only [Act.put, List.setIfInBounds_toArray, List.set_cons_zero, List.set_cons_succ]
          refine takeL (i := 11) (v := _) rfl (by kernel_rfl) (by kernel_rfl) (by kernel_rfl) (fun _ _ _ h => h) (Or.inl ⟨by rfl, by intro w hSw; (try dsimp only at hSw); go_simp; try with_reducible rfl⟩) (by assumption) ?_
          try simp only [Act.put, List.setIfInBounds_toArray, List.set_cons_zero, List.set_cons_succ]
          refine takeL (i := 12) (v := _) rfl (by kernel_rfl) (by kernel_rfl) (by kernel_rfl) (fun _ _ _ h => h) (Or.inl ⟨by rfl, by intro w hSw; (try dsimp only at hSw); go_simp; try with_reducible rfl⟩) (by assumption) ?_
          try simp only [Act.put, List.setIfInBounds_toArray, List.set_cons_zero, List.set_cons_succ]
          refine bothL (i := 4) (j := 8) rfl rfl (by kernel_rfl) (fun K hK => ?_) (fun K hK => ?_)
          · go_simp
            refine (fun hHeld => hK _ _ hHeld ?_) (trivial)
            clear hK
            try simp only [Act.put, List.setIfInBounds_toArray, List.set_cons_zero, List.set_cons_succ]
            refine onlyL (i := 8) rfl (by kernel_rfl) (fun K hK => ?_)
            go_simp
            refine (fun hHeld => hK _ _ hHeld ?_) (trivial)
            clear hK
            try simp only [Act.put, List.setIfInBounds_toArray, List.set_cons_zero, List.set_cons_succ]
            refine takeL (i := 9) (v := _) rfl (by kernel_rfl) (by kernel_rfl) (by kernel_rfl) (fun _ _ _ h => h) (Or.inl ⟨by rfl, by intro w hSw; (try dsimp only at hSw); go_simp; try with_reducible rfl⟩) (by assumption) ?_
            try simp only [Act.put, List.setIfInBounds_toArray, List.set_cons_zero, List.set_cons_succ]
            refine takeL (i := 13) (v := _) rfl (by kernel_rfl) (by kernel_rfl) (by kernel_rfl) (fun _ _ _ h => h) (Or.inl ⟨by rfl, by intro w hSw; (try dsimp only at hSw); go_simp; try with_reducible rfl⟩) (by assumption) ?_
            try simp only [Act.put, List.setIfInBounds_toArray, List.set_cons_zero, List.set_cons_succ]
            refine takeL (i := 14) (v := _) rfl (by kernel_rfl) (by kernel_rfl) (by kernel_rfl) (fun _ _ _ h => h) (Or.inl ⟨by rfl, by intro w hSw; (try dsimp only at hSw); go_simp; try with_reducible rfl⟩) (by assumption) ?_
            try simp only [Act.put, List.setIfInBounds_toArray, List.set_cons_zero, List.set_cons_succ]
            refine onlyL (i := 15) rfl (by kernel_rfl) (fun K hK => ?_)
            refine step_bsOne rfl 65 5 _ rfl [.int .u8 X] (.int .u8 X) rfl 1 Tryd.underlying65 (by kernel_rfl) (by omega) (by decide) rfl (by simp [Act.eval, hXe]) ?_
            refine (fun hHeld => hK _ _ hHeld ?_) (trivial)
            clear hK
            try simp only [Act.put, List.setIfInBounds_toArray, List.set_cons_zero, List.set_cons_succ]
            refine onlyL (i := 16) rfl (by kernel_rfl) (fun K hK => ?_)
            refine step_appendM rfl _ _ 65 rfl 5 Tryd.underlying65 Tryd.info8s a10 cap10 n2 (P.drop (64 * Q)) rfl (hGd.rest.keep0 ((Keeps.refl _ _).alloc _)) _ 1 1 [X] rfl (Src.one (Blk.new _ _ _) rfl) (by omega) ?_
            intro a11 cap11 w11 hm11 hk11 hf11 hz11
            clear hz11
            have hf11' : ∀ k, midOf a11 cap11 k → midOf a10 cap10 k ∨ wd.heap.size + 1 ≤ k := fun k hk => by have := hf11 k hk; simpa using this
            have hob11 := (hGd.obj.keep0 ((Keeps.refl Nil wd).alloc _)).keep hk11 (fun hi => hGd.far g' hi rfl)
            have z8 := hob11.frozen 8
            have x8 : w11.cell? ⟨g', 8, none⟩ = some (.slice a10 n2 cap10) := hob11.cell 8 (hashV_8 _ _ _ _ _ (blocks_len _ _))
            have hG11 := push_step hGd hKd hg0 hfr10 hX0 hm11 hk11 hf11' (by omega)
            rw [← HPP.out, List.append_assoc, HLB.out] at hG11
            clear hob11 hm11 hk11 hf11 hf11'
            refine (fun hHeld => hK _ _ hHeld ?_) (trivial)
            clear hK
            try simp only [Act.put, List.setIfInBounds_toArray, List.set_cons_zero, List.set_cons_succ]
            refine takeL (i := 17) (v := _) rfl (by kernel_rfl) (by kernel_rfl) (by kernel_rfl) (fun _ _ _ h => h) (Or.inl ⟨by rfl, by intro w hSw; (try dsimp only at hSw); go_simp; try with_reducible rfl⟩) (by assumption) ?_
            try simp only [Act.put, List.setIfInBounds_toArray, List.set_cons_zero, List.set_cons_succ]
            refine takeL (i := 18) (v := _) rfl (by kernel_rfl) (by kernel_rfl) (by kernel_rfl) (fun _ _ _ h => h) (Or.inl ⟨by rfl, by intro w hSw; (try dsimp only at hSw); go_simp; try with_reducible rfl⟩) (by assumption) ?_
            try simp only [Act.put, List.setIfInBounds_toArray, List.set_cons_zero, List.set_cons_succ]
            refine onlyL (i := 19) rfl (by kernel_rfl) (fun K hK => ?_)
            go_simp
            refine (fun hHeld => hK _ _ hHeld ?_) (trivial)
            clear hK
            try simp only [Act.put, List.setIfInBounds_toArray, List.set_cons_zero, List.set_cons_succ]
            refine wpAnyH_done (by kernel_rfl) ?_ _
            go_wp2_with fail
            go_roundw
            case rel => first | exact ⟨i + 1, by omega, by go_num, hG11⟩ | ((repeat apply Exists.intro); exact ⟨⟨i + 1, by omega, by go_num, hG11⟩, rfl⟩)
            case measure => simp [intOf]; omega
          · go_simp
            refine (fun hHeld => hK _ _ hHeld ?_) (trivial)
            clear hK
            try simp only [Act.put, List.setIfInBounds_toArray, List.set_cons_zero, List.set_cons_succ]
            refine takeL (i := 9) (v := _) rfl (by kernel_rfl) (by kernel_rfl) (by kernel_rfl) (fun _ _ _ h => h) (Or.inl ⟨by rfl, by intro w hSw; (try dsimp only at hSw); go_simp; try with_reducible rfl⟩) (by assumption) ?_
            try simp only [Act.put, List.setIfInBounds_toArray, List.set_cons_zero, List.set_cons_succ]
            refine takeL (i := 13) (v := _) rfl (by kernel_rfl) (by kernel_rfl) (by kernel_rfl) (fun _ _ _ h => h) (Or.inl ⟨by rfl, by intro w hSw; (try dsimp only at hSw); go_simp; try with_reducible rfl⟩) (by assumption) ?_
            try simp only [Act.put, List.setIfInBounds_toArray, List.set_cons_zero, List.set_cons_succ]
            refine takeL (i := 14) (v := _) rfl (by kernel_rfl) (by kernel_rfl) (by kernel_rfl) (fun _ _ _ h => h) (Or.inl ⟨by rfl, by intro w hSw; (try dsimp only at hSw); go_simp; try with_reducible rfl⟩) (by assumption) ?_
            try simp only [Act.put, List.setIfInBounds_toArray, List.set_cons_zero, List.set_cons_succ]
            refine bothL (i := 4) (j := 15) rfl rfl (by kernel_rfl) (fun K hK => ?_) (fun K hK => ?_)
            · go_simp
              refine (fun hHeld => hK _ _ hHeld ?_) (trivial)
              clear hK
              try simp only [Act.put, List.setIfInBounds_toArray, List.set_cons_zero, List.set_cons_succ]
              refine onlyL (i := 15) rfl (by kernel_rfl) (fun K hK => ?_)
              refine step_bsOne rfl 65 5 _ rfl [.int .u8 X] (.int .u8 X) rfl 1 Tryd.underlying65 (by kernel_rfl) (by omega) (by decide) rfl (by simp [Act.eval, hXe]) ?_
              refine (fun hHeld => hK _ _ hHeld ?_) (trivial)
              clear hK
              try simp only [Act.put, List.setIfInBounds_toArray, List.set_cons_zero, List.set_cons_succ]
              refine onlyL (i := 16) rfl (by kernel_rfl) (fun K hK => ?_)
              refine step_appendM rfl _ _ 65 rfl 5 Tryd.underlying65 Tryd.info8s a10 cap10 n2 (P.drop (64 * Q)) rfl (hGd.rest.keep0 ((Keeps.refl _ _).alloc _)) _ 1 1 [X] rfl (Src.one (Blk.new _ _ _) rfl) (by omega) ?_
              intro a11 cap11 w11 hm11 hk11 hf11 hz11
              clear hz11
              have hf11' : ∀ k, midOf a11 cap11 k → midOf a10 cap10 k ∨ wd.heap.size + 1 ≤ k := fun k hk => by have := hf11 k hk; simpa using this
              have hob11 := (hGd.obj.keep0 ((Keeps.refl Nil wd).alloc _)).keep hk11 (fun hi => hGd.far g' hi rfl)
              have z8 := hob11.frozen 8
              have x8 : w11.cell? ⟨g', 8, none⟩ = some (.slice a10 n2 cap10) := hob11.cell 8 (hashV_8 _ _ _ _ _ (blocks_len _ _))
              have hG11 := push_step hGd hKd hg0 hfr10 hX0 hm11 hk11 hf11' (by omega)
              rw [← HPP.out, List.append_assoc, HLB.out] at hG11
              clear hob11 hm11 hk11 hf11 hf11'
              refine (fun hHeld => hK _ _ hHeld ?_) (trivial)
              clear hK
              try simp only [Act.put, List.setIfInBounds_toArray, List.set_cons_zero, List.set_cons_succ]
              refine takeL (i := 17) (v := _) rfl (by kernel_rfl) (by kernel_rfl) (by kernel_rfl) (fun _ _ _ h => h) (Or.inl ⟨by rfl, by intro w hSw; (try dsimp only at hSw); go_simp; try with_reducible rfl⟩) (by assumption) ?_
              try simp only [Act.put, List.setIfInBounds_toArray, List.set_cons_zero, List.set_cons_succ]
              refine takeL (i := 18) (v := _) rfl (by kernel_rfl) (by kernel_rfl) (by kernel_rfl) (fun _ _ _ h => h) (Or.inl ⟨by rfl, by intro w hSw; (try dsimp only at hSw); go_simp; try with_reducible rfl⟩) (by assumption) ?_
              try simp only [Act.put, List.setIfInBounds_toArray, List.set_cons_zero, List.set_cons_succ]
              refine onlyL (i := 19) rfl (by kernel_rfl) (fun K hK => ?_)
              go_simp
              refine (fun hHeld => hK _ _ hHeld ?_) (trivial)
              clear hK
              try simp only [Act.put, List.setIfInBounds_toArray, List.set_cons_zero, List.set_cons_succ]
              refine wpAnyH_done (by kernel_rfl) ?_ _
              go_wp2_with fail
              go_roundw
              case rel => first | exact ⟨i + 1, by omega, by go_num, hG11⟩ | ((repeat apply Exists.intro); exact ⟨⟨i + 1, by omega, by go_num, hG11⟩, rfl⟩)
              case measure => simp [intOf]; omega
            · skip
              refine step_bsOne rfl 65 5 _ rfl [.int .u8 X] (.int .u8 X) rfl 1 Tryd.underlying65 (by kernel_rfl) (by omega) (by decide) rfl (by simp [Act.eval, hXe]) ?_
              refine (fun hHeld => hK _ _ hHeld ?_) (trivial)
              clear hK
              try simp only [Act.put, List.setIfInBounds_toArray, List.set_cons_zero, List.set_cons_succ]
              have c8e : (wd.alloc (.cells #[.int .u8 X] 5)).cell? ⟨g', 8, none⟩ = some (.slice a10 n2 cap10) := ((Keeps.refl Nil wd).alloc _).cell c8d (fun h => h)
              refine onlyL (i := 4) rfl (by kernel_rfl) (fun K hK => ?_)
              go_simp
              refine (fun hHeld => hK _ _ hHeld ?_) (trivial)
              clear hK
              try simp only [Act.put, List.setIfInBounds_toArray, List.set_cons_zero, List.set_cons_succ]
              refine onlyL (i := 16) rfl (by kernel_rfl) (fun K hK => ?_)
              refine step_appendM rfl _ _ 65 rfl 5 Tryd.underlying65 Tryd.info8s a10 cap10 n2 (P.drop (64 * Q)) rfl (hGd.rest.keep0 ((Keeps.refl _ _).alloc _)) _ 1 1 [X] rfl (Src.one (Blk.new _ _ _) rfl) (by omega) ?_
              intro a11 cap11 w11 hm11 hk11 hf11 hz11
              clear hz11
              have hf11' : ∀ k, midOf a11 cap11 k → midOf a10 cap10 k ∨ wd.heap.size + 1 ≤ k := fun k hk => by have := hf11 k hk; simpa using this
              have hob11 := (hGd.obj.keep0 ((Keeps.refl Nil wd).alloc _)).keep hk11 (fun hi => hGd.far g' hi rfl)
              have z8 := hob11.frozen 8
              have x8 : w11.cell? ⟨g', 8, none⟩ = some (.slice a10 n2 cap10) := hob11.cell 8 (hashV_8 _ _ _ _ _ (blocks_len _ _))
              have hG11 := push_step hGd hKd hg0 hfr10 hX0 hm11 hk11 hf11' (by omega)
              rw [← HPP.out, List.append_assoc, HLB.out] at hG11
              clear hob11 hm11 hk11 hf11 hf11'
              refine (fun hHeld => hK _ _ hHeld ?_) (trivial)
              clear hK
              try simp only [Act.put, List.setIfInBounds_toArray, List.set_cons_zero, List.set_cons_succ]
              refine takeL (i := 17) (v := _) rfl (by kernel_rfl) (by kernel_rfl) (by kernel_rfl) (fun _ _ _ h => h) (Or.inl ⟨by rfl, by intro w hSw; (try dsimp only at hSw); go_simp; try with_reducible rfl⟩) (by assumption) ?_
              try simp only [Act.put, List.setIfInBounds_toArray, List.set_cons_zero, List.set_cons_succ]
              refine takeL (i := 18) (v := _) rfl (by kernel_rfl) (by kernel_rfl) (by kernel_rfl) (fun _ _ _ h => h) (Or.inl ⟨by rfl, by intro w hSw; (try dsimp only at hSw); go_simp; try with_reducible rfl⟩) (by assumption) ?_
              try simp only [Act.put, List.setIfInBounds_toArray, List.set_cons_zero, List.set_cons_succ]
              refine onlyL (i := 19) rfl (by kernel_rfl) (fun K hK => ?_)
              go_simp
              refine (fun hHeld => hK _ _ hHeld ?_) (trivial)
              clear hK
              try simp only [Act.put, List.setIfInBounds_toArray, List.set_cons_zero, List.set_cons_succ]
              refine wpAnyH_done (by kernel_rfl) ?_ _
              go_wp2_with fail
              go_roundw
              case rel => first | exact ⟨i + 1, by omega, by go_num, hG11⟩ | ((repeat apply Exists.intro); exact ⟨⟨i + 1, by omega, by go_num, hG11⟩, rfl⟩)
              case measure => simp [intOf]; omega
        · obtain rfl : i = 8 := by omega
          have hP : padTo l j ++ lenB l.length 8 = padded l := by unfold padded; rw [HPN.out]
          rw [hP] at hG hpl
          have hwr := write_core hG (by omega) (by omega) (row_none wr) (capb := 0) (fun _ => ⟨rfl, rfl⟩) (fun k hk h0 => by omega) (by omega)
          rw [List.append_nil] at hwr
          have HWR := Lib.hid hwr
          have HDD := Lib.hid HD.out
          clear hwr hG hP hGi hGi2 hnl hpl c8 z8 c9
          go_wp2_with fail
          refine HWR.out.mono ?_
          rintro e w12 ⟨rfl, a12, cap12, h12, hk12, hf12⟩
          have hK12 : Keeps Nil wA w12 := hKG.step hk12 (fun i hi => by
            rcases hi with rfl | hi
            · exact .inr hg0
            · exact .inr (hfr10 i hi))
          have hb12 := h12.obj
          have hS8 := blocks_len (padded l) ((padded l).length / 64)
          clear HWR h12 hk12 hf12 hKG hfr10
          generalize blocks shaH0 (padded l) ((padded l).length / 64) = S at *
          generalize (padded l).length % 64 = m12 at *
          have HS8 := Lib.hid hS8
          have hbR12 := hbR.keep0 hK12
          have hK12w := hkA.trans hK12
          have hkO := (Keeps.refl Nil w12).alloc (.cells Z.toArray 26)
          have hbO := Blk.new w12 Z 26
          have hbG := hb12.keep0 hkO
          have hbRO := hbR12.keep0 hkO
          have hKO := hK12w.trans hkO
          have hltG := hb12.lt
          have hltR := hbR12.lt
          clear hb12 hbR12 hK12 hK12w hkO hS8 hbR hbR4
          go_wp2_with fail
          generalize hgo : w12.heap.size = go at *
          generalize w12.alloc (.cells Z.toArray 26) = wo at *
          have hbO0 : Blk wo go (byteV (digUp S 0)) 26 := by
            have : byteV (digUp S 0) = Z := HZE.out
            rw [this]; exact hbO
          have HBO := Lib.hid hbO0
          clear hbO hbO0
          have hne : g' ≠ go := by omega
          go_loopw [69] (fun v wq => ∃ i : Nat, i ≤ 32 ∧ v = .int .i64 i ∧ Hid (Blk wq go (byteV (digUp S i)) 26) ∧ Hid (Keeps (One go) wo wq)) (fun v _ => 32 - (intOf v).toNat)
          case atStart => exact ⟨0, by omega, rfl, HBO.out, Keeps.refl _ _⟩
          case round =>
            obtain ⟨i, hi32, rfl, hBi, hki⟩ := hrel
            clear HBO
            by_cases hi2 : i < 32
            · obtain ⟨d, hd⟩ : ∃ d, d = i / 4 := ⟨_, rfl⟩
              obtain ⟨r, hr⟩ : ∃ r, r = i % 4 := ⟨_, rfl⟩
              have hq1 : (i : Int) / 4 = (d : Int) := by omega
              have hq2 : (i : Int) % 4 = (r : Int) := by omega
              have hd8 : d < 8 := by omega
              have hr4 : r < 4 := by omega
              have x8 := (hbG.keep hki.out (fun e => hne e)).cell d (v := .int .u32 (S.getD d 0)) (by
                unfold hashV
                rw [List.getElem?_append_left (by rw [wordV_len]; have := HS8.out; omega)]
                exact wordV_at _ _ (by have := HS8.out; omega))
              have hBi2 := hBi.out
              have y8 := hBi2.cell i (v := .int .u8 ((digUp S i).getD i 0)) (by have := digUp_len S i hi32; simp [byteV, List.getD, this, hi2])
              have z8 := hBi2.frozen i
              have hnew := hBi2.set i (.int .u8 (wordB S i))
              rw [← byteV_setS, digUp_succ S i hi2] at hnew
              have hwb : wordB S i = S.getD d 0 / 2 ^ (24 - 8 * r) % 256 := by unfold wordB; rw [hd, hr]
              have hkn := hki.out.setOne i (.int .u8 (wordB S i))
              generalize S.getD d 0 = xx at *
              generalize (digUp S i).getD i 0 = yy at *
              have HWE := Lib.hid hwb
              have HNEW := Lib.hid (And.intro hnew hkn)
              clear hnew hkn hwb hBi2 hd hr hbG
              have hi0 : (0 : Int) ≤ i := by omega
              have hi1 : (i : Int) < 32 := by omega
              have hd0 : (0 : Int) ≤ d := by omega
              have hd1 : (d : Int) < 8 := by omega
              have hr0 : (0 : Int) ≤ r := by omega
              have hr1 : (r : Int) < 4 := by omega
              go_wp2_with fail
              rw [HWE.out] at HNEW
              exact ⟨⟨i + 1, by omega, by go_num, HNEW.out.1, HNEW.out.2⟩, by simp [intOf]; omega⟩
            · obtain rfl : i = 32 := by omega
              have hBf := hBi.out
              rw [digUp_full] at hBf
              have hbf := hbRO.keep hki.out (fun e => by have : w.heap.size = go := e; omega)
              have hKF : Keeps Nil w wr := hKO.step hki.out (fun i hi => .inr (by rw [show i = go from hi]; omega))
              have hl32 : (byteV ((List.range 32).map (wordB S))).length = 32 := by simp [byteV]
              have HL32 := Lib.hid hl32
              rw [← HD.out] at hBf HL32
              have HDE := Lib.hid HD.out
              generalize hDD : digest l = D at *
              have HDX := Lib.hid hDD
              clear hDD
              have hone := byteV_one D
              clear hl32 hBi hki hbG hbRO hKO HD HDD
              go_wp2_with (first | (refine wpl_load rfl 26 _ rfl go rfl hBf _ Tryd.undH rfl (by rw [HL32.out]; exact Tryd.infoH) ?_) | (refine wpl_store rfl 26 _ _ rfl w.heap.size rfl (byteV D) rfl hbf (by rw [HL32.out, HZ.out]) (by rw [HL32.out]; exact Tryd.infoH) hone ?_))
              intro w20 hb20 hk20 hs20
              go_wp2_with fail
              refine ret_blk Tryd.results46 w.heap.size rfl hb20 _ Tryd.undH rfl (by rw [HL32.out]; exact Tryd.infoH) rfl ⟨by rw [HDX.out], hKF.step hk20 (fun i hi => .inr (by rw [show i = w.heap.size from hi]; exact Nat.le_refl _))⟩
    · have e1 : (((n : Nat) : Int) % 64 != 56) = true := by
        have := hN.2
        simp only [bne_iff_ne, ne_eq]
        omega
      have hjl : (padTo l j).length < 1000000 := by rw [hpl]; omega
      have hn9 : n ≤ 1000000 := by omega
      clear hnl hrl hpl hGo
      -- the byte 0 goes behind: what holds is hG (in the world wr, kept hKG, the slice's blocks new hfr7), what will hold is hG8
      go_wp2_with (first | (refine wpList_bs rfl 65 5 1 _ rfl [.int .u8 (0)] Tryd.underlying65 Tryd.bs8 rfl (by decide) (by decide) rfl (by simp [Value.cells]) ?_) | (at_builtin; go_must (refine wpl_appendM rfl _ _ 65 rfl 5 Tryd.underlying65 Tryd.info8s a7 cap7 n ((padTo l j).drop (64 * Q)) rfl (hG.rest.keep0 ((Keeps.refl _ _).alloc _)) _ 1 1 [0] rfl (Src.one (Blk.new _ _ _) rfl) (by omega) ?_)))
      intro a8 cap8 w8 hm8 hk8 hf8
      try intro _
      have hob8 := (hG.obj.keep0 ((Keeps.refl Nil wr).alloc _)).keep hk8 (fun hi => hG.far g' hi rfl)
      have z8 := hob8.frozen 8
      have x8 : w8.cell? ⟨g', 8, none⟩ = some (.slice a7 n cap7) := hob8.cell 8 (hashV_8 _ _ _ _ _ (blocks_len _ _))
      have hG8 := push_step hG hKG hg0 hfr7 (by omega) hm8 hk8 hf8 (by omega)
      clear hob8 hm8 hk8 hf8
      rw [padTo_succ] at hG8
      clear hG hKG hfr7
      go_wp2_with fail
      refine ⟨⟨j + 1, by omega, hG8⟩, ?_⟩
      obtain ⟨n8, a9, cap9, h9, _⟩ := hG8
      have h1 := h9.rest.len
      rw [List.length_drop, padTo_len] at h1
      have h2 := HNL.out
      rw [restLen_of h9.c8, HRL.out]
      clear z8 x8
      have h3 : n % 64 ≠ 56 := fun e => by
        have e2 : ((n : Nat) : Int) % 64 = 56 := by omega
        simp [e2] at e1
      omega
end Go.Proofs.YtmbdldnldcgdjaaDoor
