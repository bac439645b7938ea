/-
  Chapter 11's writers, the given one beside the document's: the law CodeWrites.
-/
import Derived.Test.YtdkfhfflhglmaaaDoorCodeFirst
namespace Go.Proofs.YtdkfhfflhglmaaaDoor
set_option linter.unusedSimpArgs false
set_option linter.unusedVariables false
open Go.RowKit


set_option maxHeartbeats 400000 in
theorem rfU8_walk {w : World} {g cap : Nat} {a : Option Addr} {l : List Int} (h : IsWr 41 w g a cap l) (n : Int) (hl : l.length ≤ 100000) :
    Calls Tryd.prog 27 #[.pointer (some ⟨g, 0, none⟩), .int .i64 n] w (WrPost 41 g a (l ++ [n % 256]) w) := by
  have c0 := h.obj.cell 0 (v := .slice a l.length cap) rfl
  have z0 := h.obj.frozen 0
  have hlt := h.obj.lt
  have hmx := h.arr.2.2.1
  have hne := h.ne
  have HH := Lib.hid h
  have ho := h.arr
  clear h
  generalize hL : l.length = L at *
  go_enter Tryd.func27, Tryd.ntmps27
  go_wp2_with (first | (refine wpList_bs rfl 36 5 1 _ rfl [.int .u8 (n % 256)] Tryd.underlying36 Tryd.bs8 rfl (by decide) (by decide) rfl (by simp [Value.cells]) ?_) | (at_builtin; go_must (refine wpl_append rfl _ _ 36 rfl 5 1 1 Tryd.underlying36 Tryd.info8s (by omega) _ _ L _ rfl (ho.keep0 ((Keeps.refl _ _).alloc _)) _ 1 1 [.int .u8 (n % 256)] rfl (Src.one (Blk.new _ _ _) rfl) (by unfold maxLen; omega) (by omega) ?_)))
  intro a' cap' w2 hown2 hk2 hf2 _
  have hk1 : Keeps Nil w (w.alloc (.cells [.int .u8 (n % 256)].toArray 5)) := (Keeps.refl Nil w).alloc _
  have hb2 := (HH.out.obj.keep0 hk1).keep hk2 hne
  rw [hL] at hb2
  have c2 := hb2.cell 0 (v := .slice a L cap) rfl
  have z2 := hb2.frozen 0
  have hlen : (l ++ [n % 256]).length = L + 1 := by simp [hL]
  have hst := HH.out.stored (l' := l ++ [n % 256]) hk1 (by rw [hlen, byteV_append]; exact hown2) hk2 (fun k hk => (hf2 k hk).imp id (fun h => by omega))
  rw [hlen] at hst
  have HS := Lib.hid hst
  clear hst hown2 hk2 hf2 hb2 hlen
  go_wp2_with fail
  go_end0
  exact ⟨a', cap', rfl, HS.out⟩
set_option maxHeartbeats 400000 in
theorem rfRaw_walk {w : World} {g cap : Nat} {a : Option Addr} {l : List Int} (h : IsWr 41 w g a cap l) (hl : l.length ≤ 100000) {ar : Option Addr} {len capr : Nat} {r : List Int} (hr : Row .u8 w ar len r) (hc : ar = none → capr = 0 ∧ len = 0) (hlen : len ≤ 100000) :
    Calls Tryd.prog 31 #[.pointer (some ⟨g, 0, none⟩), .slice ar len capr] w (WrPost 41 g a (l ++ r) w) := by
  have c0 := h.obj.cell 0 (v := .slice a l.length cap) rfl
  have z0 := h.obj.frozen 0
  have hlt := h.obj.lt
  have hmx := h.arr.2.2.1
  have hne := h.ne
  have HH := Lib.hid h
  have ho := h.arr
  have hrl := hr.llen
  have hsrc := hr.src hc
  have HR := Lib.hid hsrc
  clear h hr hc hsrc
  generalize hL : l.length = L at *
  go_enter Tryd.func31, Tryd.ntmps31
  go_wp2_with (at_builtin; go_must (refine wpl_append rfl _ _ 36 rfl 5 1 1 Tryd.underlying36 Tryd.info8s (by omega) _ _ L _ rfl ho _ len capr (byteV r) rfl HR.out (by unfold maxLen; omega) (by omega) ?_))
  intro a' cap' w2 hown2 hk2 hf2 _
  have hb2 := HH.out.obj.keep hk2 hne
  rw [hL] at hb2
  have c2 := hb2.cell 0 (v := .slice a L cap) rfl
  have z2 := hb2.frozen 0
  have hlen2 : (l ++ r).length = L + len := by simp [hL, hrl]
  have hst := HH.out.stored (l' := l ++ r) (Keeps.refl Nil w) (by rw [hlen2, byteV_append]; exact hown2) hk2 (fun k hk => (hf2 k hk).imp id (fun h => by omega))
  rw [hlen2] at hst
  have HS := Lib.hid hst
  clear hst hown2 hk2 hf2 hb2 hlen2
  go_wp2_with fail
  go_end0
  exact ⟨a', cap', rfl, HS.out⟩

def PutPost32 (a : Option Addr) (l : List Int) (n : Int) (w : World) (e : Ending) (w2 : World) : Prop :=
  ∃ a' cap', e = .returned (.slice a' (l ++ le4 n).length cap') ∧ Own w2 5 1 a' cap' (l ++ le4 n).length (byteV (l ++ le4 n)) ∧ Keeps (blkOf a) w w2 ∧ ∀ k, blkOf a' k → blkOf a k ∨ w.heap.size ≤ k
set_option maxHeartbeats 800000 in
theorem put32_walk {w : World} {cap : Nat} {a : Option Addr} {l : List Int} (ho : Own w 5 1 a cap l.length (byteV l)) (n : Int) (hn0 : 0 ≤ n) (hn : n < 4294967296) (hl : l.length ≤ 100000) :
    Calls Tryd.prog 82 #[.slice a l.length cap, .int .u32 n] w (PutPost32 a l n w) := by
  have hmx := ho.2.2.1
  have hlt := ho.lt
  generalize hL : l.length = L at *
  go_enter Tryd.func82, Tryd.ntmps82
  go_wp2_with (first | (refine wpList_bs rfl 36 5 4 _ rfl (byteV (le4 n)) Tryd.underlying36 Tryd.bs8 rfl (by decide) (by decide) rfl (by simp [Value.cells, byteV, le4]) ?_) | (at_builtin; go_must (refine wpl_append rfl _ _ 36 rfl 5 1 1 Tryd.underlying36 Tryd.info8s (by omega) _ _ L _ rfl (ho.keep0 ((Keeps.refl _ _).alloc _)) _ 4 4 (byteV (le4 n)) rfl (Src.many (Blk.new _ _ _) 4 rfl) (by unfold maxLen; omega) (by omega) ?_)))
  intro a' cap' w2 hown2 hk2 hf2 _
  have hk1 : Keeps Nil w (w.alloc (.cells (byteV (le4 n)).toArray 5)) := (Keeps.refl Nil w).alloc _
  have hlen : (l ++ le4 n).length = L + 4 := by simp [hL, le4]
  go_wp2_with fail
  go_ret
  refine ⟨a', cap', by rw [hlen]; rfl, by rw [hlen, byteV_append]; exact hown2, (hk1.nil (S := blkOf a)).step hk2 (fun i hi => .inl hi), fun k hk => ?_⟩
  rcases hf2 k hk with h | h
  · exact .inl h
  · right; omega
set_option maxHeartbeats 800000 in
theorem rfU32_walk {w : World} {g cap : Nat} {a : Option Addr} {l : List Int} (h : IsWr 41 w g a cap l) (n : Int) (hn0 : 0 ≤ n) (hn : n < 4294967296) (hl : l.length ≤ 100000) :
    Calls Tryd.prog 29 #[.pointer (some ⟨g, 0, none⟩), .int .u32 n] w (WrPost 41 g a (l ++ le4 n) w) := by
  have c0 := h.obj.cell 0 (v := .slice a l.length cap) rfl
  have hne := h.ne
  have HH := Lib.hid h
  have HP := Lib.hid (put32_walk h.arr n hn0 hn hl)
  clear h
  go_enter Tryd.func29, Tryd.ntmps29
  go_wp2_with fail
  refine HP.out.mono ?_
  rintro e w2 ⟨a', cap', rfl, ho2, hk2, hf2⟩
  have hb2 := HH.out.obj.keep hk2 hne
  have c2 := hb2.cell 0 (v := .slice a l.length cap) rfl
  have z2 := hb2.frozen 0
  have hst := HH.out.stored (Keeps.refl Nil w) ho2 hk2 hf2
  have HS := Lib.hid hst
  clear hst ho2 hk2 hf2 hb2
  generalize (l ++ le4 n).length = L2 at *
  go_wp2_with fail
  go_end0
  exact ⟨a', cap', rfl, HS.out⟩
set_option maxHeartbeats 400000 in
theorem wrList2_walk {w : World} {g cap : Nat} {a : Option Addr} {l : List Int} (h : IsWr 38 w g a cap l) (hl : l.length ≤ 90000) {ar : Option Addr} {len capr : Nat} {r : List Int} (hr : Row .u8 w ar len r) (hc : ar = none → capr = 0 ∧ len = 0) (hlen : len ≤ 100000) (hfar : 0 < len → ∀ k, blkOf ar k → ¬ wrOf g a k) :
    Calls Tryd.prog 32 #[.pointer (some ⟨g, 0, none⟩), .slice ar len capr] w (WrPost 38 g a (l ++ (le4 len ++ r)) w) := by
  have hl4 : (l ++ le4 len).length ≤ 100000 := by simp [le4]; omega
  have h0 : (0 : Int) ≤ len := by omega
  have h1 : (len : Int) < 4294967296 := by omega
  go_enter Tryd.func32, Tryd.ntmps32
  go_wp2_with fail
  refine (wrU32_walk h (len : Int) h0 h1 (by omega)).mono ?_
  rintro e w1 ⟨a1, c1, rfl, h1', hk1, hf1⟩
  have hr1 : Row .u8 w1 ar len r := ⟨hr.llen, hr.most, fun h0 => by
    obtain ⟨b, off, ha, hb, hcc⟩ := hr.cell h0
    exact ⟨b, off, ha, Nat.lt_of_lt_of_le hb hk1.size, fun i hi => hk1.cell (hcc i hi) (hfar h0 b ⟨_, ha, rfl⟩)⟩, hr.wf⟩
  go_wp2_with fail
  refine (wrRaw_walk h1' hl4 hr1 hc hlen).mono ?_
  rintro e w2 ⟨a2, c2, rfl, h2, hk2, hf2⟩
  go_wp2_with fail
  go_end0
  rw [List.append_assoc] at h2
  refine ⟨a2, c2, rfl, h2, hk1.step hk2 hf1, fun k hk => ?_⟩
  rcases hf2 k hk with h | h
  · exact hf1 k h
  · exact .inr (Nat.le_trans hk1.size h)
set_option maxHeartbeats 400000 in
theorem rfList2_walk {w : World} {g cap : Nat} {a : Option Addr} {l : List Int} (h : IsWr 41 w g a cap l) (hl : l.length ≤ 90000) {ar : Option Addr} {len capr : Nat} {r : List Int} (hr : Row .u8 w ar len r) (hc : ar = none → capr = 0 ∧ len = 0) (hlen : len ≤ 100000) (hfar : 0 < len → ∀ k, blkOf ar k → ¬ wrOf g a k) :
    Calls Tryd.prog 33 #[.pointer (some ⟨g, 0, none⟩), .slice ar len capr] w (WrPost 41 g a (l ++ (le4 len ++ r)) w) := by
  have hl4 : (l ++ le4 len).length ≤ 100000 := by simp [le4]; omega
  have h0 : (0 : Int) ≤ len := by omega
  have h1 : (len : Int) < 4294967296 := by omega
  go_enter Tryd.func33, Tryd.ntmps33
  go_wp2_with fail
  refine (rfU32_walk h (len : Int) h0 h1 (by omega)).mono ?_
  rintro e w1 ⟨a1, c1, rfl, h1', hk1, hf1⟩
  have hr1 : Row .u8 w1 ar len r := ⟨hr.llen, hr.most, fun h0 => by
    obtain ⟨b, off, ha, hb, hcc⟩ := hr.cell h0
    exact ⟨b, off, ha, Nat.lt_of_lt_of_le hb hk1.size, fun i hi => hk1.cell (hcc i hi) (hfar h0 b ⟨_, ha, rfl⟩)⟩, hr.wf⟩
  go_wp2_with fail
  refine (rfRaw_walk h1' hl4 hr1 hc hlen).mono ?_
  rintro e w2 ⟨a2, c2, rfl, h2, hk2, hf2⟩
  go_wp2_with fail
  go_end0
  rw [List.append_assoc] at h2
  refine ⟨a2, c2, rfl, h2, hk1.step hk2 hf1, fun k hk => ?_⟩
  rcases hf2 k hk with h | h
  · exact hf1 k h
  · exact .inr (Nat.le_trans hk1.size h)

/-- Both writers, apart from one another, in memory that is not older than base. -/
structure Both (w : World) (base gw gx : Nat) (a : Option Addr) (c : Nat) (a' : Option Addr) (c' : Nat) (l l' : List Int) : Prop where
  wr : IsWr 38 w gw a c l
  rf : IsWr 41 w gx a' c' l'
  apart : ∀ k, wrOf gw a k → ¬ wrOf gx a' k
  ge : ∀ k, wrOf gw a k → base ≤ k
  ge' : ∀ k, wrOf gx a' k → base ≤ k
section
variable {w w' : World} {base gw gx c c' : Nat} {a a' : Option Addr} {l l' : List Int}
theorem Both.keep0 (h : Both w base gw gx a c a' c' l l') (hk : Keeps Nil w w') : Both w' base gw gx a c a' c' l l' := ⟨h.wr.keep0 hk, h.rf.keep0 hk, h.apart, h.ge, h.ge'⟩
theorem Both.left (h : Both w base gw gx a c a' c' l l') {a2 : Option Addr} {c2 : Nat} {l2 : List Int} (hw : IsWr 38 w' gw a2 c2 l2) (hk : Keeps (wrOf gw a) w w') (hf : ∀ k, wrOf gw a2 k → wrOf gw a k ∨ w.heap.size ≤ k) : Both w' base gw gx a2 c2 a' c' l2 l' := by
  have h1 := h.wr.obj.lt
  have h2 := h.ge gw (.inl rfl)
  refine ⟨hw, h.rf.keep hk (fun k hk hk' => h.apart k hk' hk), fun k hk hk' => ?_, fun k hk => ?_, h.ge'⟩
  · rcases hf k hk with h3 | h3
    · exact h.apart k h3 hk'
    · have := h.rf.lt k hk'; omega
  · rcases hf k hk with h3 | h3
    · exact h.ge k h3
    · omega
theorem Both.right (h : Both w base gw gx a c a' c' l l') {a2 : Option Addr} {c2 : Nat} {l2 : List Int} (hw : IsWr 41 w' gx a2 c2 l2) (hk : Keeps (wrOf gx a') w w') (hf : ∀ k, wrOf gx a2 k → wrOf gx a' k ∨ w.heap.size ≤ k) : Both w' base gw gx a c a2 c2 l l2 := by
  have h1 := h.rf.obj.lt
  have h2 := h.ge' gx (.inl rfl)
  refine ⟨h.wr.keep hk (fun k hk hk' => h.apart k hk hk'), hw, fun k hk hk' => ?_, h.ge, fun k hk => ?_⟩
  · rcases hf k hk' with h3 | h3
    · exact h.apart k hk h3
    · have := h.wr.lt k hk; omega
  · rcases hf k hk with h3 | h3
    · exact h.ge' k h3
    · omega
end
end Go.Proofs.YtdkfhfflhglmaaaDoor
