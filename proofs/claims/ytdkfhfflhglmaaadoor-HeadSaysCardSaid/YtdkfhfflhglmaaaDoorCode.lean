/-
  Package code's Writer and courierref9's: what is written, a contract each over the bytes so far.
-/
import Derived.Test.YtdkfhfflhglmaaaDoorProg
import Derived.Test.YtdkfhfflhglmaaaDoorBytes
import Derived.Test.YtdkfhfflhglmaaaDoorVars
namespace Go.Proofs.YtdkfhfflhglmaaaDoor
set_option linter.unusedSimpArgs false
set_option linter.unusedVariables false
open Go.RowKit

/-- A writer at block g: its bytes in a slice of its own. -/
structure IsWr (T : TypeId) (w : World) (g : Nat) (a : Option Addr) (cap : Nat) (l : List Int) : Prop where
  obj : Blk w g [.slice a l.length cap] T
  arr : Own w 5 1 a cap l.length (byteV l)
  ne : ¬ blkOf a g
/-- The blocks that a writer uses. -/
def wrOf (g : Nat) (a : Option Addr) : Nat → Prop := fun k => k = g ∨ blkOf a k

section
variable {T : TypeId} {w w' : World} {g cap : Nat} {a : Option Addr} {l : List Int}
theorem IsWr.keep {S : Nat → Prop} (h : IsWr T w g a cap l) (hk : Keeps S w w') (hn : ∀ k, wrOf g a k → ¬ S k) : IsWr T w' g a cap l :=
  ⟨h.obj.keep hk (hn g (.inl rfl)), h.arr.keep hk (fun k hk' => hn k (.inr hk')), h.ne⟩
theorem IsWr.keep0 (h : IsWr T w g a cap l) (hk : Keeps Nil w w') : IsWr T w' g a cap l := h.keep hk (fun _ _ h => h)
theorem IsWr.lt (h : IsWr T w g a cap l) : ∀ k, wrOf g a k → k < w.heap.size := fun k hk => by
  rcases hk with rfl | hk
  · exact h.obj.lt
  · exact h.arr.lt k hk
theorem IsWr.new (w : World) (T : TypeId) (n : Nat) (hn : n = w.heap.size) : IsWr T (w.alloc (.cells #[.slice none 0 0] T)) n none 0 [] :=
  ⟨Blk.new' w [.slice none 0 0] T hn, Own.nil _ _ _, blkOf_none _⟩
end

/-- What a writing leaves. -/
def WrPost (T : TypeId) (g : Nat) (a : Option Addr) (l' : List Int) (w : World) (e : Ending) (w' : World) : Prop :=
  ∃ a' cap', e = .returned (.tuple #[]) ∧ IsWr T w' g a' cap' l' ∧ Keeps (wrOf g a) w w' ∧ ∀ k, wrOf g a' k → wrOf g a k ∨ w.heap.size ≤ k

/-- The slice in the writer's cell is set to what append left. -/
theorem IsWr.stored {T : TypeId} {w w1 w2 : World} {g cap cap' : Nat} {a a' : Option Addr} {l l' : List Int} (h : IsWr T w g a cap l) (hk1 : Keeps Nil w w1) (ho : Own w2 5 1 a' cap' l'.length (byteV l')) (hk : Keeps (blkOf a) w1 w2) (hf : ∀ k, blkOf a' k → blkOf a k ∨ w.heap.size ≤ k) :
    IsWr T (w2.setCell ⟨g, 0, none⟩ (.slice a' l'.length cap')) g a' cap' l' ∧ Keeps (wrOf g a) w (w2.setCell ⟨g, 0, none⟩ (.slice a' l'.length cap')) ∧ ∀ k, wrOf g a' k → wrOf g a k ∨ w.heap.size ≤ k := by
  have hlt := h.obj.lt
  have hs := hk1.size
  have hne : ¬ blkOf a' g := fun h' => by
    rcases hf g h' with h'' | h''
    · exact h.ne h''
    · omega
  have hb2 := (h.obj.keep0 hk1).keep hk h.ne
  refine ⟨⟨hb2.set 0 _, ho.keep ((Keeps.refl (One g) w2).setOne 0 _) (fun k hk' e => hne (by rw [← show k = g from e]; exact hk')), hne⟩, ?_, ?_⟩
  · refine (((hk1.nil (S := wrOf g a)).step hk (fun i hi => .inl (.inr hi)))).setCell (p := ⟨g, 0, none⟩) (.inl (.inl rfl)) _
  · intro k hk'
    rcases hk' with rfl | hk'
    · exact .inl (.inl rfl)
    · rcases hf k hk' with h' | h'
      · exact .inl (.inr h')
      · exact .inr h'

/-- A number's four bytes, the least first. -/
def le4 (n : Int) : List Int := [n % 256, n / 256 % 256, n / 65536 % 256, n / 16777216]
theorem byteV_append (l r : List Int) : byteV (l ++ r) = byteV l ++ byteV r := by simp [byteV]
theorem Src.many {w : World} {g : Nat} {l : List Int} {T : TypeId} (h : Blk w g (byteV l) T) (n : Nat) (hn : n = l.length) : Src w (some ⟨g, 0, none⟩) n n 1 (byteV l) := by
  subst hn
  refine ⟨by simp [byteV], fun u hu => by obtain ⟨x, _, rfl⟩ := List.mem_map.1 hu; rfl, .inr ⟨_, rfl, fun j u hu => ?_⟩⟩
  rw [Addr.add_lit]
  simpa using h.cell j hu

/-- Words to give a value to any four bytes' number. -/
theorem le4_bytes (n : Int) (h0 : 0 ≤ n) (h1 : n < 4294967296) : ∀ x ∈ le4 n, 0 ≤ x ∧ x < 256 := fun x hx => by
  simp only [le4, List.mem_cons, List.not_mem_nil, or_false] at hx
  rcases hx with rfl | rfl | rfl | rfl <;> omega


set_option maxHeartbeats 400000 in
theorem wrU8_walk {w : World} {g cap : Nat} {a : Option Addr} {l : List Int} (h : IsWr 38 w g a cap l) (n : Int) (hl : l.length ≤ 100000) :
    Calls Tryd.prog 26 #[.pointer (some ⟨g, 0, none⟩), .int .i64 n] w (WrPost 38 g a (l ++ [n % 256]) w) := by
  have c0 := h.obj.cell 0 (v := .slice a l.length cap) rfl
  have z0 := h.obj.frozen 0
  have hlt := h.obj.lt
  have hmx := h.arr.2.2.1
  have hne := h.ne
  have HH := Lib.hid h
  have ho := h.arr
  clear h
  generalize hL : l.length = L at *
  go_enter Tryd.func26, Tryd.ntmps26
  go_wp2_with (first | (refine wpList_bs rfl 36 5 1 _ rfl [.int .u8 (n % 256)] Tryd.underlying36 Tryd.bs8 rfl (by decide) (by decide) rfl (by simp [Value.cells]) ?_) | (at_builtin; go_must (refine wpl_append rfl _ _ 36 rfl 5 1 1 Tryd.underlying36 Tryd.info8s (by omega) _ _ L _ rfl (ho.keep0 ((Keeps.refl _ _).alloc _)) _ 1 1 [.int .u8 (n % 256)] rfl (Src.one (Blk.new _ _ _) rfl) (by unfold maxLen; omega) (by omega) ?_)))
  intro a' cap' w2 hown2 hk2 hf2 _
  have hk1 : Keeps Nil w (w.alloc (.cells [.int .u8 (n % 256)].toArray 5)) := (Keeps.refl Nil w).alloc _
  have hb2 := (HH.out.obj.keep0 hk1).keep hk2 hne
  rw [hL] at hb2
  have c2 := hb2.cell 0 (v := .slice a L cap) rfl
  have z2 := hb2.frozen 0
  have hlen : (l ++ [n % 256]).length = L + 1 := by simp [hL]
  have hst := HH.out.stored (l' := l ++ [n % 256]) hk1 (by rw [hlen, byteV_append]; exact hown2) hk2 (fun k hk => (hf2 k hk).imp id (fun h => by omega))
  rw [hlen] at hst
  have HS := Lib.hid hst
  clear hst hown2 hk2 hf2 hb2 hlen
  go_wp2_with fail
  go_end0
  exact ⟨a', cap', rfl, HS.out⟩
set_option maxHeartbeats 800000 in
theorem wrU32_walk {w : World} {g cap : Nat} {a : Option Addr} {l : List Int} (h : IsWr 38 w g a cap l) (n : Int) (hn0 : 0 ≤ n) (hn : n < 4294967296) (hl : l.length ≤ 100000) :
    Calls Tryd.prog 28 #[.pointer (some ⟨g, 0, none⟩), .int .u32 n] w (WrPost 38 g a (l ++ le4 n) w) := by
  have c0 := h.obj.cell 0 (v := .slice a l.length cap) rfl
  have z0 := h.obj.frozen 0
  have hlt := h.obj.lt
  have hmx := h.arr.2.2.1
  have hne := h.ne
  have HH := Lib.hid h
  have ho := h.arr
  clear h
  generalize hL : l.length = L at *
  go_enter Tryd.func28, Tryd.ntmps28
  go_wp2_with (first | (refine wpList_bs rfl 36 5 4 _ rfl (byteV (le4 n)) Tryd.underlying36 Tryd.bs8 rfl (by decide) (by decide) rfl (by simp [Value.cells, byteV, le4]) ?_) | (at_builtin; go_must (refine wpl_append rfl _ _ 36 rfl 5 1 1 Tryd.underlying36 Tryd.info8s (by omega) _ _ L _ rfl (ho.keep0 ((Keeps.refl _ _).alloc _)) _ 4 4 (byteV (le4 n)) rfl (Src.many (Blk.new _ _ _) 4 rfl) (by unfold maxLen; omega) (by omega) ?_)))
  intro a' cap' w2 hown2 hk2 hf2 _
  have hk1 : Keeps Nil w (w.alloc (.cells (byteV (le4 n)).toArray 5)) := (Keeps.refl Nil w).alloc _
  have hb2 := (HH.out.obj.keep0 hk1).keep hk2 hne
  rw [hL] at hb2
  have c2 := hb2.cell 0 (v := .slice a L cap) rfl
  have z2 := hb2.frozen 0
  have hlen : (l ++ le4 n).length = L + 4 := by simp [hL, le4]
  have hst := HH.out.stored (l' := l ++ le4 n) hk1 (by rw [hlen, byteV_append]; exact hown2) hk2 (fun k hk => (hf2 k hk).imp id (fun h => by omega))
  rw [hlen] at hst
  have HS := Lib.hid hst
  clear hst hown2 hk2 hf2 hb2 hlen
  go_wp2_with fail
  go_end0
  exact ⟨a', cap', rfl, HS.out⟩
set_option maxHeartbeats 400000 in
theorem wrRaw_walk {w : World} {g cap : Nat} {a : Option Addr} {l : List Int} (h : IsWr 38 w g a cap l) (hl : l.length ≤ 100000) {ar : Option Addr} {len capr : Nat} {r : List Int} (hr : Row .u8 w ar len r) (hc : ar = none → capr = 0 ∧ len = 0) (hlen : len ≤ 100000) :
    Calls Tryd.prog 30 #[.pointer (some ⟨g, 0, none⟩), .slice ar len capr] w (WrPost 38 g a (l ++ r) w) := by
  have c0 := h.obj.cell 0 (v := .slice a l.length cap) rfl
  have z0 := h.obj.frozen 0
  have hlt := h.obj.lt
  have hmx := h.arr.2.2.1
  have hne := h.ne
  have HH := Lib.hid h
  have ho := h.arr
  have hrl := hr.llen
  have hsrc := hr.src hc
  have HR := Lib.hid hsrc
  clear h hr hc hsrc
  generalize hL : l.length = L at *
  go_enter Tryd.func30, Tryd.ntmps30
  go_wp2_with (at_builtin; go_must (refine wpl_append rfl _ _ 36 rfl 5 1 1 Tryd.underlying36 Tryd.info8s (by omega) _ _ L _ rfl ho _ len capr (byteV r) rfl HR.out (by unfold maxLen; omega) (by omega) ?_))
  intro a' cap' w2 hown2 hk2 hf2 _
  have hb2 := HH.out.obj.keep hk2 hne
  rw [hL] at hb2
  have c2 := hb2.cell 0 (v := .slice a L cap) rfl
  have z2 := hb2.frozen 0
  have hlen2 : (l ++ r).length = L + len := by simp [hL, hrl]
  have hst := HH.out.stored (l' := l ++ r) (Keeps.refl Nil w) (by rw [hlen2, byteV_append]; exact hown2) hk2 (fun k hk => (hf2 k hk).imp id (fun h => by omega))
  rw [hlen2] at hst
  have HS := Lib.hid hst
  clear hst hown2 hk2 hf2 hb2 hlen2
  go_wp2_with fail
  go_end0
  exact ⟨a', cap', rfl, HS.out⟩
set_option maxHeartbeats 400000 in
theorem wrList_walk {w : World} {g cap : Nat} {a : Option Addr} {l : List Int} (h : IsWr 38 w g a cap l) (hl : l.length ≤ 90000) {ar : Option Addr} {len capr : Nat} {r : List Int} (hr : Row .u8 w ar len r) (hc : ar = none → capr = 0 ∧ len = 0) (hlen : len ≤ 100000) (hfar : ∀ k, blkOf ar k → ¬ wrOf g a k) :
    Calls Tryd.prog 32 #[.pointer (some ⟨g, 0, none⟩), .slice ar len capr] w (WrPost 38 g a (l ++ (le4 len ++ r)) w) := by
  have hl4 : (l ++ le4 len).length ≤ 100000 := by simp [le4]; omega
  have h0 : (0 : Int) ≤ len := by omega
  have h1 : (len : Int) < 4294967296 := by omega
  go_enter Tryd.func32, Tryd.ntmps32
  go_wp2_with fail
  refine (wrU32_walk h (len : Int) h0 h1 (by omega)).mono ?_
  rintro e w1 ⟨a1, c1, rfl, h1', hk1, hf1⟩
  have hr1 : Row .u8 w1 ar len r := ⟨hr.llen, hr.most, fun h0 => by
    obtain ⟨b, off, ha, hb, hcc⟩ := hr.cell h0
    exact ⟨b, off, ha, Nat.lt_of_lt_of_le hb hk1.size, fun i hi => hk1.cell (hcc i hi) (hfar b ⟨_, ha, rfl⟩)⟩, hr.wf⟩
  go_wp2_with fail
  refine (wrRaw_walk h1' hl4 hr1 hc hlen).mono ?_
  rintro e w2 ⟨a2, c2, rfl, h2, hk2, hf2⟩
  go_wp2_with fail
  go_end0
  rw [List.append_assoc] at h2
  refine ⟨a2, c2, rfl, h2, hk1.step hk2 hf1, fun k hk => ?_⟩
  rcases hf2 k hk with h | h
  · exact hf1 k h
  · exact .inr (Nat.le_trans hk1.size h)

set_option maxHeartbeats 400000 in
theorem wrBytes_walk {w : World} {g cap : Nat} {a : Option Addr} {l : List Int} (h : IsWr 38 w g a cap l) (hl : l.length ≤ 200000) (hb : ∀ x ∈ l, 0 ≤ x ∧ x < 256) :
    Calls Tryd.prog 35 #[.pointer (some ⟨g, 0, none⟩)] w fun e w' => FreshB w w' l e := by
  have c0 := h.obj.cell 0 (v := .slice a l.length cap) rfl
  have hc : a = none → cap = 0 ∧ l.length = 0 := fun ha => by
    obtain ⟨_, _, _, h4⟩ := h.arr
    rcases h4 with ⟨_, h0, hc⟩ | ⟨_, _, h4, _⟩
    · exact ⟨hc, h0⟩
    · rw [ha] at h4; cases h4
  have HC := Lib.hid (cloneB_walk (h.arr.row (fun x hx => by have := hb x hx; simp [Lit.wf, IntKind.min, IntKind.max, IntKind.signed, IntKind.bits]; omega)) hc (by omega))
  go_enter Tryd.func35, Tryd.ntmps35
  go_wp2_with fail
  refine HC.out.mono ?_
  rintro e w2 ⟨a2, c2, rfl, h2⟩
  go_wp2_with fail
  go_ret
  exact ⟨a2, c2, rfl, h2⟩
end Go.Proofs.YtdkfhfflhglmaaaDoor
