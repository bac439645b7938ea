/-
  Bytes in slices: what is read out of them, parts, cells. (For seats without the digests' texts.)
-/
import Derived.Test.YtkefbgkdkmkghaaDoorBytes
import Derived.Test.YtkefbgkdkmkghaaDoorOwnSet
import Derived.Test.YtkefbgkdkmkghaaDoorVars
import Derived.Test.YtkefbgkdkmkghaaDoorMid
import Derived.Test.YtkefbgkdkmkghaaDoorCopy
import Derived.Test.YtkefbgkdkmkghaaDoorNumber
namespace Go.Proofs.YtkefbgkdkmkghaaDoor
set_option linter.unusedSimpArgs false
set_option linter.unusedVariables false
open Go.RowKit

/-- Bytes, each in its range. -/
def AreB (l : List Int) : Prop := ∀ x ∈ l, 0 ≤ x ∧ x < 256
def TrueS (w : World) (e : Ending) (w' : World) : Prop := e = .returned (.bool true) ∧ Keeps Nil w w'
theorem byteV_one (l : List Int) : ∀ v ∈ byteV l, v.oneCell' = true := fun v hv => by obtain ⟨x, _, rfl⟩ := List.mem_map.1 hv; rfl
theorem byteV_len (l : List Int) : (byteV l).length = l.length := by simp [byteV]
theorem byteV_set (l : List Int) (i : Nat) (x : Int) : byteV (l.set i x) = (byteV l).set i (.int .u8 x) := by simp [byteV, List.map_set]
theorem byteV_append (l r : List Int) : byteV (l ++ r) = byteV l ++ byteV r := List.map_append
theorem wf_u8 {x : Int} (h0 : 0 ≤ x) (h1 : x < 256) : (Lit.int .u8 x).wf = true := by simp [Lit.wf, IntKind.min, IntKind.max, IntKind.signed, IntKind.bits]; omega
theorem row_none (w : World) : Row .u8 w none 0 [] := ⟨rfl, by omega, fun h => by omega, fun x hx => by cases hx⟩
theorem getD_cell {l : List Int} {n i : Nat} (h : l.length = n) (hi : i < n) : Option.map (Value.int .u8) l[i]? = some (.int .u8 (l.getD i 0)) := by simp [List.getD, show i < l.length by omega]
theorem getD_mem3 {l : List Int} {n i : Nat} (h : l.length = n) (hi : i < n) : l.getD i 0 ∈ l := by simp [List.getD, show i < l.length by omega]
/-- A slice of one's own out of a block that was just made. -/
theorem own_lit {w : World} {g n : Nat} {vs : List Value} {e : TypeId} (h : Blk w g vs e) (hn : vs.length = n) (hm : n ≤ 1000000) : Own w e 1 (some ⟨g, 0, none⟩) n n vs :=
  ⟨by omega, Nat.le_refl _, by unfold maxLen; omega, .inr ⟨g, [], rfl, by rw [List.append_nil]; exact h, by rw [List.append_nil]; omega⟩⟩
theorem alloc1 (w : World) (c1 : List Value) (T1 : TypeId) : ∃ wA g, g = w.heap.size ∧ Blk wA g c1 T1 ∧ wA = w.alloc (.cells c1.toArray T1) ∧ Keeps Nil w wA :=
  ⟨_, _, rfl, Blk.new w c1 _, rfl, (Keeps.refl Nil w).alloc _⟩
theorem areB_wf {l : List Int} (h : AreB l) : ∀ x ∈ l, (Lit.int .u8 x).wf = true := fun x hx => wf_u8 (h x hx).1 (h x hx).2
theorem wf_areB {l : List Int} (h : ∀ x ∈ l, (Lit.int .u8 x).wf = true) : AreB l := fun x hx => by have := u8_wf (h x hx); omega
theorem areB_append {l r : List Int} (h : AreB l) (k : AreB r) : AreB (l ++ r) := fun x hx => (List.mem_append.1 hx).elim (h x) (k x)
theorem areB_zeros (n : Nat) : AreB (List.replicate n 0) := fun x hx => by rw [(List.mem_replicate.1 hx).2]; omega
theorem Row.bytes {w : World} {a : Option Addr} {n : Nat} {l : List Int} (h : Row .u8 w a n l) : AreB l := wf_areB h.wf
theorem Blk.row8 {w : World} {g n : Nat} {l : List Int} {T : TypeId} (h : Blk w g (byteV l) T) (hw : AreB l) (hl : l.length = n) (hm : n ≤ 1000000) : Row .u8 w (some ⟨g, 0, none⟩) n l :=
  ⟨hl, by omega, fun _ => ⟨g, 0, rfl, h.lt, fun i hi => by
    rw [Nat.zero_add]
    refine h.cell i ?_
    simp [byteV, List.getD, show i < l.length by omega]⟩, areB_wf hw⟩
theorem Blk.row8_part {w : World} {g n m : Nat} {l : List Int} {T : TypeId} (h : Blk w g (byteV l) T) (hw : AreB l) (o : Nat) (hl : o + n ≤ l.length) (hm : n ≤ 1000000) (hn : m = n) : Row .u8 w (some ⟨g, o, none⟩) m ((l.drop o).take n) := by
  subst hn
  refine ⟨by simp; omega, by omega, fun _ => ⟨g, o, rfl, h.lt, fun i hi => ?_⟩, areB_wf (fun x hx => hw x (List.mem_of_mem_drop (List.mem_of_mem_take hx)))⟩
  refine h.cell (o + i) ?_
  simp [byteV, List.getD, List.getElem?_take, hi, show o + i < l.length by omega]
theorem Blk.rowPre {w : World} {g n : Nat} {l : List Int} {sp : List Value} {T : TypeId} (h : Blk w g (byteV l ++ sp) T) (hw : AreB l) (hl : l.length = n) (hm : n ≤ 1000000) : Row .u8 w (some ⟨g, 0, none⟩) n l :=
  ⟨hl, by omega, fun _ => ⟨g, 0, rfl, h.lt, fun i hi => by
    rw [Nat.zero_add]
    refine h.cell i ?_
    rw [List.getElem?_append_left (by simp [byteV]; omega)]
    simp [byteV, List.getD, show i < l.length by omega]⟩, areB_wf hw⟩
theorem Row.empty (k : IntKind) (w : World) (a : Option Addr) : Row k w a 0 [] := ⟨rfl, by omega, fun h => by omega, fun x hx => by cases hx⟩
theorem Row.head {k : IntKind} {w : World} {a : Option Addr} {n : Nat} {l : List Int} (h : Row k w a n l) {m : Nat} (hm : m ≤ n) : Row k w a m (l.take m) :=
  ⟨by rw [List.length_take, h.llen]; omega, by have := h.most; omega, fun h0 => by
    obtain ⟨b, off, ha, hb, hc⟩ := h.cell (by omega)
    exact ⟨b, off, ha, hb, fun i hi => by rw [hc i (by omega)]; simp [List.getD, hi]⟩, fun x hx => h.wf x (List.mem_of_mem_take hx)⟩
theorem Row.tail {k : IntKind} {w : World} {ad : Addr} {n : Nat} {l : List Int} (h : Row k w (some ad) n l) (m : Nat) (hm : m ≤ n) : Row k w (some (ad.add m)) (n - m) (l.drop m) :=
  ⟨by rw [List.length_drop, h.llen], by have := h.most; omega, fun h0 => by
    obtain ⟨b, off, ha, hb, hc⟩ := h.cell (by omega)
    cases ha
    refine ⟨b, off + m, by rw [Addr.add_lit], hb, fun i hi => ?_⟩
    rw [Nat.add_assoc, hc (m + i) (by omega)]
    simp [List.getD], fun x hx => h.wf x (List.mem_of_mem_drop hx)⟩
theorem Own.openB {w : World} {e : TypeId} {a : Option Addr} {cap n : Nat} {l : List Int} (h : Own w e 1 a cap n (byteV l)) (hn : 0 < n) : ∃ g sp, a = Option.some ⟨g, 0, none⟩ ∧ Blk w g (byteV l ++ sp) e ∧ (byteV l ++ sp).length = cap := by
  obtain ⟨_, _, _, h4⟩ := h
  rcases h4 with ⟨_, h5, _⟩ | ⟨g, sp, h5, hb, hl⟩
  · omega
  · exact ⟨g, sp, h5, hb, by omega⟩
theorem Own.nilB {w : World} {e : TypeId} {a : Option Addr} {cap n : Nat} {xs : List Value} (h : Own w e 1 a cap n xs) (ha : a = none) : cap = 0 ∧ n = 0 := by
  obtain ⟨_, _, _, h4⟩ := h
  rcases h4 with ⟨_, h5, h6⟩ | ⟨g, sp, h5, _⟩
  · exact ⟨h6, h5⟩
  · rw [h5] at ha; cases ha
theorem byteV_set' (l : List Int) (sp : List Value) (i : Nat) (x : Int) (h : i < l.length) : (byteV l ++ sp).set i (.int .u8 x) = byteV (l.set i x) ++ sp := by
  rw [List.set_append_left _ _ (by simp [byteV]; exact h)]
  simp [byteV, List.map_set]
theorem areB_set {l : List Int} (h : AreB l) (i : Nat) {x : Int} (hx : 0 ≤ x ∧ x < 256) : AreB (l.set i x) := fun y hy => by
  rcases List.mem_or_eq_of_mem_set hy with h' | h'
  · exact h y h'
  · rw [h']; exact hx
end Go.Proofs.YtkefbgkdkmkghaaDoor
