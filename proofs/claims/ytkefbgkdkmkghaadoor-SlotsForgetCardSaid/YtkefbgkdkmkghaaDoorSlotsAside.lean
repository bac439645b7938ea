/-
  Slots: bytes that stand where no disk writes.
-/
import Derived.Test.YtkefbgkdkmkghaaDoorSlotsSt
namespace Go.Proofs.YtkefbgkdkmkghaaDoor
set_option linter.unusedSimpArgs false
set_option linter.unusedVariables false
open Go.RowKit

theorem old_zero {k : IntKind} {w0 w : World} {p : Nat} {R : Roles} {d : Dk} (h : Mine w0 w p R d) {a : Option Addr} {n : Nat} {l : List Int} (hr : Row k w0 a n l) (h0 : 0 < n) : ∀ x, blkOf a x → R x = 0 := fun x hx => by
  obtain ⟨b, off, e, hb, _⟩ := hr.cell h0
  subst e
  rw [(blkOf_some _ _ _ _).1 hx]
  rcases Nat.eq_zero_or_pos (R b) with h1 | h1
  · exact h1
  · have := h.far b (by omega); omega
theorem St.fuse {w0 w w' : World} {p g : Nat} {R : Roles} {n : Nat} {s : Sv} {c : List Int} {d : Dk} (h : St w0 w p g R n s c d) {k : Int} (hk0 : k ≤ 9223372036854775807) (hD : IsDisk w' p R (d.fuse k)) (hk : Keeps (Wr R) w w') : St w0 w' p g R n s c (d.fuse k) :=
  ⟨h.mine.wrote hD hk, h.sl.keep hk (wr_not h.rg), h.rg, h.gw, ⟨h.clean.len, h.clean.at_⟩, h.st, h.off, ⟨h.ok.some, h.ok.most, h.ok.each, h.ok.size, by show -1 ≤ max k (-1) ∧ max k (-1) ≤ _; omega⟩, h.h1, h.hn⟩
/-- Bytes that stand where no disk writes. -/
structure Aside (w : World) (R : Roles) (g : Nat) (a : Option Addr) (n : Nat) (l : List Int) : Prop where
  row : Row .u8 w a n l
  away : 0 < n → ∀ x, blkOf a x → R x = 0 ∧ x ≠ g
theorem Aside.lt {w : World} {R : Roles} {g : Nat} {a : Option Addr} {n : Nat} {l : List Int} (h : Aside w R g a n l) (h0 : 0 < n) : ∀ x, blkOf a x → x < w.heap.size := fun x hx => by
  obtain ⟨b, off, e, hb, _⟩ := h.row.cell h0
  subst e
  rw [(blkOf_some _ _ _ _).1 hx]; exact hb
theorem Aside.step {w w' : World} {R R' : Roles} {g : Nat} {a : Option Addr} {n : Nat} {l : List Int} (h : Aside w R g a n l) (hk : Keeps (fun k => Wr R k ∨ k = g) w w') (hR : ∀ k, k < w.heap.size → R' k = R k) : Aside w' R' g a n l :=
  ⟨h.row.keepN hk (fun h0 x hx hh => hh.elim (wr_not (h.away h0 x hx).1) (h.away h0 x hx).2), fun h0 x hx => ⟨by rw [hR x (h.lt h0 x hx)]; exact (h.away h0 x hx).1, (h.away h0 x hx).2⟩⟩
theorem Aside.grew {w w' : World} {R R' : Roles} {g : Nat} {a : Option Addr} {n : Nat} {l : List Int} (h : Aside w R g a n l) (hG : Grew w w' R R') : Aside w' R' g a n l :=
  h.step (hG.keeps.mono (fun k hk => .inl hk)) hG.same
theorem Aside.nil {w w' : World} {R : Roles} {g : Nat} {a : Option Addr} {n : Nat} {l : List Int} (h : Aside w R g a n l) (hk : Keeps Nil w w') : Aside w' R g a n l := h.grew (Grew.of_nil R hk)
theorem Aside.to {w : World} {R : Roles} {g g' : Nat} {a : Option Addr} {n : Nat} {l : List Int} (h : Aside w R g a n l) (hg : 0 < n → ∀ x, blkOf a x → x < g') : Aside w R g' a n l := ⟨h.row, fun h0 x hx => ⟨(h.away h0 x hx).1, by have := hg h0 x hx; omega⟩⟩
end Go.Proofs.YtkefbgkdkmkghaaDoor
