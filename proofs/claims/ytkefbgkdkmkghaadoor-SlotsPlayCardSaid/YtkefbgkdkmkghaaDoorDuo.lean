/-
  Chapter 9: the program's disk and the document's, side by side.
-/
import Derived.Test.YtkefbgkdkmkghaaDoorRefCrash
namespace Go.Proofs.YtkefbgkdkmkghaaDoor
set_option linter.unusedSimpArgs false
set_option linter.unusedVariables false
open Go.RowKit

structure Duo (w0 w : World) (p q : Nat) (R Q : Roles) (d x : Dk) : Prop where
  mine : Mine w0 w p R d
  ref : IsRef w q Q x
  far : ∀ k, Q k ≠ 0 → w0.heap.size ≤ k
  apart : Apart2 R Q
section
variable {w0 w w' : World} {p q : Nat} {R Q R' Q' : Roles} {d x d' x' : Dk} {pe : Nat → Addr}
theorem Duo.nil (h : Duo w0 w p q R Q d x) (hk : Keeps Nil w w') : Duo w0 w' p q R Q d x := ⟨h.mine.nil hk, h.ref.keep0 hk, h.far, h.apart⟩
theorem Duo.stepA (h : Duo w0 w p q R Q d x) (hD : IsDisk w' p R' d') (hG : Grew w w' R R') : Duo w0 w' p q R' Q d' x :=
  ⟨h.mine.grew hD hG, h.ref.keep hG.keeps h.apart.not, h.far, h.apart.grew hG h.ref.lt⟩
theorem Duo.stepB (h : Duo w0 w p q R Q d x) (hD : IsRef w' q Q' x') (hG : Grew w w' Q Q') : Duo w0 w' p q R Q' d x' :=
  ⟨⟨h.mine.is.keep hG.keeps h.apart.symm.not, h.mine.keeps.step hG.keeps (fun k hk => .inr (h.far k (by unfold Wr at hk; omega))), h.mine.far⟩, hD, fun k hk => by
    rcases Nat.lt_or_ge k w.heap.size with h1 | h1
    · rw [hG.same k h1] at hk; exact h.far k hk
    · exact Nat.le_trans h.mine.keeps.size h1, (h.apart.symm.grew hG h.mine.is.lt).symm⟩
theorem Duo.keepsB (h : Duo w0 w p q R Q d x) (hk : Keeps (Wr Q) w w') : Keeps Nil w0 w' := h.mine.keeps.step hk (fun k hk => .inr (h.far k (by unfold Wr at hk; omega)))
/-- A block that is of neither. -/
structure Duo.Free (w : World) (R Q : Roles) (g : Nat) : Prop where
  a : R g = 0
  b : Q g = 0
  lt : g < w.heap.size
theorem Duo.later (h : Duo w0 w p q R Q d x) {g : Nat} (hg : w.heap.size ≤ g) : R g = 0 ∧ Q g = 0 :=
  ⟨h.mine.later hg, by
    rcases Nat.eq_zero_or_pos (Q g) with h1 | h1
    · exact h1
    · have := h.ref.lt g (by omega); omega⟩
theorem wr_not {R : Roles} {g : Nat} (h : R g = 0) : ¬ Wr R g := fun e => by unfold Wr at e; omega
theorem grew_of {R : Roles} (hk : Keeps (Wr R) w w') : Grew w w' R R := ⟨hk, fun _ _ => rfl⟩
/-- The program's Write, the document's disk beside it. -/
theorem duo_write (hE : Err2 w0 pe) (h : Duo w0 w p q R Q d x) {m : Nat} (hok : d.Ok m) (hm : m ≤ 1000000) (i : Int) {ab : Option Addr} {n cb : Nat} {b : List Int} (hb : Row .u8 w ab n b) :
    Calls Tryd.prog 16 #[.pointer (some ⟨p, 0, none⟩), .int .i64 i, .slice ab n cb] w fun e w' => ∃ R', e = .returned (errO pe (d.write i b).2) ∧ Duo w0 w' p q R' Q (d.write i b).1 x ∧ Grew w w' R R' :=
  (write_walk (h.mine.errs hE) h.mine.is hok hm i hb).mono (by
    rintro e w' ⟨R', he, hD, hG⟩
    exact ⟨R', he, h.stepA hD hG, hG⟩)
theorem duo_refwrite (h : Duo w0 w p q R Q d x) {m : Nat} (hok : x.Ok m) (hm : m ≤ 1000000) (i : Int) {ab : Option Addr} {n cb : Nat} {b : List Int} (hb : Row .u8 w ab n b) :
    Calls Tryd.prog 27 #[.pointer (some ⟨q, 0, none⟩), .int .i64 i, .slice ab n cb] w fun e w' => ∃ Q', e = .returned (.int .i64 (codeO (x.write i b).2)) ∧ Duo w0 w' p q R Q' d (x.write i b).1 ∧ Grew w w' Q Q' :=
  (refwrite_walk h.ref hok hm i hb).mono (by
    rintro e w' ⟨Q', he, hD, hG⟩
    exact ⟨Q', he, h.stepB hD hG, hG⟩)
theorem duo_sync (hE : Err2 w0 pe) (h : Duo w0 w p q R Q d x) {m : Nat} (hok : d.Ok m) (hm : m ≤ 1000000) :
    Calls Tryd.prog 17 #[.pointer (some ⟨p, 0, none⟩)] w fun e w' => e = .returned (errO pe d.sync.2) ∧ Duo w0 w' p q R Q d.sync.1 x ∧ Keeps (Wr R) w w' :=
  (sync_walk (h.mine.errs hE) h.mine.is hok hm).mono (by
    rintro e w' ⟨he, hD, hG⟩
    exact ⟨he, h.stepA hD (grew_of hG), hG⟩)
theorem duo_refsync (h : Duo w0 w p q R Q d x) {m : Nat} (hok : x.Ok m) (hm : m ≤ 1000000) :
    Calls Tryd.prog 28 #[.pointer (some ⟨q, 0, none⟩)] w fun e w' => e = .returned (.int .i64 (codeO x.sync.2)) ∧ Duo w0 w' p q R Q d x.sync.1 ∧ Keeps (Wr Q) w w' :=
  (refsync_walk h.ref hok hm).mono (by
    rintro e w' ⟨he, hD, hG⟩
    exact ⟨he, h.stepB hD (grew_of hG), hG⟩)
theorem duo_fuse (h : Duo w0 w p q R Q d x) (n : Int) :
    Calls Tryd.prog 29 #[.pointer (some ⟨p, 0, none⟩), .int .i64 n] w fun e w' => e = .returned (.tuple #[]) ∧ Duo w0 w' p q R Q (d.fuse n) x ∧ Keeps (Wr R) w w' :=
  (fuse_walk h.mine.is n).mono (by
    rintro e w' ⟨he, hD, hG⟩
    exact ⟨he, h.stepA hD (grew_of hG), hG⟩)
theorem duo_reffuse (h : Duo w0 w p q R Q d x) (n : Int) :
    Calls Tryd.prog 30 #[.pointer (some ⟨q, 0, none⟩), .int .i64 n] w fun e w' => e = .returned (.tuple #[]) ∧ Duo w0 w' p q R Q d (x.fuse n) ∧ Keeps (Wr Q) w w' :=
  (reffuse_walk h.ref n).mono (by
    rintro e w' ⟨he, hD, hG⟩
    exact ⟨he, h.stepB hD (grew_of hG), hG⟩)
/-- A list that came in is of neither. -/
theorem Duo.old (h : Duo w0 w p q R Q d x) {ak : Option Addr} {nk : Nat} {ks : List Int} (hks : Row .i64 w0 ak nk ks) : (0 < nk → ∀ m, blkOf ak m → R m = 0) ∧ (0 < nk → ∀ m, blkOf ak m → Q m = 0) := by
  have key : ∀ {T : Roles}, (∀ k, T k ≠ 0 → w0.heap.size ≤ k) → 0 < nk → ∀ m, blkOf ak m → T m = 0 := fun {T} hf h0 m hm => by
    obtain ⟨bk, offk, hak, hbk, _⟩ := hks.cell h0
    subst hak
    rw [blkOf_some] at hm
    rcases Nat.eq_zero_or_pos (T m) with h1 | h1
    · exact h1
    · have := hf m (by omega); omega
  exact ⟨key h.mine.far, key h.far⟩
theorem duo_crash (h : Duo w0 w p q R Q d x) {m : Nat} (hok : d.Ok m) (hm : m ≤ 1000000) {ak : Option Addr} {nk ck : Nat} {ks : List Int} (hks : Row .i64 w0 ak nk ks) (hkc : nk ≤ ck) (hkx : ck ≤ 9223372036854775807) :
    Calls Tryd.prog 24 #[.pointer (some ⟨p, 0, none⟩), .slice ak nk ck] w fun e w' => e = .returned (.tuple #[]) ∧ Duo w0 w' p q R Q (d.crash ks) x ∧ Keeps (Wr R) w w' :=
  (crash_walk h.mine.is hok hm (hks.keep h.mine.keeps) hkc hkx (h.old hks).1).mono (by
    rintro e w' ⟨he, hD, hG⟩
    exact ⟨he, h.stepA hD (grew_of hG), hG⟩)
theorem duo_refcrash (h : Duo w0 w p q R Q d x) {m : Nat} (hok : x.Ok m) (hm : m ≤ 1000000) {ak : Option Addr} {nk ck : Nat} {ks : List Int} (hks : Row .i64 w0 ak nk ks) :
    Calls Tryd.prog 31 #[.pointer (some ⟨q, 0, none⟩), .slice ak nk ck] w fun e w' => e = .returned (.tuple #[]) ∧ Duo w0 w' p q R Q d (x.crash ks) ∧ Keeps (Wr Q) w w' :=
  (refcrash_walk h.ref hok hm (hks.keep h.mine.keeps) (h.old hks).2).mono (by
    rintro e w' ⟨he, hD, hG⟩
    exact ⟨he, h.stepB hD (grew_of hG), hG⟩)
theorem duo_read (hE : Err2 w0 pe) (h : Duo w0 w p q R Q d x) {m : Nat} (hok : d.Ok m) (i : Int) :
    Calls Tryd.prog 18 #[.pointer (some ⟨p, 0, none⟩), .int .i64 i] w fun e w' => ∃ a cap, e = .returned (.tuple #[.slice a (d.readV i).length cap, errO pe (d.readE i)]) ∧ Own w' 5 1 a cap (d.readV i).length (byteV (d.readV i)) ∧ Duo w0 w' p q R Q d x ∧ Keeps Nil w w' :=
  (mine_read hE h.mine hok i).mono (by
    rintro e w' ⟨a, cap, he, ho, hM, hk, hf⟩
    exact ⟨a, cap, he, ho, h.nil hk, hk⟩)
theorem duo_refread (h : Duo w0 w p q R Q d x) {m : Nat} (hok : x.Ok m) (hm : m ≤ 1000000) (i : Int) :
    Calls Tryd.prog 32 #[.pointer (some ⟨q, 0, none⟩), .int .i64 i] w fun e w' => ∃ a cap, e = .returned (.tuple #[.slice a (x.readV i).length cap, .int .i64 (codeO (x.readE i))]) ∧ Own w' 5 1 a cap (x.readV i).length (byteV (x.readV i)) ∧ Duo w0 w' p q R Q d x ∧ Keeps Nil w w' :=
  (refread_walk h.ref hok hm i).mono (by
    rintro e w' ⟨a, n, cap, he, ho, hl, hk, hf⟩
    subst hl
    exact ⟨a, cap, he, ho, h.nil hk, hk⟩)
end
theorem Dk.Ok.readV {m : Nat} {d : Dk} (h : d.Ok m) (i : Int) : AreB (d.readV i) := by
  unfold Dk.readV
  by_cases he : d.readE i = none
  · rw [if_pos he]
    unfold Dk.readE at he
    by_cases ho : d.off = true
    · rw [if_pos ho] at he; cases he
    · rw [if_neg ho] at he
      by_cases hi : i < 0 ∨ (d.vs.length : Int) ≤ i
      · rw [if_pos hi] at he; cases he
      · have hm := Dk.at_mem (d := d) (i := i.toNat) (by omega)
        exact (h.each _ hm _ (lastV_mem (h.some _ hm))).2
  · rw [if_neg he]
    intro y hy
    cases hy
/-- Both are made. -/
theorem RNewP.duo {w0 w w' : World} {p : Nat} {R : Roles} {d x : Dk} {e : Ending} (h : RNewP w x e w') (hM : Mine w0 w p R d) : ∃ q Q, e = .returned (.pointer (some ⟨q, 0, none⟩)) ∧ Duo w0 w' p q R Q d x := by
  obtain ⟨q, Q, he, hD, hk, hf⟩ := h
  exact ⟨q, Q, he, hM.nil hk, hD, fun k hk' => Nat.le_trans hM.keeps.size (hf k hk'), fun k => by
    rcases Nat.eq_zero_or_pos (R k) with h1 | h1
    · exact .inl h1
    · rcases Nat.eq_zero_or_pos (Q k) with h2 | h2
      · exact .inr h2
      · have := hM.is.lt k (by omega); have := hf k (by omega); omega⟩
theorem write_lt {d : Dk} {i : Int} {b : List Int} : ∀ k, (d.write i b).2 = some k → k < 19 := fun k => by
  unfold Dk.write
  by_cases h1 : d.off = true
  · rw [if_pos h1]; intro h; cases h; omega
  · rw [if_neg h1]
    by_cases h2 : i < 0 ∨ (d.vs.length : Int) ≤ i ∨ b.length ≠ 128
    · rw [if_pos h2]; intro h; cases h; omega
    · rw [if_neg h2]
      dsimp only
      by_cases h3 : (d.put i.toNat b).goes.off = true
      · rw [if_pos h3]; intro h; cases h; omega
      · rw [if_neg h3]; intro h; cases h
theorem sync_lt {d : Dk} : ∀ k, d.sync.2 = some k → k < 19 := fun k => by
  unfold Dk.sync
  by_cases h1 : d.off = true
  · rw [if_pos h1]; intro h; cases h; omega
  · rw [if_neg h1]
    by_cases h2 : d.goes.off = true
    · rw [if_pos h2]; intro h; cases h; omega
    · rw [if_neg h2]; intro h; cases h
theorem readE_lt {d : Dk} {i : Int} : ∀ k, d.readE i = some k → k < 19 := fun k => by
  unfold Dk.readE
  by_cases h1 : d.off = true
  · rw [if_pos h1]; intro h; cases h; omega
  · rw [if_neg h1]
    by_cases h2 : i < 0 ∨ (d.vs.length : Int) ≤ i
    · rw [if_pos h2]; intro h; cases h; omega
    · rw [if_neg h2]; intro h; cases h
/-- The program's error and the document's code of it are the same. -/
theorem is_O {w : World} {p : Nat → Addr} (hE : Errs w p) (o : Option Nat) (h : ∀ k, o = some k → k < 19) : Calls Tryd.prog 21 #[errO p o, .int .i64 (codeO o)] w fun e w' => e = .returned (.bool true) ∧ Keeps Nil w w' :=
  (is_walk hE (isErr_O o h) (codeO o)).mono (by
    rintro e w' ⟨he, hk⟩
    exact ⟨he.trans (by rw [isV_O]), hk⟩)
end Go.Proofs.YtkefbgkdkmkghaaDoor
