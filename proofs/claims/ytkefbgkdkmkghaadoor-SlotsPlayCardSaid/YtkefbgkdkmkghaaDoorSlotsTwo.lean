/-
  Chapter 10: the program's slots and the document's, side by side.
-/
import Derived.Test.YtkefbgkdkmkghaaDoorRefSl4
namespace Go.Proofs.YtkefbgkdkmkghaaDoor
set_option linter.unusedSimpArgs false
set_option linter.unusedVariables false
open Go.RowKit

/-- Both disks, the program's object. -/
structure Halv (w0 w : World) (p q g : Nat) (R Q : Roles) (s : Sv) (d x : Dk) : Prop where
  duo : Duo w0 w p q R Q d x
  sl : SlAt w g p s
  rg : R g = 0
  qg : Q g = 0
  gw : w0.heap.size ≤ g
/-- Both disks, both objects. -/
structure Pair (w0 w : World) (p q g gx : Nat) (R Q : Roles) (s t : Sv) (d x : Dk) : Prop where
  duo : Duo w0 w p q R Q d x
  sl : SlAt w g p s
  rs : RSlAt w gx q t
  rg : R g = 0
  qg : Q g = 0
  rx : R gx = 0
  qx : Q gx = 0
  ne : g ≠ gx
  gw : w0.heap.size ≤ g
  xw : w0.heap.size ≤ gx
section
variable {w0 w w' : World} {p q g gx : Nat} {R Q R' Q' : Roles} {s t : Sv} {d x d' x' : Dk} {pe : Nat → Addr}
theorem Pair.nil (h : Pair w0 w p q g gx R Q s t d x) (hk : Keeps Nil w w') : Pair w0 w' p q g gx R Q s t d x :=
  ⟨h.duo.nil hk, h.sl.keep hk (fun h => h), h.rs.keep hk (fun h => h), h.rg, h.qg, h.rx, h.qx, h.ne, h.gw, h.xw⟩
theorem Pair.stepA (h : Pair w0 w p q g gx R Q s t d x) (hD : Duo w0 w' p q R' Q d' x) (hG : Grew w w' R R') : Pair w0 w' p q g gx R' Q s t d' x :=
  ⟨hD, h.sl.keep hG.keeps (wr_not h.rg), h.rs.keep hG.keeps (wr_not h.rx), by rw [hG.same g h.sl.lt]; exact h.rg, h.qg, by rw [hG.same gx h.rs.lt]; exact h.rx, h.qx, h.ne, h.gw, h.xw⟩
theorem Pair.stepB (h : Pair w0 w p q g gx R Q s t d x) (hD : Duo w0 w' p q R Q' d x') (hG : Grew w w' Q Q') : Pair w0 w' p q g gx R Q' s t d x' :=
  ⟨hD, h.sl.keep hG.keeps (wr_not h.qg), h.rs.keep hG.keeps (wr_not h.qx), h.rg, by rw [hG.same g h.sl.lt]; exact h.qg, h.rx, by rw [hG.same gx h.rs.lt]; exact h.qx, h.ne, h.gw, h.xw⟩
/-- The program's Open, the document's disk beside it. -/
theorem duo_open {n : Nat} {S : Sv} {C : List Int} (hE : ErrS w0 pe) (h : Duo w0 w p q R Q d x) (hN : Near n S C d) (h1s : Singles d) (hs : IsState n S C) {m : Nat} (hok : d.Ok m) (ho : d.off = false) (hl : d.left = -1) (h1 : 1 ≤ n) (hn : n ≤ 400) :
    Calls Tryd.prog 36 #[.pointer (some ⟨p, 0, none⟩)] w fun e w' => ∃ g R', e = .returned (.tuple #[.pointer (some ⟨g, 0, none⟩), .nilIface]) ∧ Halv w0 w' p q g R' Q S (d.cleaned S) x ∧ Keeps Nil w0 w' :=
  (open_st hE h.mine hN h1s hs hok ho hl h1 hn).mono (by
    rintro e w' ⟨g, R', he, hS, hG, hg⟩
    refine ⟨g, R', he, ⟨h.stepA hS.mine.is hG, hS.sl, hS.rg, ?_, hS.gw⟩, hS.mine.keeps⟩
    rcases Nat.eq_zero_or_pos (Q g) with h2 | h2
    · exact h2
    · have := h.ref.lt g (by omega); omega)
theorem near_parse0 {n : Nat} {S : Sv} {C : List Int} {x : Dk} (hN : Near n S C x) (hs : IsState n S C) (h1 : 1 ≤ n) (hn : n ≤ 400) : x.parse (lastV (x.at_ 0)) = some S := near_parse hN hs h1 hn
/-- The document's Open, the program's object beside it. -/
theorem half_open {n : Nat} {S : Sv} {C : List Int} (h : Halv w0 w p q g R Q s d x) (hN : Near n S C x) (h1s : Singles x) (hs : IsState n S C) {m : Nat} (hok : x.Ok m) (ho : x.off = false) (hl : x.left = -1) (h1 : 1 ≤ n) (hn : n ≤ 400) :
    Calls Tryd.prog 42 #[.pointer (some ⟨q, 0, none⟩)] w fun e w' => ∃ gx Q', e = .returned (.tuple #[.pointer (some ⟨gx, 0, none⟩), .int .i64 0]) ∧ Pair w0 w' p q g gx R Q' s S d (x.cleaned S) :=
  (refopen_walk h.duo.ref (ok_one hok h1s) (by omega) ho hl (by rw [hN.len]; exact h1) (near_parse0 hN hs h1 hn) hs.seq).mono (by
    rintro e w' ⟨gx, Q', he, hrs, hqx, hxw, hD, hG⟩
    refine ⟨gx, Q', he, ⟨h.duo.stepB hD hG, h.sl.keep hG.keeps (wr_not h.qg), hrs, h.rg, by rw [hG.same g h.sl.lt]; exact h.qg, h.duo.mine.later hxw, hqx, by have := h.sl.lt; omega, h.gw, Nat.le_trans h.duo.mine.keeps.size hxw⟩⟩)
/-- The program's Save, the document's half beside it. -/
theorem two_save {n : Nat} {m : Nat} (hE : ErrS w0 pe) (h : Pair w0 w p q g gx R Q s t d x) (hok : d.Ok m) (hm1 : 1 ≤ m) (hm : m ≤ 90000) (hlen : d.vs.length = n) (h1 : 1 ≤ n) (hh : s.half ≤ 1) (hmy : s.many ≤ (n - 1) / 2 * 128)
    {ab : Option Addr} {k cb : Nat} {b : List Int} (hb : Row .u8 w ab k b) (hnc : k ≤ cb) (hcx : cb ≤ 9223372036854775807) (hbR : 0 < k → ∀ y, blkOf ab y → R y = 0) :
    Calls Tryd.prog 37 #[.pointer (some ⟨g, 0, none⟩), .slice ab k cb] w fun e w' => ∃ R', e = .returned (errO pe (d.save s b).2.2) ∧ Pair w0 w' p q g gx R' Q (d.save s b).2.1 t (d.save s b).1 x ∧ Keeps (fun y => Wr R y ∨ y = g) w w' ∧ ∀ y, y < w.heap.size → R' y = R y :=
  (save_walk hE h.duo.mine h.sl h.rg h.gw hok hm1 hm (by rw [hlen]; exact h1) hh (by rw [room_eq hlen]; exact hmy) hb hnc hcx hbR).mono (by
    rintro e w' ⟨R', he, hM, hsl, hg, hk, hR⟩
    have hnot : ∀ y, Q y ≠ 0 → ¬ (Wr R y ∨ y = g) := fun y hy hh => hh.elim (h.duo.apart.not y hy) (fun e => hy (by rw [e]; exact h.qg))
    refine ⟨R', he, ⟨⟨hM, h.duo.ref.keep hk hnot, h.duo.far, fun y => ?_⟩, hsl, h.rs.keep hk (fun hh => hh.elim (wr_not h.rx) (fun e => h.ne e.symm)), hg, h.qg, by rw [hR gx h.rs.lt]; exact h.rx, h.qx, h.ne, h.gw, h.xw⟩, hk, hR⟩
    rcases Nat.lt_or_ge y w.heap.size with hy | hy
    · rw [hR y hy]; exact h.duo.apart y
    · right
      rcases Nat.eq_zero_or_pos (Q y) with h2 | h2
      · exact h2
      · have := h.duo.ref.lt y (by omega); omega)
/-- The document's Save, the program's half beside it. -/
theorem two_refsave {n : Nat} {m : Nat} (h : Pair w0 w p q g gx R Q s t d x) (hok : x.Ok m) (hm1 : 1 ≤ m) (hm : m ≤ 90000) (hlen : x.vs.length = n) (h1 : 1 ≤ n) (hh : t.half ≤ 1) (hmy : t.many ≤ (n - 1) / 2 * 128) (hz : t.seq = 0 → t.many = 0) (hsb : t.seq ≤ 4294967295)
    {ab : Option Addr} {k cb : Nat} {b : List Int} (hb : Row .u8 w ab k b) (hnc : k ≤ cb) (hcx : cb ≤ 9223372036854775807) (hbQ : 0 < k → ∀ y, blkOf ab y → Q y = 0) :
    Calls Tryd.prog 45 #[.pointer (some ⟨gx, 0, none⟩), .slice ab k cb] w fun e w' => ∃ Q', e = .returned (.int .i64 (codeO (x.save t b).2.2)) ∧ Pair w0 w' p q g gx R Q' s (x.save t b).2.1 d (x.save t b).1 ∧ Keeps (fun y => Wr Q y ∨ y = gx) w w' ∧ ∀ y, y < w.heap.size → Q' y = Q y :=
  (refsave_walk h.duo.ref h.rs h.qx hok hm1 hm (by rw [hlen]; exact h1) hh (by rw [room_eq hlen]; exact hmy) hz hsb hb hnc hcx hbQ).mono (by
    rintro e w' ⟨Q', he, hD, hsl, hg, hk, hR⟩
    have hnot : ∀ y, R y ≠ 0 → ¬ (Wr Q y ∨ y = gx) := fun y hy hh => hh.elim (h.duo.apart.symm.not y hy) (fun e => hy (by rw [e]; exact h.rx))
    refine ⟨Q', he, ⟨⟨⟨h.duo.mine.is.keep hk hnot, h.duo.mine.keeps.step hk (fun y hy => .inr (hy.elim (fun e => h.duo.far y (by unfold Wr at e; omega)) (fun e => by rw [e]; exact h.xw))), h.duo.mine.far⟩, hD, fun y hy => ?_, fun y => ?_⟩, h.sl.keep hk (fun hh => hh.elim (wr_not h.qg) h.ne), hsl, h.rg, by rw [hR g h.sl.lt]; exact h.qg, h.rx, hg, h.ne, h.gw, h.xw⟩, hk, hR⟩
    · rcases Nat.lt_or_ge y w.heap.size with h2 | h2
      · rw [hR y h2] at hy; exact h.duo.far y hy
      · exact Nat.le_trans h.duo.mine.keeps.size h2
    · rcases Nat.lt_or_ge y w.heap.size with hy | hy
      · rw [hR y hy]; exact h.duo.apart y
      · left
        exact h.duo.mine.later hy)
end
/-- What a save leaves off. -/
theorem write_off {d : Dk} {i : Int} {b : List Int} (h : (d.write i b).2 = some 0) : (d.write i b).1.off = true := by
  unfold Dk.write at h ⊢
  split
  · next ho => exact ho
  · next ho =>
    rw [if_neg ho] at h
    split
    · next h2 => rw [if_pos h2] at h; cases h
    · next h2 =>
      rw [if_neg h2] at h
      dsimp only at h ⊢
      split at h
      · next h3 => exact h3
      · cases h
theorem writes_off : ∀ (xs : List (List Int)) (d : Dk) (f : Nat), (d.writes f xs).2 = some 0 → (d.writes f xs).1.off = true
  | [], d, f, h => by cases h
  | x :: r, d, f, h => by
    unfold Dk.writes at h ⊢
    by_cases hw : (d.write f x).2 = none
    · rw [if_pos hw] at h ⊢
      exact writes_off r _ _ h
    · rw [if_neg hw] at h ⊢
      exact write_off h
theorem sync_off {d : Dk} (h : d.sync.2 = some 0) : d.sync.1.off = true := by
  unfold Dk.sync at h ⊢
  split
  · next ho => exact ho
  · next ho =>
    rw [if_neg ho] at h
    split
    · next h2 => exact h2
    · next h2 => rw [if_neg h2] at h; cases h
theorem puts_off {d : Dk} {f : Nat} {b : List Int} (h : (d.puts f b).2 = some 0) : (d.puts f b).1.off = true := by
  unfold Dk.puts at h ⊢
  split
  · next hw => rw [if_pos hw] at h; exact sync_off h
  · next hw => rw [if_neg hw] at h; exact writes_off _ _ _ h
theorem save_off {d : Dk} {s : Sv} {b : List Int} (h : (d.save s b).2.2 = some 0) : (d.save s b).1.off = true := by
  unfold Dk.save at h ⊢
  split
  · next h2 => rw [if_pos h2] at h; cases h
  · next h2 =>
    rw [if_neg h2] at h
    dsimp only at h ⊢
    split
    · next h3 => rw [if_pos h3] at h; exact puts_off h
    · next h3 =>
      rw [if_neg h3] at h
      split
      · next h4 => rw [if_pos h4] at h; exact puts_off h
      · next h4 =>
        rw [if_neg h4] at h
        split
        · next h5 => rw [if_pos h5] at h; cases h
        · next h5 => rw [if_neg h5] at h; exact puts_off h
/-- How a disk stands behind a thing that was done. -/
structure Stands (n : Nat) (s : Sv) (d : Dk) (i : Nat) : Prop where
  on : d.off = false → ∃ c, Clean n s c d ∧ IsState n s c ∧ s.seq ≤ i
  gone : ∀ ks, ∃ S C, Near n S C (d.crash ks) ∧ Singles (d.crash ks) ∧ IsState n S C ∧ S.seq ≤ i
  len : d.vs.length = n
  ok : d.Ok 600
theorem Stands.clean {n : Nat} {s : Sv} {c : List Int} {d : Dk} {i : Nat} (hc : Clean n s c d) (hs : IsState n s c) (hi : s.seq ≤ i) {m : Nat} (hok : d.Ok m) : Stands n s d i :=
  ⟨fun _ => ⟨c, hc, hs, hi⟩, fun ks => ⟨s, c, near_crash hc.near ks, crash_singles hc.near.mem ks, hs, hi⟩, hc.len, (ok_one hok hc.ones).mono (by omega)⟩
theorem save_stands {n : Nat} {s : Sv} {c b : List Int} {d : Dk} {i : Nat} (hs : IsState n s c) (hc : Clean n s c d) (ho : d.off = false) (hok : d.Ok 1) (hb : AreB b) (hq : s.seq < 4294967295) (h1 : 1 ≤ n) (hn : n ≤ 12) (hi : s.seq ≤ i) :
    Stands n (d.save s b).2.1 (d.save s b).1 (i + 1) ∧ ∀ k, (d.save s b).2.2 = some k → k < 19 := by
  by_cases hr : b.length ≤ (n - 1) / 2 * 128
  · have hS := save_saved hs hc ho hb hr hq h1
    have hlen : (d.save s b).1.vs.length = n := by
      have h := (save_back hS h1 []).choose_spec.near.len
      rw [crash_len] at h
      exact h
    have hok' : (d.save s b).1.Ok 600 := (save_ok hok (Nat.le_refl _) s hb).mono (by have := hs.room; unfold takesN; omega)
    have herr : (d.save s b).2.2 = none ∨ (d.save s b).2.2 = some 0 := (save_back hS h1 []).choose_spec.err
    have hnx := nx_state hs hb hr hq
    have hns : (nextSv s b.length).seq ≤ i + 1 := by show s.seq + 1 ≤ i + 1; omega
    refine ⟨⟨fun hoff => ?_, fun ks => ?_, hlen, hok'⟩, fun k hk => ?_⟩
    · rcases herr with he | he
      · by_cases k1 : okN d.left (takesN b.length + 1)
        · by_cases k3 : okN d.left (takesN b.length + 3)
          · obtain ⟨_, h2, _, h4⟩ := hS.high k3
            rw [h2]
            exact ⟨b, (h4 he).1, hnx, hns⟩
          · have := (hS.mid k1 k3).1; rw [he] at this; cases this
        · have := (hS.low k1).1; rw [he] at this; cases this
      · rw [save_off he] at hoff; cases hoff
    · obtain ⟨ch, hB⟩ := save_back hS h1 ks
      cases ch with
      | true => exact ⟨_, _, hB.near, hB.ones, hnx, hns⟩
      | false => exact ⟨_, _, hB.near, hB.ones, hs, by show s.seq ≤ i + 1; omega⟩
    · rcases herr with he | he
      · rw [he] at hk; cases hk
      · rw [he] at hk; cases hk; omega
  · have hroom : d.room < b.length := by
      have h2 := room_eq hc.len
      omega
    have hf := save_full (d := d) (s := s) (b := b) (.inl hroom)
    rw [hf]
    have hi1 : s.seq ≤ i + 1 := by omega
    exact ⟨Stands.clean hc hs hi1 hok, fun k hk => by cases hk; omega⟩
theorem fuse_stands {n : Nat} {s : Sv} {c : List Int} {d : Dk} {i : Nat} (hs : IsState n s c) (hc : Clean n s c d) (hok : d.Ok 1) (hi : s.seq ≤ i) {k : Int} (hk : k ≤ 9223372036854775807) : Stands n s (d.fuse k) (i + 1) :=
  Stands.clean (d := d.fuse k) ⟨hc.len, hc.at_⟩ hs (by omega) (hok.fuse hk)
end Go.Proofs.YtkefbgkdkmkghaaDoor
