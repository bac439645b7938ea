/-
  Slots: bytes, Concat, head.
-/
import Derived.Test.YtkefbgkdkmkghaaDoorSlotsFun
namespace Go.Proofs.YtkefbgkdkmkghaaDoor
set_option linter.unusedSimpArgs false
set_option linter.unusedVariables false
open Go.RowKit

/-- A number in four bytes. -/
def le4s (n : Int) : List Int := [n % 256, n / 256 % 256, n / 65536 % 256, n / 16777216 % 256]
theorem le4s_bytes (n : Int) : AreB (le4s n) := fun x hx => by
  simp only [le4s, List.mem_cons, List.not_mem_nil, or_false] at hx
  rcases hx with rfl | rfl | rfl | rfl <;> omega
set_option maxHeartbeats 800000 in
theorem bytes4_walk (n : Int) (w : World) (hn : 0 ≤ n ∧ n ≤ 9223372036854775807) : Calls Tryd.prog 70 #[.int .i64 n] w fun e w' => ∃ g, e = .returned (.slice (some ⟨g, 0, none⟩) 4 4) ∧ Row .u8 w' (some ⟨g, 0, none⟩) 4 (le4s n) ∧ Keeps Nil w w' ∧ w.heap.size ≤ g := by
  obtain ⟨hn1, hn2⟩ := hn
  have HB := Lib.hid (le4s_bytes n)
  go_enter Tryd.func70, Tryd.ntmps70
  go_wp2_with (refine wpList_bs rfl 25 5 4 _ rfl (byteV (le4s n)) Tryd.underlying25 Tryd.bs8 rfl (by decide) (by decide) (by simp [byteV, le4s, Act.eval, Act.put]) (by simp [Value.cells, byteV, le4s]) ?_)
  go_ret
  exact ⟨_, rfl, (Blk.new w (byteV (le4s n)) 5).row8 HB.out rfl (by omega), (Keeps.refl _ _).alloc _, Nat.le_refl _⟩
/-- Pieces of bytes: where each lies, how long, its room, its bytes. -/
abbrev Pc := Option Addr × Nat × Nat × List Int
def pc0 : Pc := (none, 0, 0, [])
structure Pieces (w : World) (g : Nat) (xs : List Pc) : Prop where
  cell : ∀ i, i < xs.length → w.cell? ⟨g, i, none⟩ = some (.slice (xs.getD i pc0).1 (xs.getD i pc0).2.1 (xs.getD i pc0).2.2.1)
  row : ∀ i, i < xs.length → Row .u8 w (xs.getD i pc0).1 (xs.getD i pc0).2.1 (xs.getD i pc0).2.2.2
  nil : ∀ i, i < xs.length → (xs.getD i pc0).1 = none → (xs.getD i pc0).2.2.1 = 0 ∧ (xs.getD i pc0).2.1 = 0
theorem Pieces.keep {w w' : World} {g : Nat} {xs : List Pc} (h : Pieces w g xs) (hk : Keeps Nil w w') : Pieces w' g xs := ⟨fun i hi => hk.cell (h.cell i hi) (fun h => h), fun i hi => (h.row i hi).keep hk, h.nil⟩
/-- The bytes of the first so many. -/
def pcL (xs : List Pc) (j : Nat) : List Int := ((xs.take j).map (·.2.2.2)).flatten
theorem pcL_succ {xs : List Pc} {j : Nat} (h : j < xs.length) : pcL xs (j + 1) = pcL xs j ++ (xs.getD j pc0).2.2.2 := by
  unfold pcL
  rw [List.take_succ_eq_append_getElem h, List.map_append, List.flatten_append]
  simp [List.getD, h]
theorem Own.cut0 {w : World} {e : TypeId} {a : Option Addr} {cap n : Nat} {xs : List Value} (h : Own w e 1 a cap n xs) : Own w e 1 a cap 0 [] := by
  obtain ⟨h1, h2, h3, h4⟩ := h
  refine ⟨rfl, Nat.zero_le _, h3, ?_⟩
  rcases h4 with ⟨h5, h6, h7⟩ | ⟨g, sp, h5, hb, hl⟩
  · exact .inl ⟨h5, rfl, h7⟩
  · exact .inr ⟨g, xs ++ sp, h5, hb, by simpa using hl⟩
set_option maxHeartbeats 800000 in
theorem grow_walk (n : Nat) (w : World) (hn : 0 < n) (hm : n ≤ 1000000) : Calls Tryd.prog 75 #[.slice none 0 0, .int .i64 n] w fun e w' => ∃ a c, e = .returned (.slice a 0 c) ∧ Own w' 5 1 a c 0 [] ∧ Keeps Nil w w' ∧ (∀ k, blkOf a k → w.heap.size ≤ k) := by
  have hn1 : (0 : Int) < n := by omega
  have ho := Own.nil w 5 1
  go_enter Tryd.func75, Tryd.ntmps75
  go_wp2_with (at_builtin; go_must (refine wpl_zeros rfl _ _ 25 3 rfl 5 .i64 .i64 Tryd.underlying25 Tryd.underlying3 Tryd.infoU8z none 0 0 [] rfl ho (fun x hx => by cases hx) n rfl (by omega) ?_))
  intro a1 c1 w1 ho1 hk1 hf1
  have hc1 := ho1.2.1
  have HF := Lib.hid (And.intro ho1.cut0 (And.intro (show Keeps Nil w w1 from hk1.mono (fun i hi => (blkOf_none _ hi).elim)) (fun k (hk : blkOf a1 k) => (hf1 k hk).elim (fun e => (blkOf_none _ e).elim) (fun e => (show w.heap.size ≤ k from e)))))
  clear ho1 hk1 hf1 ho
  go_wp2_with fail
  go_ret
  exact ⟨a1, c1, rfl, HF.out.1, HF.out.2.1, HF.out.2.2⟩
set_option maxRecDepth 20000 in
set_option maxHeartbeats 1600000 in
theorem concat_walk {w : World} {g c : Nat} {xs : List Pc} (h : Pieces w g xs) (hx : xs.length ≤ 1000) (hc : xs.length ≤ c) (hpos : 0 < (pcL xs xs.length).length) (hm : ∀ j, j ≤ xs.length → (pcL xs j).length ≤ 100000) :
    Calls Tryd.prog 69 #[.slice (some ⟨g, 0, none⟩) xs.length c] w fun e w' => FreshB w w' (pcL xs xs.length) e := by
  have HP := Lib.hid h
  have HM := Lib.hid hm
  obtain ⟨N, hN⟩ : ∃ N, N = (pcL xs xs.length).length := ⟨_, rfl⟩
  rw [← hN] at hpos
  have HN := Lib.hid hN
  have hN2 : N ≤ 100000 := by rw [hN]; exact hm _ (Nat.le_refl _)
  have HG := Lib.hid (fun w => grow_walk N w hpos (by omega))
  clear h hm hN
  generalize hX : xs.length = X at *
  have HX := Lib.hid hX
  clear hX
  go_enter Tryd.func69, Tryd.ntmps69
  go_wp2_with fail
  go_loopw [11, 5, 3] (fun x _ z wr => ∃ (j q : Nat), x = .int .i64 j ∧ j ≤ X ∧ z = .int .i64 q ∧ q ≤ 100000 ∧ Hid (q = (pcL xs j).length) ∧ w = wr) (fun x _ _ _ => X - (intOf x).toNat)
  case atStart => exact ⟨0, 0, rfl, Nat.zero_le _, rfl, Nat.zero_le _, Lib.hid (by simp [pcL]), rfl⟩
  case round =>
    obtain ⟨j, q, rfl, hj, rfl, hq3, hq, rfl⟩ := hrel
    by_cases hjx : j < X
    · have hj1 : (j : Int) < X := by omega
      have hj0 : (0 : Int) ≤ j := by omega
      have hci := HP.out.cell j (by rw [HX.out]; exact hjx)
      have hri := HP.out.row j (by rw [HX.out]; exact hjx)
      have hsu := pcL_succ (xs := xs) (j := j) (by rw [HX.out]; exact hjx)
      have hll := hri.llen
      have hmm := HM.out (j + 1) (by omega)
      rw [hsu, List.length_append, ← hq.out, hll] at hmm
      have HQ : Hid (q + (xs.getD j pc0).2.1 = (pcL xs (j + 1)).length) := Lib.hid (by rw [hsu, List.length_append, ← hq.out, hll])
      clear hri hsu hll
      generalize (xs.getD j pc0).1 = pa at *
      generalize (xs.getD j pc0).2.1 = pn at *
      generalize (xs.getD j pc0).2.2.1 = pc at *
      go_wp2_with fail
      exact ⟨⟨j + 1, q + pn, by go_num, by omega, by go_num, by omega, HQ, by first | rfl | trivial⟩, by first | (simp [intOf]; done) | (simp [intOf]; omega)⟩
    · obtain rfl : j = X := by omega
      have hqN : q = N := by rw [hq.out, HN.out]
      clear hq
      subst hqN
      go_wp2_with fail
      refine (HG.out w).mono ?_
      rintro e w1 ⟨a1, c1, rfl, ho1, hk1, hf1⟩
      have H1 := Lib.hid (And.intro ho1 (And.intro hk1 hf1))
      clear ho1 hk1 hf1 HG
      go_wp2_with fail
      go_loopw [27, 8, 6] (fun x _ o wr => ∃ (i : Nat) (ao : Option Addr) (no co : Nat), x = .int .i64 i ∧ i ≤ j ∧ o = .slice ao no co ∧ no ≤ 100000 ∧ Hid (no = (pcL xs i).length) ∧ Hid (Own wr 5 1 ao co no (byteV (pcL xs i)) ∧ Keeps Nil w wr ∧ ∀ k, blkOf ao k → w.heap.size ≤ k)) (fun x _ _ _ => j - (intOf x).toNat)
      case atStart => exact ⟨0, a1, 0, c1, rfl, Nat.zero_le _, rfl, Nat.zero_le _, Lib.hid (by simp [pcL]), Lib.hid ⟨by simpa [pcL, byteV] using H1.out.1, H1.out.2⟩⟩
      case round =>
        obtain ⟨i, ao, no, co, rfl, hi, rfl, hno3, hno, hO⟩ := hrel
        by_cases hij : i < j
        · have hi1 : (i : Int) < j := by omega
          have hi0 : (0 : Int) ≤ i := by omega
          have hPw := HP.out.keep hO.out.2.1
          have hci := hPw.cell i (by rw [HX.out]; exact hij)
          have hri := hPw.row i (by rw [HX.out]; exact hij)
          have hsu := pcL_succ (xs := xs) (j := i) (by rw [HX.out]; exact hij)
          have hll := hri.llen
          have hmm := HM.out (i + 1) (by omega)
          rw [hsu, List.length_append, ← hno.out, hll] at hmm
          have hsrc := hri.src (cap := (xs.getD i pc0).2.2.1) (fun e => hPw.nil i (by rw [HX.out]; exact hij) e)
          have HQ : Hid (no + (xs.getD i pc0).2.1 = (pcL xs (i + 1)).length ∧ byteV (pcL xs i) ++ byteV (xs.getD i pc0).2.2.2 = byteV (pcL xs (i + 1))) := Lib.hid ⟨by rw [hsu, List.length_append, ← hno.out, hll], by rw [hsu, byteV_append]⟩
          have HSR := Lib.hid hsrc
          clear hri hsu hll hsrc hPw
          generalize (xs.getD i pc0).1 = pa at *
          generalize (xs.getD i pc0).2.1 = pn at *
          generalize (xs.getD i pc0).2.2.1 = pc at *
          generalize (xs.getD i pc0).2.2.2 = pl at *
          go_wp2_with (at_builtin; go_must (refine wpl_append rfl _ _ 25 rfl 5 1 1 Tryd.underlying25 Tryd.info8s (by omega) ao co no _ rfl hO.out.1 pa pn pc (byteV pl) rfl HSR.out (by unfold maxLen; omega) (by omega) ?_))
          intro a2 c2 w2 ho2 hk2 hf2 _
          rw [HQ.out.2] at ho2
          have HX2 := Lib.hid (And.intro ho2 (And.intro (hO.out.2.1.step hk2 (fun i hi => .inr (hO.out.2.2 i hi))) (fun k (hk : blkOf a2 k) => (hf2 k hk).elim (hO.out.2.2 k) (fun e => by have := hO.out.2.1.size; omega))))
          clear ho2 hk2 hf2
          go_wp2_with fail
          exact ⟨⟨i + 1, a2, no + pn, c2, by go_num, by omega, rfl, by omega, Lib.hid HQ.out.1, Lib.hid HX2.out⟩, by first | (simp [intOf]; done) | (simp [intOf]; omega)⟩
        · obtain rfl : i = j := by omega
          have hnN : no = (pcL xs xs.length).length := by rw [hno.out, HX.out]
          have HF : Hid (Own wr 5 1 ao co no (byteV (pcL xs xs.length)) ∧ Keeps Nil w wr ∧ ∀ k, blkOf ao k → w.heap.size ≤ k) := Lib.hid (by rw [HX.out]; exact hO.out)
          have HNN := Lib.hid hnN
          clear hnN hno hO
          go_wp2_with fail
          go_ret
          rw [HX.out] at HF HNN
          exact ⟨ao, co, by rw [← HNN.out]; rfl, by rw [← HNN.out]; exact HF.out.1, HF.out.2.1, HF.out.2.2⟩
/-- A literal's bytes: their block is marked. -/
theorem run_convBB {P : Program} {w : World} {g : Nat} {cs : List Value} {T : TypeId} (t e : TypeId) (ht : P.underlying t = some (.slice e)) (he : P.underlying e = some (.int .u8)) (n c : Nat) (hb : Blk w g cs T) :
    ∃ w', (convert t t (.slice (some ⟨g, 0, none⟩) n c)).run P w = .ok (.slice (some ⟨g, 0, none⟩) n c) w' ∧ (∀ i v, cs[i]? = some v → w'.cell? ⟨g, i, none⟩ = some v) ∧ Keeps (One g) w w' ∧ g < w'.heap.size := by
  have hlt := hb.lt
  have hb' : w.heap[g]? = some (.cells cs.toArray T (0, 0)) := hb
  have hsh : w.shape? g = some (T, cs.length) := by
    unfold World.shape?
    rw [hb']
    simp
  have hhp : ∀ k, (w.freeze ⟨g, cs.length, none⟩ 1).heap[k]? = if k = g then some (.cells cs.toArray T (cs.length, cs.length + 1)) else w.heap[k]? := fun k => by
    unfold World.freeze
    rw [if_neg (by decide)]
    simp only [Array.getElem?_modify]
    by_cases hk : k = g
    · subst hk
      rw [if_pos rfl, if_pos rfl, hb']
      rfl
    · rw [if_neg (fun h => hk h.symm), if_neg hk]
  refine ⟨w.freeze ⟨g, cs.length, none⟩ 1, ?_, fun i v hv => ?_, ⟨by unfold World.freeze; rw [if_neg (by decide)], by unfold World.freeze; rw [if_neg (by decide)], by unfold World.freeze; rw [if_neg (by decide)], by unfold World.freeze; rw [if_neg (by decide)]; simp, fun k _ hk => by rw [hhp, if_neg (show ¬ k = g from hk)]⟩, by unfold World.freeze; rw [if_neg (by decide)]; simpa using hlt⟩
  · simp [convert, run_underlying ht, run_underlying he, markStringish, hsh]
  · have := hhp g
    rw [if_pos rfl] at this
    simp [World.cell?, this, hv]
theorem step_convBB {P : Program} {ops : Array Oper} {o : Oper} {a : Act} {w : World} {K : Act → World → Prop} {Q : Exit → Act → World → Prop} {E : Prop} (hw : Region.wanted o (yielded ops a.tmps) = true) (t e : TypeId) (x : Operand) (ho : o.op = .convert t t x)
    (ht : P.underlying t = some (.slice e)) (he : P.underlying e = some (.int .u8)) {g n c : Nat} (hx : a.eval x = .slice (some ⟨g, 0, none⟩) n c) {cs : List Value} {T : TypeId} (hb : Blk w g cs T)
    (h : ∀ w', (∀ i v, cs[i]? = some v → w'.cell? ⟨g, i, none⟩ = some v) → Keeps (One g) w w' → g < w'.heap.size → K (a.put o.dst (.slice (some ⟨g, 0, none⟩) n c)) w') : if Region.wanted o (yielded ops a.tmps) = true then Oper.wp P o a w K Q else E := by
  rw [if_pos hw]
  obtain ⟨w', hr, h1, h2, h3⟩ := run_convBB t e ht he n c hb
  unfold Oper.wp execOp
  simp only [ho, hx, Sem.run_bind, hr, Result.andThen_ok]
  exact h w' h1 h2 h3
theorem threeL {P : Program} {md : Region.Mode} {l : List Oper} {Q : Exit → Act → World → Prop} {S : World → Prop} {i j k : Nat} {oi oj ok : Oper} {fuel : Nat} {listed : Array Bool} {a : Act} {w : World} (hi : l[i]? = some oi) (hj : l[j]? = some oj) (hk : l[k]? = some ok) (hr : Region.ready md l.toArray listed = [i, j, k])
    (h1 : ∀ K : Act → World → Prop, (∀ a' w', S w' → wpAnyH P md l.toArray Q S fuel (listed.setIfInBounds i true) a' w' → K a' w') → if Region.wanted oi (yielded l.toArray a.tmps) = true then oi.wp P a w K Q else K (a.put oi.dst undef) w)
    (h2 : ∀ K : Act → World → Prop, (∀ a' w', S w' → wpAnyH P md l.toArray Q S fuel (listed.setIfInBounds j true) a' w' → K a' w') → if Region.wanted oj (yielded l.toArray a.tmps) = true then oj.wp P a w K Q else K (a.put oj.dst undef) w)
    (h3 : ∀ K : Act → World → Prop, (∀ a' w', S w' → wpAnyH P md l.toArray Q S fuel (listed.setIfInBounds k true) a' w' → K a' w') → if Region.wanted ok (yielded l.toArray a.tmps) = true then ok.wp P a w K Q else K (a.put ok.dst undef) w) :
    wpAnyH P md l.toArray Q S (fuel + 1) listed a w :=
  wpAnyH_all hr (by simp) (fun x hx => by
    have key : ∀ (y : Nat) (oy : Oper), l[y]? = some oy → (∀ K : Act → World → Prop, (∀ a' w', S w' → wpAnyH P md l.toArray Q S fuel (listed.setIfInBounds y true) a' w' → K a' w') → if Region.wanted oy (yielded l.toArray a.tmps) = true then oy.wp P a w K Q else K (a.put oy.dst undef) w) →
        wpOp P l.toArray Q y (fun a' w' => S w' ∧ wpAnyH P md l.toArray Q S fuel (listed.setIfInBounds y true) a' w') a w := fun y oy hy h => by
      have hy' : l.toArray[y]? = some oy := by simpa using hy
      unfold wpOp
      rw [hy']
      have h1 := h (fun a' w' => S w' ∧ wpAnyH P md l.toArray Q S fuel (listed.setIfInBounds y true) a' w') (fun a' w' hS h => ⟨hS, h⟩)
      simp only
      split
      · rename_i hw; rw [if_pos hw] at h1; exact .inl h1
      · rename_i hw; rw [if_neg hw] at h1; exact h1
    have hx' : x = i ∨ x = j ∨ x = k := by simpa using hx
    rcases hx' with rfl | rfl | rfl
    · exact key _ _ hi h1
    · exact key _ _ hj h2
    · exact key _ _ hk h3)
/-- Every cell is as it was. -/
structure CellsK (w w' : World) : Prop where
  size : w.heap.size ≤ w'.heap.size
  cell : ∀ b o v, w.cell? ⟨b, o, none⟩ = some v → w'.cell? ⟨b, o, none⟩ = some v
theorem Row.keepC {k : IntKind} {w w' : World} {a : Option Addr} {n : Nat} {l : List Int} (h : Row k w a n l) (hk : CellsK w w') : Row k w' a n l :=
  ⟨h.llen, h.most, fun h0 => by
    obtain ⟨b, off, ha, hb, hc⟩ := h.cell h0
    exact ⟨b, off, ha, Nat.lt_of_lt_of_le hb hk.size, fun i hi => hk.cell _ _ _ (hc i hi)⟩, h.wf⟩
theorem CellsK.of {w w' : World} {g : Nat} {cs : List Value} {T : TypeId} (hb : Blk w g cs T) (hk : Keeps (One g) w w') (hc : ∀ i v, cs[i]? = some v → w'.cell? ⟨g, i, none⟩ = some v) : CellsK w w' :=
  ⟨hk.size, fun b o v hv => by
    by_cases e : b = g
    · subst e
      refine hc o v ?_
      unfold Blk at hb
      simpa [World.cell?, hb] using hv
    · exact hk.cell hv e⟩
theorem Own.nilS {w : World} {e : TypeId} {cap n : Nat} {xs : List Value} (h : Own w e 1 none cap n xs) : cap = 0 ∧ n = 0 := by
  obtain ⟨_, _, _, h4⟩ := h
  rcases h4 with ⟨_, h5, h6⟩ | ⟨g, sp, h5, _⟩
  · exact ⟨h6, h5⟩
  · cases h5
/-- Four pieces. -/
def pc4 (g0 g6 g12 g17 : Nat) (A B C D : List Int) : List Pc := [(some ⟨g0, 0, none⟩, 4, 4, A), (some ⟨g6, 0, none⟩, 4, 4, B), (some ⟨g12, 0, none⟩, 1, 1, C), (some ⟨g17, 0, none⟩, 4, 4, D)]
theorem pieces4 {w : World} {g g0 g6 g12 g17 : Nat} {A B C D : List Int} {T : TypeId} (hb : Blk w g [.slice (some ⟨g0, 0, none⟩) 4 4, .slice (some ⟨g6, 0, none⟩) 4 4, .slice (some ⟨g12, 0, none⟩) 1 1, .slice (some ⟨g17, 0, none⟩) 4 4] T)
    (h0 : Row .u8 w (some ⟨g0, 0, none⟩) 4 A) (h1 : Row .u8 w (some ⟨g6, 0, none⟩) 4 B) (h2 : Row .u8 w (some ⟨g12, 0, none⟩) 1 C) (h3 : Row .u8 w (some ⟨g17, 0, none⟩) 4 D) : Pieces w g (pc4 g0 g6 g12 g17 A B C D) := by
  have key : ∀ i, i < 4 → i = 0 ∨ i = 1 ∨ i = 2 ∨ i = 3 := fun i hi => by omega
  refine ⟨fun i hi => ?_, fun i hi => ?_, fun i hi he => ?_⟩
  · rcases key i hi with rfl | rfl | rfl | rfl <;> exact hb.cell _ rfl
  · rcases key i hi with rfl | rfl | rfl | rfl
    · exact h0
    · exact h1
    · exact h2
    · exact h3
  · rcases key i hi with rfl | rfl | rfl | rfl <;> cases he
theorem pc4_all {g0 g6 g12 g17 : Nat} {A B C D : List Int} : pcL (pc4 g0 g6 g12 g17 A B C D) 4 = A ++ B ++ C ++ D := by simp [pcL, pc4]
theorem concat4_walk {w : World} {g g0 g6 g12 g17 c : Nat} {A B C D : List Int} (h : Pieces w g (pc4 g0 g6 g12 g17 A B C D)) (hc : c = 4) :
    Calls Tryd.prog 69 #[.slice (some ⟨g, 0, none⟩) 4 c] w fun e w' => FreshB w w' (A ++ B ++ C ++ D) e := by
  have l0 : A.length = 4 := (h.row 0 (show 0 < 4 by omega)).llen
  have l1 : B.length = 4 := (h.row 1 (show 1 < 4 by omega)).llen
  have l2 : C.length = 1 := (h.row 2 (show 2 < 4 by omega)).llen
  have l3 : D.length = 4 := (h.row 3 (show 3 < 4 by omega)).llen
  have hm : ∀ j, j ≤ 4 → (pcL (pc4 g0 g6 g12 g17 A B C D) j).length ≤ 100000 := fun j hj => by
    have : j = 0 ∨ j = 1 ∨ j = 2 ∨ j = 3 ∨ j = 4 := by omega
    rcases this with rfl | rfl | rfl | rfl | rfl <;> simp [pcL, pc4, l0, l1, l2, l3]
  have := concat_walk (c := c) h (show 4 ≤ 1000 by omega) (by subst hc; exact Nat.le_refl 4) (by rw [show (pc4 g0 g6 g12 g17 A B C D).length = 4 from rfl, pc4_all]; simp [l0, l1, l2, l3]) hm
  rw [show (pc4 g0 g6 g12 g17 A B C D).length = 4 from rfl, pc4_all] at this
  exact this
/-- The head's bytes. -/
def magicL : List Int := [67, 79, 85, 82]
def headBare (s : Sv) : List Int := magicL ++ le4s s.seq ++ [(s.half : Int) % 256] ++ le4s s.many
def headL (s : Sv) : List Int := secL (headBare s)
theorem headBare_len (s : Sv) : (headBare s).length = 13 := rfl
theorem headBare_bytes (s : Sv) : AreB (headBare s) := by
  unfold headBare
  refine areB_append (areB_append (areB_append ?_ (le4s_bytes _)) ?_) (le4s_bytes _)
  · intro x hx
    simp only [magicL, List.mem_cons, List.not_mem_nil, or_false] at hx
    rcases hx with rfl | rfl | rfl | rfl <;> omega
  · intro x hx
    rw [List.mem_singleton.1 hx]
    omega
theorem headL_len (s : Sv) : (headL s).length = 128 := secL_len (by rw [headBare_len]; omega)
theorem magic_bytes : AreB magicL := fun x hx => by
  simp only [magicL, List.mem_cons, List.not_mem_nil, or_false] at hx
  rcases hx with rfl | rfl | rfl | rfl <;> omega
theorem pc4_bytes {A B C : List Int} (hA : AreB A) (hB : AreB B) (hC : AreB C) : AreB (magicL ++ A ++ B ++ C) := areB_append (areB_append (areB_append magic_bytes hA) hB) hC
theorem pc4_len {SQ SH SM : Int} : (magicL ++ le4s SQ ++ [SH % 256] ++ le4s SM).length = 13 := rfl
theorem headL_bytes (s : Sv) : AreB (headL s) := secL_bytes (headBare_bytes s)
theorem Tryd.bsSl4 : (Tryd.prog.info? 25).map (fun i => (i.size, i.zero.isSome)) = some (1, true) := by kernel_rfl
set_option maxRecDepth 20000 in
set_option maxHeartbeats 3200000 in
theorem head_walk {w : World} {g p : Nat} {s : Sv} (hs : SlAt w g p s) (hb : s.seq ≤ 4294967295 ∧ s.half ≤ 255 ∧ s.many ≤ 4294967295) :
    Calls Tryd.prog 56 #[.pointer (some ⟨g, 0, none⟩)] w fun e w' => ∃ gh cap, e = .returned (.slice (some ⟨gh, 0, none⟩) 128 cap) ∧ Own w' 5 1 (some ⟨gh, 0, none⟩) cap 128 (byteV (headL s)) ∧ Keeps Nil w w' ∧ w.heap.size ≤ gh := by
  have c1 := hs.cell 1 rfl
  have c2 := hs.cell 2 rfl
  have c3 := hs.cell 3 rfl
  have HHL : Hid (headL s = secL (magicL ++ le4s s.seq ++ [(s.half : Int) % 256] ++ le4s s.many)) := Lib.hid rfl
  obtain ⟨hb1, hb2, hb3⟩ := hb
  clear hs
  have hH0 : (0 : Int) ≤ s.half := by omega
  have hH1 : (s.half : Int) ≤ 255 := by omega
  have hhw : IntKind.u8.wrap (s.half : Int) = (s.half : Int) % 256 := by rw [IntKind.wrap_u8]
  obtain ⟨SQ, hSQ⟩ : ∃ x : Int, x = (s.seq : Int) := ⟨_, rfl⟩
  obtain ⟨SH, hSH⟩ : ∃ x : Int, x = (s.half : Int) := ⟨_, rfl⟩
  obtain ⟨SM, hSM⟩ : ∃ x : Int, x = (s.many : Int) := ⟨_, rfl⟩
  rw [← hSQ] at c1 HHL
  rw [← hSH] at c2 HHL hH0 hH1 hhw
  rw [← hSM] at c3 HHL
  have HQ := Lib.hid (show (0 ≤ SQ ∧ SQ ≤ 9223372036854775807) ∧ 0 ≤ SM ∧ SM ≤ 9223372036854775807 by omega)
  generalize headL s = HD at *
  clear hSQ hSH hSM hb1 hb2 hb3
  obtain ⟨L, hL⟩ : ∃ L, L = magicL ++ le4s SQ ++ [SH % 256] ++ le4s SM := ⟨_, rfl⟩
  have hlb : AreB L := by rw [hL]; exact pc4_bytes (le4s_bytes SQ) (fun x hx => by rw [List.mem_singleton.1 hx]; omega) (le4s_bytes SM)
  have hll : L.length = 13 := by rw [hL]; exact pc4_len
  have HLL := Lib.hid (show L.length = 13 ∧ AreB L ∧ HD = secL L from ⟨hll, hlb, by rw [HHL.out, hL]⟩)
  obtain ⟨L1, hL1⟩ : ∃ L, L = le4s SQ := ⟨_, rfl⟩
  obtain ⟨L2, hL2⟩ : ∃ L, L = le4s SM := ⟨_, rfl⟩
  obtain ⟨L3, hL3⟩ : ∃ L, L = [SH % 256] := ⟨_, rfl⟩
  obtain ⟨L0, hL0⟩ : ∃ L, L = magicL := ⟨_, rfl⟩
  have HCC := Lib.hid (fun g g0 g6 g12 g17 w (h : Pieces w g (pc4 g0 g6 g12 g17 L0 L1 L3 L2)) => show Calls Tryd.prog 69 #[.slice (some ⟨g, 0, none⟩) 4 4] w (fun e w' => ∃ a c, e = .returned (.slice a 13 c) ∧ Own w' 5 1 a c 13 (byteV L) ∧ Keeps Nil w w' ∧ ∀ k, blkOf a k → w.heap.size ≤ k) from by
    have hc := concat4_walk h (c := 4) rfl
    unfold FreshB at hc
    rw [show L0 ++ L1 ++ L3 ++ L2 = L by rw [hL, hL0, hL1, hL2, hL3], hll] at hc
    exact hc)
  have HLS := Lib.hid (And.intro hL0 (And.intro hL1 (And.intro hL2 hL3)))
  have HB1 := Lib.hid (fun w => show Calls Tryd.prog 70 #[.int .i64 SQ] w (fun e w' => ∃ g, e = .returned (.slice (some ⟨g, 0, none⟩) 4 4) ∧ Row .u8 w' (some ⟨g, 0, none⟩) 4 L1 ∧ Keeps Nil w w' ∧ w.heap.size ≤ g) from hL1 ▸ bytes4_walk SQ w HQ.out.1)
  have HB2 := Lib.hid (fun w => show Calls Tryd.prog 70 #[.int .i64 SM] w (fun e w' => ∃ g, e = .returned (.slice (some ⟨g, 0, none⟩) 4 4) ∧ Row .u8 w' (some ⟨g, 0, none⟩) 4 L2 ∧ Keeps Nil w w' ∧ w.heap.size ≤ g) from hL2 ▸ bytes4_walk SM w HQ.out.2)
  clear hL hlb hll hL0 hL1 hL2 hL3 HHL
  go_enter Tryd.func56, Tryd.ntmps56
  go_upto_region 1 with fail
  refine wp_region_held_drew (S := fun w' => w'.cell? ⟨g, 1, none⟩ = some (.int .i64 SQ) ∧ w'.cell? ⟨g, 2, none⟩ = some (.int .i64 SH) ∧ w'.cell? ⟨g, 3, none⟩ = some (.int .i64 SM)) (by kernel_rfl) ⟨c1, c2, c3⟩ (fun hHeld => ?_)
  have hkd : Keeps Nil w w.drew := (Keeps.refl Nil w).drew
  have HKD := Lib.hid hkd
  have c1 : w.drew.cell? ⟨g, 1, none⟩ = some (.int .i64 SQ) := c1
  have c2 : w.drew.cell? ⟨g, 2, none⟩ = some (.int .i64 SH) := c2
  have c3 : w.drew.cell? ⟨g, 3, none⟩ = some (.int .i64 SM) := c3
  have hKw : Keeps Nil w.drew w.drew := Keeps.refl _ _
  clear hkd
  generalize w.drew = v0 at *
  refine takeL (i := 2) (v := _) rfl (by kernel_rfl) (by kernel_rfl) (by kernel_rfl) (fun _ _ _ h => h) (Or.inl ⟨by rfl, by intro w hSw; (try dsimp only at hSw); go_simp; try with_reducible rfl⟩) (by assumption) ?_
  try simp only [Act.put, List.setIfInBounds_toArray, List.set_cons_zero, List.set_cons_succ]
  refine takeL (i := 3) (v := _) rfl (by kernel_rfl) (by kernel_rfl) (by kernel_rfl) (fun _ _ _ h => h) (Or.inl ⟨by rfl, by intro w hSw; (try dsimp only at hSw); go_simp; try with_reducible rfl⟩) (by assumption) ?_
  try simp only [Act.put, List.setIfInBounds_toArray, List.set_cons_zero, List.set_cons_succ]
  refine takeL (i := 4) (v := _) rfl (by kernel_rfl) (by kernel_rfl) (by kernel_rfl) (fun _ _ _ h => h) (Or.inl ⟨by rfl, by intro w hSw; (try dsimp only at hSw); go_simp; try with_reducible rfl⟩) (by assumption) ?_
  try simp only [Act.put, List.setIfInBounds_toArray, List.set_cons_zero, List.set_cons_succ]
  refine takeL (i := 5) (v := _) rfl (by kernel_rfl) (by kernel_rfl) (by kernel_rfl) (fun _ _ _ h => h) (Or.inl ⟨by rfl, by intro w hSw; (try dsimp only at hSw); go_simp; try with_reducible rfl⟩) (by assumption) ?_
  try simp only [Act.put, List.setIfInBounds_toArray, List.set_cons_zero, List.set_cons_succ]
  refine takeL (i := 7) (v := _) rfl (by kernel_rfl) (by kernel_rfl) (by kernel_rfl) (fun _ _ _ h => h) (Or.inl ⟨by rfl, by intro w hSw; (try dsimp only at hSw); go_simp; try with_reducible rfl⟩) (by assumption) ?_
  try simp only [Act.put, List.setIfInBounds_toArray, List.set_cons_zero, List.set_cons_succ]
  refine takeL (i := 8) (v := _) rfl (by kernel_rfl) (by kernel_rfl) (by kernel_rfl) (fun _ _ _ h => h) (Or.inl ⟨by rfl, by intro w hSw; (try dsimp only at hSw); go_simp; try with_reducible rfl⟩) (by assumption) ?_
  try simp only [Act.put, List.setIfInBounds_toArray, List.set_cons_zero, List.set_cons_succ]
  refine takeL (i := 9) (v := _) rfl (by kernel_rfl) (by kernel_rfl) (by kernel_rfl) (fun _ _ _ h => h) (Or.inl ⟨by rfl, by intro w hSw; (try dsimp only at hSw); go_simp; try with_reducible rfl⟩) (by assumption) ?_
  try simp only [Act.put, List.setIfInBounds_toArray, List.set_cons_zero, List.set_cons_succ]
  refine takeL (i := 10) (v := _) rfl (by kernel_rfl) (by kernel_rfl) (by kernel_rfl) (fun _ _ _ h => h) (Or.inl ⟨by rfl, by intro w hSw; (try dsimp only at hSw); go_simp; try with_reducible rfl⟩) (by assumption) ?_
  try simp only [Act.put, List.setIfInBounds_toArray, List.set_cons_zero, List.set_cons_succ]
  refine takeL (i := 11) (v := _) rfl (by kernel_rfl) (by kernel_rfl) (by kernel_rfl) (fun _ _ _ h => h) (Or.inl ⟨by rfl, by intro w hSw; (try dsimp only at hSw); go_simp; try with_reducible rfl⟩) (by assumption) ?_
  try simp only [Act.put, List.setIfInBounds_toArray, List.set_cons_zero, List.set_cons_succ]
  refine takeL (i := 13) (v := _) rfl (by kernel_rfl) (by kernel_rfl) (by kernel_rfl) (fun _ _ _ h => h) (Or.inl ⟨by rfl, by intro w hSw; (try dsimp only at hSw); go_simp; try with_reducible rfl⟩) (by assumption) ?_
  try simp only [Act.put, List.setIfInBounds_toArray, List.set_cons_zero, List.set_cons_succ]
  refine takeL (i := 14) (v := _) rfl (by kernel_rfl) (by kernel_rfl) (by kernel_rfl) (fun _ _ _ h => h) (Or.inl ⟨by rfl, by intro w hSw; (try dsimp only at hSw); go_simp; try with_reducible rfl⟩) (by assumption) ?_
  try simp only [Act.put, List.setIfInBounds_toArray, List.set_cons_zero, List.set_cons_succ]
  refine takeL (i := 15) (v := _) rfl (by kernel_rfl) (by kernel_rfl) (by kernel_rfl) (fun _ _ _ h => h) (Or.inl ⟨by rfl, by intro w hSw; (try dsimp only at hSw); go_simp; try with_reducible rfl⟩) (by assumption) ?_
  try simp only [Act.put, List.setIfInBounds_toArray, List.set_cons_zero, List.set_cons_succ]
  refine takeL (i := 16) (v := _) rfl (by kernel_rfl) (by kernel_rfl) (by kernel_rfl) (fun _ _ _ h => h) (Or.inl ⟨by rfl, by intro w hSw; (try dsimp only at hSw); go_simp; try with_reducible rfl⟩) (by assumption) ?_
  try simp only [Act.put, List.setIfInBounds_toArray, List.set_cons_zero, List.set_cons_succ]
  refine threeL (i := 0) (j := 6) (k := 12) rfl rfl rfl (by kernel_rfl) (fun K hK => ?_) (fun K hK => ?_) (fun K hK => ?_)
  · skip
    refine step_bsK rfl 25 5 4 _ rfl (byteV magicL) Tryd.underlying25 Tryd.bs8 rfl (by decide) (by decide) (by simp [Act.eval, byteV, magicL]) (by simp [Value.cells, byteV, magicL]) ?_
    intro g0 w0 hg0 hb0 qk
    have hg0v : v0.heap.size ≤ g0 := by have := hKw.size; omega
    clear hg0
    refine (fun hHeld => hK _ _ hHeld ?_) (⟨(hKw.trans qk).cell c1 (fun h => h), (hKw.trans qk).cell c2 (fun h => h), (hKw.trans qk).cell c3 (fun h => h)⟩)
    clear hK
    try simp only [Act.put, List.setIfInBounds_toArray, List.set_cons_zero, List.set_cons_succ]
    replace hKw := hKw.trans qk
    refine threeL (i := 1) (j := 6) (k := 12) rfl rfl rfl (by kernel_rfl) (fun K hK => ?_) (fun K hK => ?_) (fun K hK => ?_)
    · skip
      refine step_convBB rfl 25 5 _ rfl Tryd.underlying25 Tryd.underlying5 rfl hb0 ?_
      intro w1 hcv qk1 hlt1
      have hcc := CellsK.of hb0 qk1 hcv
      have hr0 : Row .u8 w1 (some ⟨g0, 0, none⟩) 4 L0 := HLS.out.1.symm ▸ (hb0.row8 (n := 4) magic_bytes rfl (by omega)).keepC hcc
      have hKx : Keeps Nil v0 w1 := hKw.step qk1 (fun i hi => .inr (by rw [show i = g0 from hi]; exact hg0v))
      refine (fun hHeld => hK _ _ hHeld ?_) (⟨hKx.cell c1 (fun h => h), hKx.cell c2 (fun h => h), hKx.cell c3 (fun h => h)⟩)
      clear hK
      try simp only [Act.put, List.setIfInBounds_toArray, List.set_cons_zero, List.set_cons_succ]
      try (replace hr6 := hr6.keepC hcc)
      try (replace hr12 := hr12.keepC hcc)
      try (replace hr17 := hr17.keepC hcc)
      replace hKw := hKx
      clear hKx hcc qk1 hcv hlt1 hb0
      refine bothL (i := 6) (j := 12) rfl rfl (by kernel_rfl) (fun K hK => ?_) (fun K hK => ?_)
      · skip
        go_simp
        refine (HB1.out _).mono ?_
        rintro e w6 ⟨g6, rfl, hr6, qk, hf6⟩
        have hg6v : v0.heap.size ≤ g6 := Nat.le_trans hKw.size hf6
        clear hf6
        refine (fun hHeld => hK _ _ hHeld ?_) (⟨(hKw.trans qk).cell c1 (fun h => h), (hKw.trans qk).cell c2 (fun h => h), (hKw.trans qk).cell c3 (fun h => h)⟩)
        clear hK
        try simp only [Act.put, List.setIfInBounds_toArray, List.set_cons_zero, List.set_cons_succ]
        replace hKw := hKw.trans qk
        replace hr0 := hr0.keep qk
        refine bothL (i := 12) (j := 17) rfl rfl (by kernel_rfl) (fun K hK => ?_) (fun K hK => ?_)
        · skip
          refine step_bsK rfl 25 5 1 _ rfl (byteV [SH % 256]) Tryd.underlying25 Tryd.bs8 rfl (by decide) (by decide) (by simp [Act.eval, byteV]) (by simp [Value.cells, byteV]) ?_
          intro g12 w12 hg12 hb12 qk
          have hr12 : Row .u8 w12 (some ⟨g12, 0, none⟩) 1 L3 := HLS.out.2.2.2.symm ▸ hb12.row8 (n := 1) (fun x hx => by rw [List.mem_singleton.1 hx]; omega) rfl (by omega)
          clear hg12 hb12
          refine (fun hHeld => hK _ _ hHeld ?_) (⟨(hKw.trans qk).cell c1 (fun h => h), (hKw.trans qk).cell c2 (fun h => h), (hKw.trans qk).cell c3 (fun h => h)⟩)
          clear hK
          try simp only [Act.put, List.setIfInBounds_toArray, List.set_cons_zero, List.set_cons_succ]
          replace hKw := hKw.trans qk
          replace hr0 := hr0.keep qk
          replace hr6 := hr6.keep qk
          refine onlyL (i := 17) rfl (by kernel_rfl) (fun K hK => ?_)
          go_simp
          refine (HB2.out _).mono ?_
          rintro e w17 ⟨g17, rfl, hr17, qk, hf17⟩
          clear hf17
          refine (fun hHeld => hK _ _ hHeld ?_) (⟨(hKw.trans qk).cell c1 (fun h => h), (hKw.trans qk).cell c2 (fun h => h), (hKw.trans qk).cell c3 (fun h => h)⟩)
          clear hK
          try simp only [Act.put, List.setIfInBounds_toArray, List.set_cons_zero, List.set_cons_succ]
          replace hKw := hKw.trans qk
          replace hr0 := hr0.keep qk
          replace hr6 := hr6.keep qk
          replace hr12 := hr12.keep qk
          refine onlyL (i := 18) rfl (by kernel_rfl) (fun K hK => ?_)
          refine step_bsK rfl 83 25 4 _ rfl [.slice (some ⟨g0, 0, none⟩) 4 4, .slice (some ⟨g6, 0, none⟩) 4 4, .slice (some ⟨g12, 0, none⟩) 1 1, .slice (some ⟨g17, 0, none⟩) 4 4] Tryd.underlying83 Tryd.bsSl4 rfl (by decide) (by decide) (by simp [Act.eval]) (by simp [Value.cells]) ?_
          intro g18 w18 hg18 hb18 qk18
          clear hg18
          have hKx := hKw.trans qk18
          have hPx := pieces4 hb18 (hr0.keep qk18) (hr6.keep qk18) (hr12.keep qk18) (hr17.keep qk18)
          refine (fun hHeld => hK _ _ hHeld ?_) (⟨hKx.cell c1 (fun h => h), hKx.cell c2 (fun h => h), hKx.cell c3 (fun h => h)⟩)
          clear hK
          try simp only [Act.put, List.setIfInBounds_toArray, List.set_cons_zero, List.set_cons_succ]
          refine onlyL (i := 19) rfl (by kernel_rfl) (fun K hK => ?_)
          go_simp
          refine (HCC.out g18 g0 g6 g12 g17 w18 hPx).mono ?_
          rintro e w19 ⟨a19, c19, rfl, ho19, hk19, hf19⟩
          have hKy := hKx.trans hk19
          have hr19 := Own.row ho19 (areB_wf HLL.out.2.1)
          refine (fun hHeld => hK _ _ hHeld ?_) (⟨hKy.cell c1 (fun h => h), hKy.cell c2 (fun h => h), hKy.cell c3 (fun h => h)⟩)
          clear hK
          try simp only [Act.put, List.setIfInBounds_toArray, List.set_cons_zero, List.set_cons_succ]
          refine onlyL (i := 20) rfl (by kernel_rfl) (fun K hK => ?_)
          go_simp
          refine (sector_walk hr19 (fun e => by rw [e] at ho19; exact ho19.nilS) (by omega)).mono ?_
          rintro e w20 ⟨g20, c20, rfl, ho20, hk20, hf20⟩
          have hKz := hKy.trans hk20
          refine (fun hHeld => hK _ _ hHeld ?_) (⟨hKz.cell c1 (fun h => h), hKz.cell c2 (fun h => h), hKz.cell c3 (fun h => h)⟩)
          clear hK
          try simp only [Act.put, List.setIfInBounds_toArray, List.set_cons_zero, List.set_cons_succ]
          refine takeL (i := 21) (v := _) rfl (by kernel_rfl) (by kernel_rfl) (by kernel_rfl) (fun _ _ _ h => h) (Or.inl ⟨by rfl, by intro w hSw; (try dsimp only at hSw); go_simp; try with_reducible rfl⟩) (by assumption) ?_
          try simp only [Act.put, List.setIfInBounds_toArray, List.set_cons_zero, List.set_cons_succ]
          refine wpAnyH_done (by kernel_rfl) ?_ _
          have HF : Hid (Own w20 5 1 (some ⟨g20, 0, none⟩) c20 128 (byteV HD) ∧ Keeps Nil w w20 ∧ w.heap.size ≤ g20) := Lib.hid ⟨by rw [HLL.out.2.2]; exact ho20, HKD.out.trans hKz, by have := HKD.out.size; have := hKy.size; omega⟩
          clear hHeld hKx hKy hKz hr19 ho19 ho20 hk19 hk20 hf19 hf20 hb18 qk18 hPx
          go_wp2_with fail
          go_ret
          exact ⟨g20, c20, rfl, HF.out.1, HF.out.2.1, HF.out.2.2⟩
        · skip
          go_simp
          refine (HB2.out _).mono ?_
          rintro e w17 ⟨g17, rfl, hr17, qk, hf17⟩
          clear hf17
          refine (fun hHeld => hK _ _ hHeld ?_) (⟨(hKw.trans qk).cell c1 (fun h => h), (hKw.trans qk).cell c2 (fun h => h), (hKw.trans qk).cell c3 (fun h => h)⟩)
          clear hK
          try simp only [Act.put, List.setIfInBounds_toArray, List.set_cons_zero, List.set_cons_succ]
          replace hKw := hKw.trans qk
          replace hr0 := hr0.keep qk
          replace hr6 := hr6.keep qk
          refine onlyL (i := 12) rfl (by kernel_rfl) (fun K hK => ?_)
          refine step_bsK rfl 25 5 1 _ rfl (byteV [SH % 256]) Tryd.underlying25 Tryd.bs8 rfl (by decide) (by decide) (by simp [Act.eval, byteV]) (by simp [Value.cells, byteV]) ?_
          intro g12 w12 hg12 hb12 qk
          have hr12 : Row .u8 w12 (some ⟨g12, 0, none⟩) 1 L3 := HLS.out.2.2.2.symm ▸ hb12.row8 (n := 1) (fun x hx => by rw [List.mem_singleton.1 hx]; omega) rfl (by omega)
          clear hg12 hb12
          refine (fun hHeld => hK _ _ hHeld ?_) (⟨(hKw.trans qk).cell c1 (fun h => h), (hKw.trans qk).cell c2 (fun h => h), (hKw.trans qk).cell c3 (fun h => h)⟩)
          clear hK
          try simp only [Act.put, List.setIfInBounds_toArray, List.set_cons_zero, List.set_cons_succ]
          replace hKw := hKw.trans qk
          replace hr0 := hr0.keep qk
          replace hr6 := hr6.keep qk
          replace hr17 := hr17.keep qk
          refine onlyL (i := 18) rfl (by kernel_rfl) (fun K hK => ?_)
          refine step_bsK rfl 83 25 4 _ rfl [.slice (some ⟨g0, 0, none⟩) 4 4, .slice (some ⟨g6, 0, none⟩) 4 4, .slice (some ⟨g12, 0, none⟩) 1 1, .slice (some ⟨g17, 0, none⟩) 4 4] Tryd.underlying83 Tryd.bsSl4 rfl (by decide) (by decide) (by simp [Act.eval]) (by simp [Value.cells]) ?_
          intro g18 w18 hg18 hb18 qk18
          clear hg18
          have hKx := hKw.trans qk18
          have hPx := pieces4 hb18 (hr0.keep qk18) (hr6.keep qk18) (hr12.keep qk18) (hr17.keep qk18)
          refine (fun hHeld => hK _ _ hHeld ?_) (⟨hKx.cell c1 (fun h => h), hKx.cell c2 (fun h => h), hKx.cell c3 (fun h => h)⟩)
          clear hK
          try simp only [Act.put, List.setIfInBounds_toArray, List.set_cons_zero, List.set_cons_succ]
          refine onlyL (i := 19) rfl (by kernel_rfl) (fun K hK => ?_)
          go_simp
          refine (HCC.out g18 g0 g6 g12 g17 w18 hPx).mono ?_
          rintro e w19 ⟨a19, c19, rfl, ho19, hk19, hf19⟩
          have hKy := hKx.trans hk19
          have hr19 := Own.row ho19 (areB_wf HLL.out.2.1)
          refine (fun hHeld => hK _ _ hHeld ?_) (⟨hKy.cell c1 (fun h => h), hKy.cell c2 (fun h => h), hKy.cell c3 (fun h => h)⟩)
          clear hK
          try simp only [Act.put, List.setIfInBounds_toArray, List.set_cons_zero, List.set_cons_succ]
          refine onlyL (i := 20) rfl (by kernel_rfl) (fun K hK => ?_)
          go_simp
          refine (sector_walk hr19 (fun e => by rw [e] at ho19; exact ho19.nilS) (by omega)).mono ?_
          rintro e w20 ⟨g20, c20, rfl, ho20, hk20, hf20⟩
          have hKz := hKy.trans hk20
          refine (fun hHeld => hK _ _ hHeld ?_) (⟨hKz.cell c1 (fun h => h), hKz.cell c2 (fun h => h), hKz.cell c3 (fun h => h)⟩)
          clear hK
          try simp only [Act.put, List.setIfInBounds_toArray, List.set_cons_zero, List.set_cons_succ]
          refine takeL (i := 21) (v := _) rfl (by kernel_rfl) (by kernel_rfl) (by kernel_rfl) (fun _ _ _ h => h) (Or.inl ⟨by rfl, by intro w hSw; (try dsimp only at hSw); go_simp; try with_reducible rfl⟩) (by assumption) ?_
          try simp only [Act.put, List.setIfInBounds_toArray, List.set_cons_zero, List.set_cons_succ]
          refine wpAnyH_done (by kernel_rfl) ?_ _
          have HF : Hid (Own w20 5 1 (some ⟨g20, 0, none⟩) c20 128 (byteV HD) ∧ Keeps Nil w w20 ∧ w.heap.size ≤ g20) := Lib.hid ⟨by rw [HLL.out.2.2]; exact ho20, HKD.out.trans hKz, by have := HKD.out.size; have := hKy.size; omega⟩
          clear hHeld hKx hKy hKz hr19 ho19 ho20 hk19 hk20 hf19 hf20 hb18 qk18 hPx
          go_wp2_with fail
          go_ret
          exact ⟨g20, c20, rfl, HF.out.1, HF.out.2.1, HF.out.2.2⟩
      · skip
        refine step_bsK rfl 25 5 1 _ rfl (byteV [SH % 256]) Tryd.underlying25 Tryd.bs8 rfl (by decide) (by decide) (by simp [Act.eval, byteV]) (by simp [Value.cells, byteV]) ?_
        intro g12 w12 hg12 hb12 qk
        have hr12 : Row .u8 w12 (some ⟨g12, 0, none⟩) 1 L3 := HLS.out.2.2.2.symm ▸ hb12.row8 (n := 1) (fun x hx => by rw [List.mem_singleton.1 hx]; omega) rfl (by omega)
        clear hg12 hb12
        refine (fun hHeld => hK _ _ hHeld ?_) (⟨(hKw.trans qk).cell c1 (fun h => h), (hKw.trans qk).cell c2 (fun h => h), (hKw.trans qk).cell c3 (fun h => h)⟩)
        clear hK
        try simp only [Act.put, List.setIfInBounds_toArray, List.set_cons_zero, List.set_cons_succ]
        replace hKw := hKw.trans qk
        replace hr0 := hr0.keep qk
        refine onlyL (i := 6) rfl (by kernel_rfl) (fun K hK => ?_)
        go_simp
        refine (HB1.out _).mono ?_
        rintro e w6 ⟨g6, rfl, hr6, qk, hf6⟩
        have hg6v : v0.heap.size ≤ g6 := Nat.le_trans hKw.size hf6
        clear hf6
        refine (fun hHeld => hK _ _ hHeld ?_) (⟨(hKw.trans qk).cell c1 (fun h => h), (hKw.trans qk).cell c2 (fun h => h), (hKw.trans qk).cell c3 (fun h => h)⟩)
        clear hK
        try simp only [Act.put, List.setIfInBounds_toArray, List.set_cons_zero, List.set_cons_succ]
        replace hKw := hKw.trans qk
        replace hr0 := hr0.keep qk
        replace hr12 := hr12.keep qk
        refine onlyL (i := 17) rfl (by kernel_rfl) (fun K hK => ?_)
        go_simp
        refine (HB2.out _).mono ?_
        rintro e w17 ⟨g17, rfl, hr17, qk, hf17⟩
        clear hf17
        refine (fun hHeld => hK _ _ hHeld ?_) (⟨(hKw.trans qk).cell c1 (fun h => h), (hKw.trans qk).cell c2 (fun h => h), (hKw.trans qk).cell c3 (fun h => h)⟩)
        clear hK
        try simp only [Act.put, List.setIfInBounds_toArray, List.set_cons_zero, List.set_cons_succ]
        replace hKw := hKw.trans qk
        replace hr0 := hr0.keep qk
        replace hr12 := hr12.keep qk
        replace hr6 := hr6.keep qk
        refine onlyL (i := 18) rfl (by kernel_rfl) (fun K hK => ?_)
        refine step_bsK rfl 83 25 4 _ rfl [.slice (some ⟨g0, 0, none⟩) 4 4, .slice (some ⟨g6, 0, none⟩) 4 4, .slice (some ⟨g12, 0, none⟩) 1 1, .slice (some ⟨g17, 0, none⟩) 4 4] Tryd.underlying83 Tryd.bsSl4 rfl (by decide) (by decide) (by simp [Act.eval]) (by simp [Value.cells]) ?_
        intro g18 w18 hg18 hb18 qk18
        clear hg18
        have hKx := hKw.trans qk18
        have hPx := pieces4 hb18 (hr0.keep qk18) (hr6.keep qk18) (hr12.keep qk18) (hr17.keep qk18)
        refine (fun hHeld => hK _ _ hHeld ?_) (⟨hKx.cell c1 (fun h => h), hKx.cell c2 (fun h => h), hKx.cell c3 (fun h => h)⟩)
        clear hK
        try simp only [Act.put, List.setIfInBounds_toArray, List.set_cons_zero, List.set_cons_succ]
        refine onlyL (i := 19) rfl (by kernel_rfl) (fun K hK => ?_)
        go_simp
        refine (HCC.out g18 g0 g6 g12 g17 w18 hPx).mono ?_
        rintro e w19 ⟨a19, c19, rfl, ho19, hk19, hf19⟩
        have hKy := hKx.trans hk19
        have hr19 := Own.row ho19 (areB_wf HLL.out.2.1)
        refine (fun hHeld => hK _ _ hHeld ?_) (⟨hKy.cell c1 (fun h => h), hKy.cell c2 (fun h => h), hKy.cell c3 (fun h => h)⟩)
        clear hK
        try simp only [Act.put, List.setIfInBounds_toArray, List.set_cons_zero, List.set_cons_succ]
        refine onlyL (i := 20) rfl (by kernel_rfl) (fun K hK => ?_)
        go_simp
        refine (sector_walk hr19 (fun e => by rw [e] at ho19; exact ho19.nilS) (by omega)).mono ?_
        rintro e w20 ⟨g20, c20, rfl, ho20, hk20, hf20⟩
        have hKz := hKy.trans hk20
        refine (fun hHeld => hK _ _ hHeld ?_) (⟨hKz.cell c1 (fun h => h), hKz.cell c2 (fun h => h), hKz.cell c3 (fun h => h)⟩)
        clear hK
        try simp only [Act.put, List.setIfInBounds_toArray, List.set_cons_zero, List.set_cons_succ]
        refine takeL (i := 21) (v := _) rfl (by kernel_rfl) (by kernel_rfl) (by kernel_rfl) (fun _ _ _ h => h) (Or.inl ⟨by rfl, by intro w hSw; (try dsimp only at hSw); go_simp; try with_reducible rfl⟩) (by assumption) ?_
        try simp only [Act.put, List.setIfInBounds_toArray, List.set_cons_zero, List.set_cons_succ]
        refine wpAnyH_done (by kernel_rfl) ?_ _
        have HF : Hid (Own w20 5 1 (some ⟨g20, 0, none⟩) c20 128 (byteV HD) ∧ Keeps Nil w w20 ∧ w.heap.size ≤ g20) := Lib.hid ⟨by rw [HLL.out.2.2]; exact ho20, HKD.out.trans hKz, by have := HKD.out.size; have := hKy.size; omega⟩
        clear hHeld hKx hKy hKz hr19 ho19 ho20 hk19 hk20 hf19 hf20 hb18 qk18 hPx
        go_wp2_with fail
        go_ret
        exact ⟨g20, c20, rfl, HF.out.1, HF.out.2.1, HF.out.2.2⟩
    · skip
      go_simp
      refine (HB1.out _).mono ?_
      rintro e w6 ⟨g6, rfl, hr6, qk, hf6⟩
      have hg6v : v0.heap.size ≤ g6 := Nat.le_trans hKw.size hf6
      clear hf6
      refine (fun hHeld => hK _ _ hHeld ?_) (⟨(hKw.trans qk).cell c1 (fun h => h), (hKw.trans qk).cell c2 (fun h => h), (hKw.trans qk).cell c3 (fun h => h)⟩)
      clear hK
      try simp only [Act.put, List.setIfInBounds_toArray, List.set_cons_zero, List.set_cons_succ]
      replace hKw := hKw.trans qk
      replace hb0 := hb0.keep0 qk
      refine threeL (i := 1) (j := 12) (k := 17) rfl rfl rfl (by kernel_rfl) (fun K hK => ?_) (fun K hK => ?_) (fun K hK => ?_)
      · skip
        refine step_convBB rfl 25 5 _ rfl Tryd.underlying25 Tryd.underlying5 rfl hb0 ?_
        intro w1 hcv qk1 hlt1
        have hcc := CellsK.of hb0 qk1 hcv
        have hr0 : Row .u8 w1 (some ⟨g0, 0, none⟩) 4 L0 := HLS.out.1.symm ▸ (hb0.row8 (n := 4) magic_bytes rfl (by omega)).keepC hcc
        have hKx : Keeps Nil v0 w1 := hKw.step qk1 (fun i hi => .inr (by rw [show i = g0 from hi]; exact hg0v))
        refine (fun hHeld => hK _ _ hHeld ?_) (⟨hKx.cell c1 (fun h => h), hKx.cell c2 (fun h => h), hKx.cell c3 (fun h => h)⟩)
        clear hK
        try simp only [Act.put, List.setIfInBounds_toArray, List.set_cons_zero, List.set_cons_succ]
        try (replace hr6 := hr6.keepC hcc)
        try (replace hr12 := hr12.keepC hcc)
        try (replace hr17 := hr17.keepC hcc)
        replace hKw := hKx
        clear hKx hcc qk1 hcv hlt1 hb0
        refine bothL (i := 12) (j := 17) rfl rfl (by kernel_rfl) (fun K hK => ?_) (fun K hK => ?_)
        · skip
          refine step_bsK rfl 25 5 1 _ rfl (byteV [SH % 256]) Tryd.underlying25 Tryd.bs8 rfl (by decide) (by decide) (by simp [Act.eval, byteV]) (by simp [Value.cells, byteV]) ?_
          intro g12 w12 hg12 hb12 qk
          have hr12 : Row .u8 w12 (some ⟨g12, 0, none⟩) 1 L3 := HLS.out.2.2.2.symm ▸ hb12.row8 (n := 1) (fun x hx => by rw [List.mem_singleton.1 hx]; omega) rfl (by omega)
          clear hg12 hb12
          refine (fun hHeld => hK _ _ hHeld ?_) (⟨(hKw.trans qk).cell c1 (fun h => h), (hKw.trans qk).cell c2 (fun h => h), (hKw.trans qk).cell c3 (fun h => h)⟩)
          clear hK
          try simp only [Act.put, List.setIfInBounds_toArray, List.set_cons_zero, List.set_cons_succ]
          replace hKw := hKw.trans qk
          replace hr6 := hr6.keep qk
          replace hr0 := hr0.keep qk
          refine onlyL (i := 17) rfl (by kernel_rfl) (fun K hK => ?_)
          go_simp
          refine (HB2.out _).mono ?_
          rintro e w17 ⟨g17, rfl, hr17, qk, hf17⟩
          clear hf17
          refine (fun hHeld => hK _ _ hHeld ?_) (⟨(hKw.trans qk).cell c1 (fun h => h), (hKw.trans qk).cell c2 (fun h => h), (hKw.trans qk).cell c3 (fun h => h)⟩)
          clear hK
          try simp only [Act.put, List.setIfInBounds_toArray, List.set_cons_zero, List.set_cons_succ]
          replace hKw := hKw.trans qk
          replace hr6 := hr6.keep qk
          replace hr0 := hr0.keep qk
          replace hr12 := hr12.keep qk
          refine onlyL (i := 18) rfl (by kernel_rfl) (fun K hK => ?_)
          refine step_bsK rfl 83 25 4 _ rfl [.slice (some ⟨g0, 0, none⟩) 4 4, .slice (some ⟨g6, 0, none⟩) 4 4, .slice (some ⟨g12, 0, none⟩) 1 1, .slice (some ⟨g17, 0, none⟩) 4 4] Tryd.underlying83 Tryd.bsSl4 rfl (by decide) (by decide) (by simp [Act.eval]) (by simp [Value.cells]) ?_
          intro g18 w18 hg18 hb18 qk18
          clear hg18
          have hKx := hKw.trans qk18
          have hPx := pieces4 hb18 (hr0.keep qk18) (hr6.keep qk18) (hr12.keep qk18) (hr17.keep qk18)
          refine (fun hHeld => hK _ _ hHeld ?_) (⟨hKx.cell c1 (fun h => h), hKx.cell c2 (fun h => h), hKx.cell c3 (fun h => h)⟩)
          clear hK
          try simp only [Act.put, List.setIfInBounds_toArray, List.set_cons_zero, List.set_cons_succ]
          refine onlyL (i := 19) rfl (by kernel_rfl) (fun K hK => ?_)
          go_simp
          refine (HCC.out g18 g0 g6 g12 g17 w18 hPx).mono ?_
          rintro e w19 ⟨a19, c19, rfl, ho19, hk19, hf19⟩
          have hKy := hKx.trans hk19
          have hr19 := Own.row ho19 (areB_wf HLL.out.2.1)
          refine (fun hHeld => hK _ _ hHeld ?_) (⟨hKy.cell c1 (fun h => h), hKy.cell c2 (fun h => h), hKy.cell c3 (fun h => h)⟩)
          clear hK
          try simp only [Act.put, List.setIfInBounds_toArray, List.set_cons_zero, List.set_cons_succ]
          refine onlyL (i := 20) rfl (by kernel_rfl) (fun K hK => ?_)
          go_simp
          refine (sector_walk hr19 (fun e => by rw [e] at ho19; exact ho19.nilS) (by omega)).mono ?_
          rintro e w20 ⟨g20, c20, rfl, ho20, hk20, hf20⟩
          have hKz := hKy.trans hk20
          refine (fun hHeld => hK _ _ hHeld ?_) (⟨hKz.cell c1 (fun h => h), hKz.cell c2 (fun h => h), hKz.cell c3 (fun h => h)⟩)
          clear hK
          try simp only [Act.put, List.setIfInBounds_toArray, List.set_cons_zero, List.set_cons_succ]
          refine takeL (i := 21) (v := _) rfl (by kernel_rfl) (by kernel_rfl) (by kernel_rfl) (fun _ _ _ h => h) (Or.inl ⟨by rfl, by intro w hSw; (try dsimp only at hSw); go_simp; try with_reducible rfl⟩) (by assumption) ?_
          try simp only [Act.put, List.setIfInBounds_toArray, List.set_cons_zero, List.set_cons_succ]
          refine wpAnyH_done (by kernel_rfl) ?_ _
          have HF : Hid (Own w20 5 1 (some ⟨g20, 0, none⟩) c20 128 (byteV HD) ∧ Keeps Nil w w20 ∧ w.heap.size ≤ g20) := Lib.hid ⟨by rw [HLL.out.2.2]; exact ho20, HKD.out.trans hKz, by have := HKD.out.size; have := hKy.size; omega⟩
          clear hHeld hKx hKy hKz hr19 ho19 ho20 hk19 hk20 hf19 hf20 hb18 qk18 hPx
          go_wp2_with fail
          go_ret
          exact ⟨g20, c20, rfl, HF.out.1, HF.out.2.1, HF.out.2.2⟩
        · skip
          go_simp
          refine (HB2.out _).mono ?_
          rintro e w17 ⟨g17, rfl, hr17, qk, hf17⟩
          clear hf17
          refine (fun hHeld => hK _ _ hHeld ?_) (⟨(hKw.trans qk).cell c1 (fun h => h), (hKw.trans qk).cell c2 (fun h => h), (hKw.trans qk).cell c3 (fun h => h)⟩)
          clear hK
          try simp only [Act.put, List.setIfInBounds_toArray, List.set_cons_zero, List.set_cons_succ]
          replace hKw := hKw.trans qk
          replace hr6 := hr6.keep qk
          replace hr0 := hr0.keep qk
          refine onlyL (i := 12) rfl (by kernel_rfl) (fun K hK => ?_)
          refine step_bsK rfl 25 5 1 _ rfl (byteV [SH % 256]) Tryd.underlying25 Tryd.bs8 rfl (by decide) (by decide) (by simp [Act.eval, byteV]) (by simp [Value.cells, byteV]) ?_
          intro g12 w12 hg12 hb12 qk
          have hr12 : Row .u8 w12 (some ⟨g12, 0, none⟩) 1 L3 := HLS.out.2.2.2.symm ▸ hb12.row8 (n := 1) (fun x hx => by rw [List.mem_singleton.1 hx]; omega) rfl (by omega)
          clear hg12 hb12
          refine (fun hHeld => hK _ _ hHeld ?_) (⟨(hKw.trans qk).cell c1 (fun h => h), (hKw.trans qk).cell c2 (fun h => h), (hKw.trans qk).cell c3 (fun h => h)⟩)
          clear hK
          try simp only [Act.put, List.setIfInBounds_toArray, List.set_cons_zero, List.set_cons_succ]
          replace hKw := hKw.trans qk
          replace hr6 := hr6.keep qk
          replace hr0 := hr0.keep qk
          replace hr17 := hr17.keep qk
          refine onlyL (i := 18) rfl (by kernel_rfl) (fun K hK => ?_)
          refine step_bsK rfl 83 25 4 _ rfl [.slice (some ⟨g0, 0, none⟩) 4 4, .slice (some ⟨g6, 0, none⟩) 4 4, .slice (some ⟨g12, 0, none⟩) 1 1, .slice (some ⟨g17, 0, none⟩) 4 4] Tryd.underlying83 Tryd.bsSl4 rfl (by decide) (by decide) (by simp [Act.eval]) (by simp [Value.cells]) ?_
          intro g18 w18 hg18 hb18 qk18
          clear hg18
          have hKx := hKw.trans qk18
          have hPx := pieces4 hb18 (hr0.keep qk18) (hr6.keep qk18) (hr12.keep qk18) (hr17.keep qk18)
          refine (fun hHeld => hK _ _ hHeld ?_) (⟨hKx.cell c1 (fun h => h), hKx.cell c2 (fun h => h), hKx.cell c3 (fun h => h)⟩)
          clear hK
          try simp only [Act.put, List.setIfInBounds_toArray, List.set_cons_zero, List.set_cons_succ]
          refine onlyL (i := 19) rfl (by kernel_rfl) (fun K hK => ?_)
          go_simp
          refine (HCC.out g18 g0 g6 g12 g17 w18 hPx).mono ?_
          rintro e w19 ⟨a19, c19, rfl, ho19, hk19, hf19⟩
          have hKy := hKx.trans hk19
          have hr19 := Own.row ho19 (areB_wf HLL.out.2.1)
          refine (fun hHeld => hK _ _ hHeld ?_) (⟨hKy.cell c1 (fun h => h), hKy.cell c2 (fun h => h), hKy.cell c3 (fun h => h)⟩)
          clear hK
          try simp only [Act.put, List.setIfInBounds_toArray, List.set_cons_zero, List.set_cons_succ]
          refine onlyL (i := 20) rfl (by kernel_rfl) (fun K hK => ?_)
          go_simp
          refine (sector_walk hr19 (fun e => by rw [e] at ho19; exact ho19.nilS) (by omega)).mono ?_
          rintro e w20 ⟨g20, c20, rfl, ho20, hk20, hf20⟩
          have hKz := hKy.trans hk20
          refine (fun hHeld => hK _ _ hHeld ?_) (⟨hKz.cell c1 (fun h => h), hKz.cell c2 (fun h => h), hKz.cell c3 (fun h => h)⟩)
          clear hK
          try simp only [Act.put, List.setIfInBounds_toArray, List.set_cons_zero, List.set_cons_succ]
          refine takeL (i := 21) (v := _) rfl (by kernel_rfl) (by kernel_rfl) (by kernel_rfl) (fun _ _ _ h => h) (Or.inl ⟨by rfl, by intro w hSw; (try dsimp only at hSw); go_simp; try with_reducible rfl⟩) (by assumption) ?_
          try simp only [Act.put, List.setIfInBounds_toArray, List.set_cons_zero, List.set_cons_succ]
          refine wpAnyH_done (by kernel_rfl) ?_ _
          have HF : Hid (Own w20 5 1 (some ⟨g20, 0, none⟩) c20 128 (byteV HD) ∧ Keeps Nil w w20 ∧ w.heap.size ≤ g20) := Lib.hid ⟨by rw [HLL.out.2.2]; exact ho20, HKD.out.trans hKz, by have := HKD.out.size; have := hKy.size; omega⟩
          clear hHeld hKx hKy hKz hr19 ho19 ho20 hk19 hk20 hf19 hf20 hb18 qk18 hPx
          go_wp2_with fail
          go_ret
          exact ⟨g20, c20, rfl, HF.out.1, HF.out.2.1, HF.out.2.2⟩
      · skip
        refine step_bsK rfl 25 5 1 _ rfl (byteV [SH % 256]) Tryd.underlying25 Tryd.bs8 rfl (by decide) (by decide) (by simp [Act.eval, byteV]) (by simp [Value.cells, byteV]) ?_
        intro g12 w12 hg12 hb12 qk
        have hr12 : Row .u8 w12 (some ⟨g12, 0, none⟩) 1 L3 := HLS.out.2.2.2.symm ▸ hb12.row8 (n := 1) (fun x hx => by rw [List.mem_singleton.1 hx]; omega) rfl (by omega)
        clear hg12 hb12
        refine (fun hHeld => hK _ _ hHeld ?_) (⟨(hKw.trans qk).cell c1 (fun h => h), (hKw.trans qk).cell c2 (fun h => h), (hKw.trans qk).cell c3 (fun h => h)⟩)
        clear hK
        try simp only [Act.put, List.setIfInBounds_toArray, List.set_cons_zero, List.set_cons_succ]
        replace hKw := hKw.trans qk
        replace hb0 := hb0.keep0 qk
        replace hr6 := hr6.keep qk
        refine bothL (i := 1) (j := 17) rfl rfl (by kernel_rfl) (fun K hK => ?_) (fun K hK => ?_)
        · skip
          refine step_convBB rfl 25 5 _ rfl Tryd.underlying25 Tryd.underlying5 rfl hb0 ?_
          intro w1 hcv qk1 hlt1
          have hcc := CellsK.of hb0 qk1 hcv
          have hr0 : Row .u8 w1 (some ⟨g0, 0, none⟩) 4 L0 := HLS.out.1.symm ▸ (hb0.row8 (n := 4) magic_bytes rfl (by omega)).keepC hcc
          have hKx : Keeps Nil v0 w1 := hKw.step qk1 (fun i hi => .inr (by rw [show i = g0 from hi]; exact hg0v))
          refine (fun hHeld => hK _ _ hHeld ?_) (⟨hKx.cell c1 (fun h => h), hKx.cell c2 (fun h => h), hKx.cell c3 (fun h => h)⟩)
          clear hK
          try simp only [Act.put, List.setIfInBounds_toArray, List.set_cons_zero, List.set_cons_succ]
          try (replace hr6 := hr6.keepC hcc)
          try (replace hr12 := hr12.keepC hcc)
          try (replace hr17 := hr17.keepC hcc)
          replace hKw := hKx
          clear hKx hcc qk1 hcv hlt1 hb0
          refine onlyL (i := 17) rfl (by kernel_rfl) (fun K hK => ?_)
          go_simp
          refine (HB2.out _).mono ?_
          rintro e w17 ⟨g17, rfl, hr17, qk, hf17⟩
          clear hf17
          refine (fun hHeld => hK _ _ hHeld ?_) (⟨(hKw.trans qk).cell c1 (fun h => h), (hKw.trans qk).cell c2 (fun h => h), (hKw.trans qk).cell c3 (fun h => h)⟩)
          clear hK
          try simp only [Act.put, List.setIfInBounds_toArray, List.set_cons_zero, List.set_cons_succ]
          replace hKw := hKw.trans qk
          replace hr6 := hr6.keep qk
          replace hr12 := hr12.keep qk
          replace hr0 := hr0.keep qk
          refine onlyL (i := 18) rfl (by kernel_rfl) (fun K hK => ?_)
          refine step_bsK rfl 83 25 4 _ rfl [.slice (some ⟨g0, 0, none⟩) 4 4, .slice (some ⟨g6, 0, none⟩) 4 4, .slice (some ⟨g12, 0, none⟩) 1 1, .slice (some ⟨g17, 0, none⟩) 4 4] Tryd.underlying83 Tryd.bsSl4 rfl (by decide) (by decide) (by simp [Act.eval]) (by simp [Value.cells]) ?_
          intro g18 w18 hg18 hb18 qk18
          clear hg18
          have hKx := hKw.trans qk18
          have hPx := pieces4 hb18 (hr0.keep qk18) (hr6.keep qk18) (hr12.keep qk18) (hr17.keep qk18)
          refine (fun hHeld => hK _ _ hHeld ?_) (⟨hKx.cell c1 (fun h => h), hKx.cell c2 (fun h => h), hKx.cell c3 (fun h => h)⟩)
          clear hK
          try simp only [Act.put, List.setIfInBounds_toArray, List.set_cons_zero, List.set_cons_succ]
          refine onlyL (i := 19) rfl (by kernel_rfl) (fun K hK => ?_)
          go_simp
          refine (HCC.out g18 g0 g6 g12 g17 w18 hPx).mono ?_
          rintro e w19 ⟨a19, c19, rfl, ho19, hk19, hf19⟩
          have hKy := hKx.trans hk19
          have hr19 := Own.row ho19 (areB_wf HLL.out.2.1)
          refine (fun hHeld => hK _ _ hHeld ?_) (⟨hKy.cell c1 (fun h => h), hKy.cell c2 (fun h => h), hKy.cell c3 (fun h => h)⟩)
          clear hK
          try simp only [Act.put, List.setIfInBounds_toArray, List.set_cons_zero, List.set_cons_succ]
          refine onlyL (i := 20) rfl (by kernel_rfl) (fun K hK => ?_)
          go_simp
          refine (sector_walk hr19 (fun e => by rw [e] at ho19; exact ho19.nilS) (by omega)).mono ?_
          rintro e w20 ⟨g20, c20, rfl, ho20, hk20, hf20⟩
          have hKz := hKy.trans hk20
          refine (fun hHeld => hK _ _ hHeld ?_) (⟨hKz.cell c1 (fun h => h), hKz.cell c2 (fun h => h), hKz.cell c3 (fun h => h)⟩)
          clear hK
          try simp only [Act.put, List.setIfInBounds_toArray, List.set_cons_zero, List.set_cons_succ]
          refine takeL (i := 21) (v := _) rfl (by kernel_rfl) (by kernel_rfl) (by kernel_rfl) (fun _ _ _ h => h) (Or.inl ⟨by rfl, by intro w hSw; (try dsimp only at hSw); go_simp; try with_reducible rfl⟩) (by assumption) ?_
          try simp only [Act.put, List.setIfInBounds_toArray, List.set_cons_zero, List.set_cons_succ]
          refine wpAnyH_done (by kernel_rfl) ?_ _
          have HF : Hid (Own w20 5 1 (some ⟨g20, 0, none⟩) c20 128 (byteV HD) ∧ Keeps Nil w w20 ∧ w.heap.size ≤ g20) := Lib.hid ⟨by rw [HLL.out.2.2]; exact ho20, HKD.out.trans hKz, by have := HKD.out.size; have := hKy.size; omega⟩
          clear hHeld hKx hKy hKz hr19 ho19 ho20 hk19 hk20 hf19 hf20 hb18 qk18 hPx
          go_wp2_with fail
          go_ret
          exact ⟨g20, c20, rfl, HF.out.1, HF.out.2.1, HF.out.2.2⟩
        · skip
          go_simp
          refine (HB2.out _).mono ?_
          rintro e w17 ⟨g17, rfl, hr17, qk, hf17⟩
          clear hf17
          refine (fun hHeld => hK _ _ hHeld ?_) (⟨(hKw.trans qk).cell c1 (fun h => h), (hKw.trans qk).cell c2 (fun h => h), (hKw.trans qk).cell c3 (fun h => h)⟩)
          clear hK
          try simp only [Act.put, List.setIfInBounds_toArray, List.set_cons_zero, List.set_cons_succ]
          replace hKw := hKw.trans qk
          replace hb0 := hb0.keep0 qk
          replace hr6 := hr6.keep qk
          replace hr12 := hr12.keep qk
          refine onlyL (i := 1) rfl (by kernel_rfl) (fun K hK => ?_)
          refine step_convBB rfl 25 5 _ rfl Tryd.underlying25 Tryd.underlying5 rfl hb0 ?_
          intro w1 hcv qk1 hlt1
          have hcc := CellsK.of hb0 qk1 hcv
          have hr0 : Row .u8 w1 (some ⟨g0, 0, none⟩) 4 L0 := HLS.out.1.symm ▸ (hb0.row8 (n := 4) magic_bytes rfl (by omega)).keepC hcc
          have hKx : Keeps Nil v0 w1 := hKw.step qk1 (fun i hi => .inr (by rw [show i = g0 from hi]; exact hg0v))
          refine (fun hHeld => hK _ _ hHeld ?_) (⟨hKx.cell c1 (fun h => h), hKx.cell c2 (fun h => h), hKx.cell c3 (fun h => h)⟩)
          clear hK
          try simp only [Act.put, List.setIfInBounds_toArray, List.set_cons_zero, List.set_cons_succ]
          try (replace hr6 := hr6.keepC hcc)
          try (replace hr12 := hr12.keepC hcc)
          try (replace hr17 := hr17.keepC hcc)
          replace hKw := hKx
          clear hKx hcc qk1 hcv hlt1 hb0
          refine onlyL (i := 18) rfl (by kernel_rfl) (fun K hK => ?_)
          refine step_bsK rfl 83 25 4 _ rfl [.slice (some ⟨g0, 0, none⟩) 4 4, .slice (some ⟨g6, 0, none⟩) 4 4, .slice (some ⟨g12, 0, none⟩) 1 1, .slice (some ⟨g17, 0, none⟩) 4 4] Tryd.underlying83 Tryd.bsSl4 rfl (by decide) (by decide) (by simp [Act.eval]) (by simp [Value.cells]) ?_
          intro g18 w18 hg18 hb18 qk18
          clear hg18
          have hKx := hKw.trans qk18
          have hPx := pieces4 hb18 (hr0.keep qk18) (hr6.keep qk18) (hr12.keep qk18) (hr17.keep qk18)
          refine (fun hHeld => hK _ _ hHeld ?_) (⟨hKx.cell c1 (fun h => h), hKx.cell c2 (fun h => h), hKx.cell c3 (fun h => h)⟩)
          clear hK
          try simp only [Act.put, List.setIfInBounds_toArray, List.set_cons_zero, List.set_cons_succ]
          refine onlyL (i := 19) rfl (by kernel_rfl) (fun K hK => ?_)
          go_simp
          refine (HCC.out g18 g0 g6 g12 g17 w18 hPx).mono ?_
          rintro e w19 ⟨a19, c19, rfl, ho19, hk19, hf19⟩
          have hKy := hKx.trans hk19
          have hr19 := Own.row ho19 (areB_wf HLL.out.2.1)
          refine (fun hHeld => hK _ _ hHeld ?_) (⟨hKy.cell c1 (fun h => h), hKy.cell c2 (fun h => h), hKy.cell c3 (fun h => h)⟩)
          clear hK
          try simp only [Act.put, List.setIfInBounds_toArray, List.set_cons_zero, List.set_cons_succ]
          refine onlyL (i := 20) rfl (by kernel_rfl) (fun K hK => ?_)
          go_simp
          refine (sector_walk hr19 (fun e => by rw [e] at ho19; exact ho19.nilS) (by omega)).mono ?_
          rintro e w20 ⟨g20, c20, rfl, ho20, hk20, hf20⟩
          have hKz := hKy.trans hk20
          refine (fun hHeld => hK _ _ hHeld ?_) (⟨hKz.cell c1 (fun h => h), hKz.cell c2 (fun h => h), hKz.cell c3 (fun h => h)⟩)
          clear hK
          try simp only [Act.put, List.setIfInBounds_toArray, List.set_cons_zero, List.set_cons_succ]
          refine takeL (i := 21) (v := _) rfl (by kernel_rfl) (by kernel_rfl) (by kernel_rfl) (fun _ _ _ h => h) (Or.inl ⟨by rfl, by intro w hSw; (try dsimp only at hSw); go_simp; try with_reducible rfl⟩) (by assumption) ?_
          try simp only [Act.put, List.setIfInBounds_toArray, List.set_cons_zero, List.set_cons_succ]
          refine wpAnyH_done (by kernel_rfl) ?_ _
          have HF : Hid (Own w20 5 1 (some ⟨g20, 0, none⟩) c20 128 (byteV HD) ∧ Keeps Nil w w20 ∧ w.heap.size ≤ g20) := Lib.hid ⟨by rw [HLL.out.2.2]; exact ho20, HKD.out.trans hKz, by have := HKD.out.size; have := hKy.size; omega⟩
          clear hHeld hKx hKy hKz hr19 ho19 ho20 hk19 hk20 hf19 hf20 hb18 qk18 hPx
          go_wp2_with fail
          go_ret
          exact ⟨g20, c20, rfl, HF.out.1, HF.out.2.1, HF.out.2.2⟩
      · skip
        go_simp
        refine (HB2.out _).mono ?_
        rintro e w17 ⟨g17, rfl, hr17, qk, hf17⟩
        clear hf17
        refine (fun hHeld => hK _ _ hHeld ?_) (⟨(hKw.trans qk).cell c1 (fun h => h), (hKw.trans qk).cell c2 (fun h => h), (hKw.trans qk).cell c3 (fun h => h)⟩)
        clear hK
        try simp only [Act.put, List.setIfInBounds_toArray, List.set_cons_zero, List.set_cons_succ]
        replace hKw := hKw.trans qk
        replace hb0 := hb0.keep0 qk
        replace hr6 := hr6.keep qk
        refine bothL (i := 1) (j := 12) rfl rfl (by kernel_rfl) (fun K hK => ?_) (fun K hK => ?_)
        · skip
          refine step_convBB rfl 25 5 _ rfl Tryd.underlying25 Tryd.underlying5 rfl hb0 ?_
          intro w1 hcv qk1 hlt1
          have hcc := CellsK.of hb0 qk1 hcv
          have hr0 : Row .u8 w1 (some ⟨g0, 0, none⟩) 4 L0 := HLS.out.1.symm ▸ (hb0.row8 (n := 4) magic_bytes rfl (by omega)).keepC hcc
          have hKx : Keeps Nil v0 w1 := hKw.step qk1 (fun i hi => .inr (by rw [show i = g0 from hi]; exact hg0v))
          refine (fun hHeld => hK _ _ hHeld ?_) (⟨hKx.cell c1 (fun h => h), hKx.cell c2 (fun h => h), hKx.cell c3 (fun h => h)⟩)
          clear hK
          try simp only [Act.put, List.setIfInBounds_toArray, List.set_cons_zero, List.set_cons_succ]
          try (replace hr6 := hr6.keepC hcc)
          try (replace hr12 := hr12.keepC hcc)
          try (replace hr17 := hr17.keepC hcc)
          replace hKw := hKx
          clear hKx hcc qk1 hcv hlt1 hb0
          refine onlyL (i := 12) rfl (by kernel_rfl) (fun K hK => ?_)
          refine step_bsK rfl 25 5 1 _ rfl (byteV [SH % 256]) Tryd.underlying25 Tryd.bs8 rfl (by decide) (by decide) (by simp [Act.eval, byteV]) (by simp [Value.cells, byteV]) ?_
          intro g12 w12 hg12 hb12 qk
          have hr12 : Row .u8 w12 (some ⟨g12, 0, none⟩) 1 L3 := HLS.out.2.2.2.symm ▸ hb12.row8 (n := 1) (fun x hx => by rw [List.mem_singleton.1 hx]; omega) rfl (by omega)
          clear hg12 hb12
          refine (fun hHeld => hK _ _ hHeld ?_) (⟨(hKw.trans qk).cell c1 (fun h => h), (hKw.trans qk).cell c2 (fun h => h), (hKw.trans qk).cell c3 (fun h => h)⟩)
          clear hK
          try simp only [Act.put, List.setIfInBounds_toArray, List.set_cons_zero, List.set_cons_succ]
          replace hKw := hKw.trans qk
          replace hr6 := hr6.keep qk
          replace hr17 := hr17.keep qk
          replace hr0 := hr0.keep qk
          refine onlyL (i := 18) rfl (by kernel_rfl) (fun K hK => ?_)
          refine step_bsK rfl 83 25 4 _ rfl [.slice (some ⟨g0, 0, none⟩) 4 4, .slice (some ⟨g6, 0, none⟩) 4 4, .slice (some ⟨g12, 0, none⟩) 1 1, .slice (some ⟨g17, 0, none⟩) 4 4] Tryd.underlying83 Tryd.bsSl4 rfl (by decide) (by decide) (by simp [Act.eval]) (by simp [Value.cells]) ?_
          intro g18 w18 hg18 hb18 qk18
          clear hg18
          have hKx := hKw.trans qk18
          have hPx := pieces4 hb18 (hr0.keep qk18) (hr6.keep qk18) (hr12.keep qk18) (hr17.keep qk18)
          refine (fun hHeld => hK _ _ hHeld ?_) (⟨hKx.cell c1 (fun h => h), hKx.cell c2 (fun h => h), hKx.cell c3 (fun h => h)⟩)
          clear hK
          try simp only [Act.put, List.setIfInBounds_toArray, List.set_cons_zero, List.set_cons_succ]
          refine onlyL (i := 19) rfl (by kernel_rfl) (fun K hK => ?_)
          go_simp
          refine (HCC.out g18 g0 g6 g12 g17 w18 hPx).mono ?_
          rintro e w19 ⟨a19, c19, rfl, ho19, hk19, hf19⟩
          have hKy := hKx.trans hk19
          have hr19 := Own.row ho19 (areB_wf HLL.out.2.1)
          refine (fun hHeld => hK _ _ hHeld ?_) (⟨hKy.cell c1 (fun h => h), hKy.cell c2 (fun h => h), hKy.cell c3 (fun h => h)⟩)
          clear hK
          try simp only [Act.put, List.setIfInBounds_toArray, List.set_cons_zero, List.set_cons_succ]
          refine onlyL (i := 20) rfl (by kernel_rfl) (fun K hK => ?_)
          go_simp
          refine (sector_walk hr19 (fun e => by rw [e] at ho19; exact ho19.nilS) (by omega)).mono ?_
          rintro e w20 ⟨g20, c20, rfl, ho20, hk20, hf20⟩
          have hKz := hKy.trans hk20
          refine (fun hHeld => hK _ _ hHeld ?_) (⟨hKz.cell c1 (fun h => h), hKz.cell c2 (fun h => h), hKz.cell c3 (fun h => h)⟩)
          clear hK
          try simp only [Act.put, List.setIfInBounds_toArray, List.set_cons_zero, List.set_cons_succ]
          refine takeL (i := 21) (v := _) rfl (by kernel_rfl) (by kernel_rfl) (by kernel_rfl) (fun _ _ _ h => h) (Or.inl ⟨by rfl, by intro w hSw; (try dsimp only at hSw); go_simp; try with_reducible rfl⟩) (by assumption) ?_
          try simp only [Act.put, List.setIfInBounds_toArray, List.set_cons_zero, List.set_cons_succ]
          refine wpAnyH_done (by kernel_rfl) ?_ _
          have HF : Hid (Own w20 5 1 (some ⟨g20, 0, none⟩) c20 128 (byteV HD) ∧ Keeps Nil w w20 ∧ w.heap.size ≤ g20) := Lib.hid ⟨by rw [HLL.out.2.2]; exact ho20, HKD.out.trans hKz, by have := HKD.out.size; have := hKy.size; omega⟩
          clear hHeld hKx hKy hKz hr19 ho19 ho20 hk19 hk20 hf19 hf20 hb18 qk18 hPx
          go_wp2_with fail
          go_ret
          exact ⟨g20, c20, rfl, HF.out.1, HF.out.2.1, HF.out.2.2⟩
        · skip
          refine step_bsK rfl 25 5 1 _ rfl (byteV [SH % 256]) Tryd.underlying25 Tryd.bs8 rfl (by decide) (by decide) (by simp [Act.eval, byteV]) (by simp [Value.cells, byteV]) ?_
          intro g12 w12 hg12 hb12 qk
          have hr12 : Row .u8 w12 (some ⟨g12, 0, none⟩) 1 L3 := HLS.out.2.2.2.symm ▸ hb12.row8 (n := 1) (fun x hx => by rw [List.mem_singleton.1 hx]; omega) rfl (by omega)
          clear hg12 hb12
          refine (fun hHeld => hK _ _ hHeld ?_) (⟨(hKw.trans qk).cell c1 (fun h => h), (hKw.trans qk).cell c2 (fun h => h), (hKw.trans qk).cell c3 (fun h => h)⟩)
          clear hK
          try simp only [Act.put, List.setIfInBounds_toArray, List.set_cons_zero, List.set_cons_succ]
          replace hKw := hKw.trans qk
          replace hb0 := hb0.keep0 qk
          replace hr6 := hr6.keep qk
          replace hr17 := hr17.keep qk
          refine onlyL (i := 1) rfl (by kernel_rfl) (fun K hK => ?_)
          refine step_convBB rfl 25 5 _ rfl Tryd.underlying25 Tryd.underlying5 rfl hb0 ?_
          intro w1 hcv qk1 hlt1
          have hcc := CellsK.of hb0 qk1 hcv
          have hr0 : Row .u8 w1 (some ⟨g0, 0, none⟩) 4 L0 := HLS.out.1.symm ▸ (hb0.row8 (n := 4) magic_bytes rfl (by omega)).keepC hcc
          have hKx : Keeps Nil v0 w1 := hKw.step qk1 (fun i hi => .inr (by rw [show i = g0 from hi]; exact hg0v))
          refine (fun hHeld => hK _ _ hHeld ?_) (⟨hKx.cell c1 (fun h => h), hKx.cell c2 (fun h => h), hKx.cell c3 (fun h => h)⟩)
          clear hK
          try simp only [Act.put, List.setIfInBounds_toArray, List.set_cons_zero, List.set_cons_succ]
          try (replace hr6 := hr6.keepC hcc)
          try (replace hr12 := hr12.keepC hcc)
          try (replace hr17 := hr17.keepC hcc)
          replace hKw := hKx
          clear hKx hcc qk1 hcv hlt1 hb0
          refine onlyL (i := 18) rfl (by kernel_rfl) (fun K hK => ?_)
          refine step_bsK rfl 83 25 4 _ rfl [.slice (some ⟨g0, 0, none⟩) 4 4, .slice (some ⟨g6, 0, none⟩) 4 4, .slice (some ⟨g12, 0, none⟩) 1 1, .slice (some ⟨g17, 0, none⟩) 4 4] Tryd.underlying83 Tryd.bsSl4 rfl (by decide) (by decide) (by simp [Act.eval]) (by simp [Value.cells]) ?_
          intro g18 w18 hg18 hb18 qk18
          clear hg18
          have hKx := hKw.trans qk18
          have hPx := pieces4 hb18 (hr0.keep qk18) (hr6.keep qk18) (hr12.keep qk18) (hr17.keep qk18)
          refine (fun hHeld => hK _ _ hHeld ?_) (⟨hKx.cell c1 (fun h => h), hKx.cell c2 (fun h => h), hKx.cell c3 (fun h => h)⟩)
          clear hK
          try simp only [Act.put, List.setIfInBounds_toArray, List.set_cons_zero, List.set_cons_succ]
          refine onlyL (i := 19) rfl (by kernel_rfl) (fun K hK => ?_)
          go_simp
          refine (HCC.out g18 g0 g6 g12 g17 w18 hPx).mono ?_
          rintro e w19 ⟨a19, c19, rfl, ho19, hk19, hf19⟩
          have hKy := hKx.trans hk19
          have hr19 := Own.row ho19 (areB_wf HLL.out.2.1)
          refine (fun hHeld => hK _ _ hHeld ?_) (⟨hKy.cell c1 (fun h => h), hKy.cell c2 (fun h => h), hKy.cell c3 (fun h => h)⟩)
          clear hK
          try simp only [Act.put, List.setIfInBounds_toArray, List.set_cons_zero, List.set_cons_succ]
          refine onlyL (i := 20) rfl (by kernel_rfl) (fun K hK => ?_)
          go_simp
          refine (sector_walk hr19 (fun e => by rw [e] at ho19; exact ho19.nilS) (by omega)).mono ?_
          rintro e w20 ⟨g20, c20, rfl, ho20, hk20, hf20⟩
          have hKz := hKy.trans hk20
          refine (fun hHeld => hK _ _ hHeld ?_) (⟨hKz.cell c1 (fun h => h), hKz.cell c2 (fun h => h), hKz.cell c3 (fun h => h)⟩)
          clear hK
          try simp only [Act.put, List.setIfInBounds_toArray, List.set_cons_zero, List.set_cons_succ]
          refine takeL (i := 21) (v := _) rfl (by kernel_rfl) (by kernel_rfl) (by kernel_rfl) (fun _ _ _ h => h) (Or.inl ⟨by rfl, by intro w hSw; (try dsimp only at hSw); go_simp; try with_reducible rfl⟩) (by assumption) ?_
          try simp only [Act.put, List.setIfInBounds_toArray, List.set_cons_zero, List.set_cons_succ]
          refine wpAnyH_done (by kernel_rfl) ?_ _
          have HF : Hid (Own w20 5 1 (some ⟨g20, 0, none⟩) c20 128 (byteV HD) ∧ Keeps Nil w w20 ∧ w.heap.size ≤ g20) := Lib.hid ⟨by rw [HLL.out.2.2]; exact ho20, HKD.out.trans hKz, by have := HKD.out.size; have := hKy.size; omega⟩
          clear hHeld hKx hKy hKz hr19 ho19 ho20 hk19 hk20 hf19 hf20 hb18 qk18 hPx
          go_wp2_with fail
          go_ret
          exact ⟨g20, c20, rfl, HF.out.1, HF.out.2.1, HF.out.2.2⟩
    · skip
      refine step_bsK rfl 25 5 1 _ rfl (byteV [SH % 256]) Tryd.underlying25 Tryd.bs8 rfl (by decide) (by decide) (by simp [Act.eval, byteV]) (by simp [Value.cells, byteV]) ?_
      intro g12 w12 hg12 hb12 qk
      have hr12 : Row .u8 w12 (some ⟨g12, 0, none⟩) 1 L3 := HLS.out.2.2.2.symm ▸ hb12.row8 (n := 1) (fun x hx => by rw [List.mem_singleton.1 hx]; omega) rfl (by omega)
      clear hg12 hb12
      refine (fun hHeld => hK _ _ hHeld ?_) (⟨(hKw.trans qk).cell c1 (fun h => h), (hKw.trans qk).cell c2 (fun h => h), (hKw.trans qk).cell c3 (fun h => h)⟩)
      clear hK
      try simp only [Act.put, List.setIfInBounds_toArray, List.set_cons_zero, List.set_cons_succ]
      replace hKw := hKw.trans qk
      replace hb0 := hb0.keep0 qk
      refine bothL (i := 1) (j := 6) rfl rfl (by kernel_rfl) (fun K hK => ?_) (fun K hK => ?_)
      · skip
        refine step_convBB rfl 25 5 _ rfl Tryd.underlying25 Tryd.underlying5 rfl hb0 ?_
        intro w1 hcv qk1 hlt1
        have hcc := CellsK.of hb0 qk1 hcv
        have hr0 : Row .u8 w1 (some ⟨g0, 0, none⟩) 4 L0 := HLS.out.1.symm ▸ (hb0.row8 (n := 4) magic_bytes rfl (by omega)).keepC hcc
        have hKx : Keeps Nil v0 w1 := hKw.step qk1 (fun i hi => .inr (by rw [show i = g0 from hi]; exact hg0v))
        refine (fun hHeld => hK _ _ hHeld ?_) (⟨hKx.cell c1 (fun h => h), hKx.cell c2 (fun h => h), hKx.cell c3 (fun h => h)⟩)
        clear hK
        try simp only [Act.put, List.setIfInBounds_toArray, List.set_cons_zero, List.set_cons_succ]
        try (replace hr6 := hr6.keepC hcc)
        try (replace hr12 := hr12.keepC hcc)
        try (replace hr17 := hr17.keepC hcc)
        replace hKw := hKx
        clear hKx hcc qk1 hcv hlt1 hb0
        refine onlyL (i := 6) rfl (by kernel_rfl) (fun K hK => ?_)
        go_simp
        refine (HB1.out _).mono ?_
        rintro e w6 ⟨g6, rfl, hr6, qk, hf6⟩
        have hg6v : v0.heap.size ≤ g6 := Nat.le_trans hKw.size hf6
        clear hf6
        refine (fun hHeld => hK _ _ hHeld ?_) (⟨(hKw.trans qk).cell c1 (fun h => h), (hKw.trans qk).cell c2 (fun h => h), (hKw.trans qk).cell c3 (fun h => h)⟩)
        clear hK
        try simp only [Act.put, List.setIfInBounds_toArray, List.set_cons_zero, List.set_cons_succ]
        replace hKw := hKw.trans qk
        replace hr12 := hr12.keep qk
        replace hr0 := hr0.keep qk
        refine onlyL (i := 17) rfl (by kernel_rfl) (fun K hK => ?_)
        go_simp
        refine (HB2.out _).mono ?_
        rintro e w17 ⟨g17, rfl, hr17, qk, hf17⟩
        clear hf17
        refine (fun hHeld => hK _ _ hHeld ?_) (⟨(hKw.trans qk).cell c1 (fun h => h), (hKw.trans qk).cell c2 (fun h => h), (hKw.trans qk).cell c3 (fun h => h)⟩)
        clear hK
        try simp only [Act.put, List.setIfInBounds_toArray, List.set_cons_zero, List.set_cons_succ]
        replace hKw := hKw.trans qk
        replace hr12 := hr12.keep qk
        replace hr0 := hr0.keep qk
        replace hr6 := hr6.keep qk
        refine onlyL (i := 18) rfl (by kernel_rfl) (fun K hK => ?_)
        refine step_bsK rfl 83 25 4 _ rfl [.slice (some ⟨g0, 0, none⟩) 4 4, .slice (some ⟨g6, 0, none⟩) 4 4, .slice (some ⟨g12, 0, none⟩) 1 1, .slice (some ⟨g17, 0, none⟩) 4 4] Tryd.underlying83 Tryd.bsSl4 rfl (by decide) (by decide) (by simp [Act.eval]) (by simp [Value.cells]) ?_
        intro g18 w18 hg18 hb18 qk18
        clear hg18
        have hKx := hKw.trans qk18
        have hPx := pieces4 hb18 (hr0.keep qk18) (hr6.keep qk18) (hr12.keep qk18) (hr17.keep qk18)
        refine (fun hHeld => hK _ _ hHeld ?_) (⟨hKx.cell c1 (fun h => h), hKx.cell c2 (fun h => h), hKx.cell c3 (fun h => h)⟩)
        clear hK
        try simp only [Act.put, List.setIfInBounds_toArray, List.set_cons_zero, List.set_cons_succ]
        refine onlyL (i := 19) rfl (by kernel_rfl) (fun K hK => ?_)
        go_simp
        refine (HCC.out g18 g0 g6 g12 g17 w18 hPx).mono ?_
        rintro e w19 ⟨a19, c19, rfl, ho19, hk19, hf19⟩
        have hKy := hKx.trans hk19
        have hr19 := Own.row ho19 (areB_wf HLL.out.2.1)
        refine (fun hHeld => hK _ _ hHeld ?_) (⟨hKy.cell c1 (fun h => h), hKy.cell c2 (fun h => h), hKy.cell c3 (fun h => h)⟩)
        clear hK
        try simp only [Act.put, List.setIfInBounds_toArray, List.set_cons_zero, List.set_cons_succ]
        refine onlyL (i := 20) rfl (by kernel_rfl) (fun K hK => ?_)
        go_simp
        refine (sector_walk hr19 (fun e => by rw [e] at ho19; exact ho19.nilS) (by omega)).mono ?_
        rintro e w20 ⟨g20, c20, rfl, ho20, hk20, hf20⟩
        have hKz := hKy.trans hk20
        refine (fun hHeld => hK _ _ hHeld ?_) (⟨hKz.cell c1 (fun h => h), hKz.cell c2 (fun h => h), hKz.cell c3 (fun h => h)⟩)
        clear hK
        try simp only [Act.put, List.setIfInBounds_toArray, List.set_cons_zero, List.set_cons_succ]
        refine takeL (i := 21) (v := _) rfl (by kernel_rfl) (by kernel_rfl) (by kernel_rfl) (fun _ _ _ h => h) (Or.inl ⟨by rfl, by intro w hSw; (try dsimp only at hSw); go_simp; try with_reducible rfl⟩) (by assumption) ?_
        try simp only [Act.put, List.setIfInBounds_toArray, List.set_cons_zero, List.set_cons_succ]
        refine wpAnyH_done (by kernel_rfl) ?_ _
        have HF : Hid (Own w20 5 1 (some ⟨g20, 0, none⟩) c20 128 (byteV HD) ∧ Keeps Nil w w20 ∧ w.heap.size ≤ g20) := Lib.hid ⟨by rw [HLL.out.2.2]; exact ho20, HKD.out.trans hKz, by have := HKD.out.size; have := hKy.size; omega⟩
        clear hHeld hKx hKy hKz hr19 ho19 ho20 hk19 hk20 hf19 hf20 hb18 qk18 hPx
        go_wp2_with fail
        go_ret
        exact ⟨g20, c20, rfl, HF.out.1, HF.out.2.1, HF.out.2.2⟩
      · skip
        go_simp
        refine (HB1.out _).mono ?_
        rintro e w6 ⟨g6, rfl, hr6, qk, hf6⟩
        have hg6v : v0.heap.size ≤ g6 := Nat.le_trans hKw.size hf6
        clear hf6
        refine (fun hHeld => hK _ _ hHeld ?_) (⟨(hKw.trans qk).cell c1 (fun h => h), (hKw.trans qk).cell c2 (fun h => h), (hKw.trans qk).cell c3 (fun h => h)⟩)
        clear hK
        try simp only [Act.put, List.setIfInBounds_toArray, List.set_cons_zero, List.set_cons_succ]
        replace hKw := hKw.trans qk
        replace hb0 := hb0.keep0 qk
        replace hr12 := hr12.keep qk
        refine bothL (i := 1) (j := 17) rfl rfl (by kernel_rfl) (fun K hK => ?_) (fun K hK => ?_)
        · skip
          refine step_convBB rfl 25 5 _ rfl Tryd.underlying25 Tryd.underlying5 rfl hb0 ?_
          intro w1 hcv qk1 hlt1
          have hcc := CellsK.of hb0 qk1 hcv
          have hr0 : Row .u8 w1 (some ⟨g0, 0, none⟩) 4 L0 := HLS.out.1.symm ▸ (hb0.row8 (n := 4) magic_bytes rfl (by omega)).keepC hcc
          have hKx : Keeps Nil v0 w1 := hKw.step qk1 (fun i hi => .inr (by rw [show i = g0 from hi]; exact hg0v))
          refine (fun hHeld => hK _ _ hHeld ?_) (⟨hKx.cell c1 (fun h => h), hKx.cell c2 (fun h => h), hKx.cell c3 (fun h => h)⟩)
          clear hK
          try simp only [Act.put, List.setIfInBounds_toArray, List.set_cons_zero, List.set_cons_succ]
          try (replace hr6 := hr6.keepC hcc)
          try (replace hr12 := hr12.keepC hcc)
          try (replace hr17 := hr17.keepC hcc)
          replace hKw := hKx
          clear hKx hcc qk1 hcv hlt1 hb0
          refine onlyL (i := 17) rfl (by kernel_rfl) (fun K hK => ?_)
          go_simp
          refine (HB2.out _).mono ?_
          rintro e w17 ⟨g17, rfl, hr17, qk, hf17⟩
          clear hf17
          refine (fun hHeld => hK _ _ hHeld ?_) (⟨(hKw.trans qk).cell c1 (fun h => h), (hKw.trans qk).cell c2 (fun h => h), (hKw.trans qk).cell c3 (fun h => h)⟩)
          clear hK
          try simp only [Act.put, List.setIfInBounds_toArray, List.set_cons_zero, List.set_cons_succ]
          replace hKw := hKw.trans qk
          replace hr12 := hr12.keep qk
          replace hr6 := hr6.keep qk
          replace hr0 := hr0.keep qk
          refine onlyL (i := 18) rfl (by kernel_rfl) (fun K hK => ?_)
          refine step_bsK rfl 83 25 4 _ rfl [.slice (some ⟨g0, 0, none⟩) 4 4, .slice (some ⟨g6, 0, none⟩) 4 4, .slice (some ⟨g12, 0, none⟩) 1 1, .slice (some ⟨g17, 0, none⟩) 4 4] Tryd.underlying83 Tryd.bsSl4 rfl (by decide) (by decide) (by simp [Act.eval]) (by simp [Value.cells]) ?_
          intro g18 w18 hg18 hb18 qk18
          clear hg18
          have hKx := hKw.trans qk18
          have hPx := pieces4 hb18 (hr0.keep qk18) (hr6.keep qk18) (hr12.keep qk18) (hr17.keep qk18)
          refine (fun hHeld => hK _ _ hHeld ?_) (⟨hKx.cell c1 (fun h => h), hKx.cell c2 (fun h => h), hKx.cell c3 (fun h => h)⟩)
          clear hK
          try simp only [Act.put, List.setIfInBounds_toArray, List.set_cons_zero, List.set_cons_succ]
          refine onlyL (i := 19) rfl (by kernel_rfl) (fun K hK => ?_)
          go_simp
          refine (HCC.out g18 g0 g6 g12 g17 w18 hPx).mono ?_
          rintro e w19 ⟨a19, c19, rfl, ho19, hk19, hf19⟩
          have hKy := hKx.trans hk19
          have hr19 := Own.row ho19 (areB_wf HLL.out.2.1)
          refine (fun hHeld => hK _ _ hHeld ?_) (⟨hKy.cell c1 (fun h => h), hKy.cell c2 (fun h => h), hKy.cell c3 (fun h => h)⟩)
          clear hK
          try simp only [Act.put, List.setIfInBounds_toArray, List.set_cons_zero, List.set_cons_succ]
          refine onlyL (i := 20) rfl (by kernel_rfl) (fun K hK => ?_)
          go_simp
          refine (sector_walk hr19 (fun e => by rw [e] at ho19; exact ho19.nilS) (by omega)).mono ?_
          rintro e w20 ⟨g20, c20, rfl, ho20, hk20, hf20⟩
          have hKz := hKy.trans hk20
          refine (fun hHeld => hK _ _ hHeld ?_) (⟨hKz.cell c1 (fun h => h), hKz.cell c2 (fun h => h), hKz.cell c3 (fun h => h)⟩)
          clear hK
          try simp only [Act.put, List.setIfInBounds_toArray, List.set_cons_zero, List.set_cons_succ]
          refine takeL (i := 21) (v := _) rfl (by kernel_rfl) (by kernel_rfl) (by kernel_rfl) (fun _ _ _ h => h) (Or.inl ⟨by rfl, by intro w hSw; (try dsimp only at hSw); go_simp; try with_reducible rfl⟩) (by assumption) ?_
          try simp only [Act.put, List.setIfInBounds_toArray, List.set_cons_zero, List.set_cons_succ]
          refine wpAnyH_done (by kernel_rfl) ?_ _
          have HF : Hid (Own w20 5 1 (some ⟨g20, 0, none⟩) c20 128 (byteV HD) ∧ Keeps Nil w w20 ∧ w.heap.size ≤ g20) := Lib.hid ⟨by rw [HLL.out.2.2]; exact ho20, HKD.out.trans hKz, by have := HKD.out.size; have := hKy.size; omega⟩
          clear hHeld hKx hKy hKz hr19 ho19 ho20 hk19 hk20 hf19 hf20 hb18 qk18 hPx
          go_wp2_with fail
          go_ret
          exact ⟨g20, c20, rfl, HF.out.1, HF.out.2.1, HF.out.2.2⟩
        · skip
          go_simp
          refine (HB2.out _).mono ?_
          rintro e w17 ⟨g17, rfl, hr17, qk, hf17⟩
          clear hf17
          refine (fun hHeld => hK _ _ hHeld ?_) (⟨(hKw.trans qk).cell c1 (fun h => h), (hKw.trans qk).cell c2 (fun h => h), (hKw.trans qk).cell c3 (fun h => h)⟩)
          clear hK
          try simp only [Act.put, List.setIfInBounds_toArray, List.set_cons_zero, List.set_cons_succ]
          replace hKw := hKw.trans qk
          replace hb0 := hb0.keep0 qk
          replace hr12 := hr12.keep qk
          replace hr6 := hr6.keep qk
          refine onlyL (i := 1) rfl (by kernel_rfl) (fun K hK => ?_)
          refine step_convBB rfl 25 5 _ rfl Tryd.underlying25 Tryd.underlying5 rfl hb0 ?_
          intro w1 hcv qk1 hlt1
          have hcc := CellsK.of hb0 qk1 hcv
          have hr0 : Row .u8 w1 (some ⟨g0, 0, none⟩) 4 L0 := HLS.out.1.symm ▸ (hb0.row8 (n := 4) magic_bytes rfl (by omega)).keepC hcc
          have hKx : Keeps Nil v0 w1 := hKw.step qk1 (fun i hi => .inr (by rw [show i = g0 from hi]; exact hg0v))
          refine (fun hHeld => hK _ _ hHeld ?_) (⟨hKx.cell c1 (fun h => h), hKx.cell c2 (fun h => h), hKx.cell c3 (fun h => h)⟩)
          clear hK
          try simp only [Act.put, List.setIfInBounds_toArray, List.set_cons_zero, List.set_cons_succ]
          try (replace hr6 := hr6.keepC hcc)
          try (replace hr12 := hr12.keepC hcc)
          try (replace hr17 := hr17.keepC hcc)
          replace hKw := hKx
          clear hKx hcc qk1 hcv hlt1 hb0
          refine onlyL (i := 18) rfl (by kernel_rfl) (fun K hK => ?_)
          refine step_bsK rfl 83 25 4 _ rfl [.slice (some ⟨g0, 0, none⟩) 4 4, .slice (some ⟨g6, 0, none⟩) 4 4, .slice (some ⟨g12, 0, none⟩) 1 1, .slice (some ⟨g17, 0, none⟩) 4 4] Tryd.underlying83 Tryd.bsSl4 rfl (by decide) (by decide) (by simp [Act.eval]) (by simp [Value.cells]) ?_
          intro g18 w18 hg18 hb18 qk18
          clear hg18
          have hKx := hKw.trans qk18
          have hPx := pieces4 hb18 (hr0.keep qk18) (hr6.keep qk18) (hr12.keep qk18) (hr17.keep qk18)
          refine (fun hHeld => hK _ _ hHeld ?_) (⟨hKx.cell c1 (fun h => h), hKx.cell c2 (fun h => h), hKx.cell c3 (fun h => h)⟩)
          clear hK
          try simp only [Act.put, List.setIfInBounds_toArray, List.set_cons_zero, List.set_cons_succ]
          refine onlyL (i := 19) rfl (by kernel_rfl) (fun K hK => ?_)
          go_simp
          refine (HCC.out g18 g0 g6 g12 g17 w18 hPx).mono ?_
          rintro e w19 ⟨a19, c19, rfl, ho19, hk19, hf19⟩
          have hKy := hKx.trans hk19
          have hr19 := Own.row ho19 (areB_wf HLL.out.2.1)
          refine (fun hHeld => hK _ _ hHeld ?_) (⟨hKy.cell c1 (fun h => h), hKy.cell c2 (fun h => h), hKy.cell c3 (fun h => h)⟩)
          clear hK
          try simp only [Act.put, List.setIfInBounds_toArray, List.set_cons_zero, List.set_cons_succ]
          refine onlyL (i := 20) rfl (by kernel_rfl) (fun K hK => ?_)
          go_simp
          refine (sector_walk hr19 (fun e => by rw [e] at ho19; exact ho19.nilS) (by omega)).mono ?_
          rintro e w20 ⟨g20, c20, rfl, ho20, hk20, hf20⟩
          have hKz := hKy.trans hk20
          refine (fun hHeld => hK _ _ hHeld ?_) (⟨hKz.cell c1 (fun h => h), hKz.cell c2 (fun h => h), hKz.cell c3 (fun h => h)⟩)
          clear hK
          try simp only [Act.put, List.setIfInBounds_toArray, List.set_cons_zero, List.set_cons_succ]
          refine takeL (i := 21) (v := _) rfl (by kernel_rfl) (by kernel_rfl) (by kernel_rfl) (fun _ _ _ h => h) (Or.inl ⟨by rfl, by intro w hSw; (try dsimp only at hSw); go_simp; try with_reducible rfl⟩) (by assumption) ?_
          try simp only [Act.put, List.setIfInBounds_toArray, List.set_cons_zero, List.set_cons_succ]
          refine wpAnyH_done (by kernel_rfl) ?_ _
          have HF : Hid (Own w20 5 1 (some ⟨g20, 0, none⟩) c20 128 (byteV HD) ∧ Keeps Nil w w20 ∧ w.heap.size ≤ g20) := Lib.hid ⟨by rw [HLL.out.2.2]; exact ho20, HKD.out.trans hKz, by have := HKD.out.size; have := hKy.size; omega⟩
          clear hHeld hKx hKy hKz hr19 ho19 ho20 hk19 hk20 hf19 hf20 hb18 qk18 hPx
          go_wp2_with fail
          go_ret
          exact ⟨g20, c20, rfl, HF.out.1, HF.out.2.1, HF.out.2.2⟩
  · skip
    go_simp
    refine (HB1.out _).mono ?_
    rintro e w6 ⟨g6, rfl, hr6, qk, hf6⟩
    have hg6v : v0.heap.size ≤ g6 := Nat.le_trans hKw.size hf6
    clear hf6
    refine (fun hHeld => hK _ _ hHeld ?_) (⟨(hKw.trans qk).cell c1 (fun h => h), (hKw.trans qk).cell c2 (fun h => h), (hKw.trans qk).cell c3 (fun h => h)⟩)
    clear hK
    try simp only [Act.put, List.setIfInBounds_toArray, List.set_cons_zero, List.set_cons_succ]
    replace hKw := hKw.trans qk
    refine threeL (i := 0) (j := 12) (k := 17) rfl rfl rfl (by kernel_rfl) (fun K hK => ?_) (fun K hK => ?_) (fun K hK => ?_)
    · skip
      refine step_bsK rfl 25 5 4 _ rfl (byteV magicL) Tryd.underlying25 Tryd.bs8 rfl (by decide) (by decide) (by simp [Act.eval, byteV, magicL]) (by simp [Value.cells, byteV, magicL]) ?_
      intro g0 w0 hg0 hb0 qk
      have hg0v : v0.heap.size ≤ g0 := by have := hKw.size; omega
      clear hg0
      refine (fun hHeld => hK _ _ hHeld ?_) (⟨(hKw.trans qk).cell c1 (fun h => h), (hKw.trans qk).cell c2 (fun h => h), (hKw.trans qk).cell c3 (fun h => h)⟩)
      clear hK
      try simp only [Act.put, List.setIfInBounds_toArray, List.set_cons_zero, List.set_cons_succ]
      replace hKw := hKw.trans qk
      replace hr6 := hr6.keep qk
      refine threeL (i := 1) (j := 12) (k := 17) rfl rfl rfl (by kernel_rfl) (fun K hK => ?_) (fun K hK => ?_) (fun K hK => ?_)
      · skip
        refine step_convBB rfl 25 5 _ rfl Tryd.underlying25 Tryd.underlying5 rfl hb0 ?_
        intro w1 hcv qk1 hlt1
        have hcc := CellsK.of hb0 qk1 hcv
        have hr0 : Row .u8 w1 (some ⟨g0, 0, none⟩) 4 L0 := HLS.out.1.symm ▸ (hb0.row8 (n := 4) magic_bytes rfl (by omega)).keepC hcc
        have hKx : Keeps Nil v0 w1 := hKw.step qk1 (fun i hi => .inr (by rw [show i = g0 from hi]; exact hg0v))
        refine (fun hHeld => hK _ _ hHeld ?_) (⟨hKx.cell c1 (fun h => h), hKx.cell c2 (fun h => h), hKx.cell c3 (fun h => h)⟩)
        clear hK
        try simp only [Act.put, List.setIfInBounds_toArray, List.set_cons_zero, List.set_cons_succ]
        try (replace hr6 := hr6.keepC hcc)
        try (replace hr12 := hr12.keepC hcc)
        try (replace hr17 := hr17.keepC hcc)
        replace hKw := hKx
        clear hKx hcc qk1 hcv hlt1 hb0
        refine bothL (i := 12) (j := 17) rfl rfl (by kernel_rfl) (fun K hK => ?_) (fun K hK => ?_)
        · skip
          refine step_bsK rfl 25 5 1 _ rfl (byteV [SH % 256]) Tryd.underlying25 Tryd.bs8 rfl (by decide) (by decide) (by simp [Act.eval, byteV]) (by simp [Value.cells, byteV]) ?_
          intro g12 w12 hg12 hb12 qk
          have hr12 : Row .u8 w12 (some ⟨g12, 0, none⟩) 1 L3 := HLS.out.2.2.2.symm ▸ hb12.row8 (n := 1) (fun x hx => by rw [List.mem_singleton.1 hx]; omega) rfl (by omega)
          clear hg12 hb12
          refine (fun hHeld => hK _ _ hHeld ?_) (⟨(hKw.trans qk).cell c1 (fun h => h), (hKw.trans qk).cell c2 (fun h => h), (hKw.trans qk).cell c3 (fun h => h)⟩)
          clear hK
          try simp only [Act.put, List.setIfInBounds_toArray, List.set_cons_zero, List.set_cons_succ]
          replace hKw := hKw.trans qk
          replace hr6 := hr6.keep qk
          replace hr0 := hr0.keep qk
          refine onlyL (i := 17) rfl (by kernel_rfl) (fun K hK => ?_)
          go_simp
          refine (HB2.out _).mono ?_
          rintro e w17 ⟨g17, rfl, hr17, qk, hf17⟩
          clear hf17
          refine (fun hHeld => hK _ _ hHeld ?_) (⟨(hKw.trans qk).cell c1 (fun h => h), (hKw.trans qk).cell c2 (fun h => h), (hKw.trans qk).cell c3 (fun h => h)⟩)
          clear hK
          try simp only [Act.put, List.setIfInBounds_toArray, List.set_cons_zero, List.set_cons_succ]
          replace hKw := hKw.trans qk
          replace hr6 := hr6.keep qk
          replace hr0 := hr0.keep qk
          replace hr12 := hr12.keep qk
          refine onlyL (i := 18) rfl (by kernel_rfl) (fun K hK => ?_)
          refine step_bsK rfl 83 25 4 _ rfl [.slice (some ⟨g0, 0, none⟩) 4 4, .slice (some ⟨g6, 0, none⟩) 4 4, .slice (some ⟨g12, 0, none⟩) 1 1, .slice (some ⟨g17, 0, none⟩) 4 4] Tryd.underlying83 Tryd.bsSl4 rfl (by decide) (by decide) (by simp [Act.eval]) (by simp [Value.cells]) ?_
          intro g18 w18 hg18 hb18 qk18
          clear hg18
          have hKx := hKw.trans qk18
          have hPx := pieces4 hb18 (hr0.keep qk18) (hr6.keep qk18) (hr12.keep qk18) (hr17.keep qk18)
          refine (fun hHeld => hK _ _ hHeld ?_) (⟨hKx.cell c1 (fun h => h), hKx.cell c2 (fun h => h), hKx.cell c3 (fun h => h)⟩)
          clear hK
          try simp only [Act.put, List.setIfInBounds_toArray, List.set_cons_zero, List.set_cons_succ]
          refine onlyL (i := 19) rfl (by kernel_rfl) (fun K hK => ?_)
          go_simp
          refine (HCC.out g18 g0 g6 g12 g17 w18 hPx).mono ?_
          rintro e w19 ⟨a19, c19, rfl, ho19, hk19, hf19⟩
          have hKy := hKx.trans hk19
          have hr19 := Own.row ho19 (areB_wf HLL.out.2.1)
          refine (fun hHeld => hK _ _ hHeld ?_) (⟨hKy.cell c1 (fun h => h), hKy.cell c2 (fun h => h), hKy.cell c3 (fun h => h)⟩)
          clear hK
          try simp only [Act.put, List.setIfInBounds_toArray, List.set_cons_zero, List.set_cons_succ]
          refine onlyL (i := 20) rfl (by kernel_rfl) (fun K hK => ?_)
          go_simp
          refine (sector_walk hr19 (fun e => by rw [e] at ho19; exact ho19.nilS) (by omega)).mono ?_
          rintro e w20 ⟨g20, c20, rfl, ho20, hk20, hf20⟩
          have hKz := hKy.trans hk20
          refine (fun hHeld => hK _ _ hHeld ?_) (⟨hKz.cell c1 (fun h => h), hKz.cell c2 (fun h => h), hKz.cell c3 (fun h => h)⟩)
          clear hK
          try simp only [Act.put, List.setIfInBounds_toArray, List.set_cons_zero, List.set_cons_succ]
          refine takeL (i := 21) (v := _) rfl (by kernel_rfl) (by kernel_rfl) (by kernel_rfl) (fun _ _ _ h => h) (Or.inl ⟨by rfl, by intro w hSw; (try dsimp only at hSw); go_simp; try with_reducible rfl⟩) (by assumption) ?_
          try simp only [Act.put, List.setIfInBounds_toArray, List.set_cons_zero, List.set_cons_succ]
          refine wpAnyH_done (by kernel_rfl) ?_ _
          have HF : Hid (Own w20 5 1 (some ⟨g20, 0, none⟩) c20 128 (byteV HD) ∧ Keeps Nil w w20 ∧ w.heap.size ≤ g20) := Lib.hid ⟨by rw [HLL.out.2.2]; exact ho20, HKD.out.trans hKz, by have := HKD.out.size; have := hKy.size; omega⟩
          clear hHeld hKx hKy hKz hr19 ho19 ho20 hk19 hk20 hf19 hf20 hb18 qk18 hPx
          go_wp2_with fail
          go_ret
          exact ⟨g20, c20, rfl, HF.out.1, HF.out.2.1, HF.out.2.2⟩
        · skip
          go_simp
          refine (HB2.out _).mono ?_
          rintro e w17 ⟨g17, rfl, hr17, qk, hf17⟩
          clear hf17
          refine (fun hHeld => hK _ _ hHeld ?_) (⟨(hKw.trans qk).cell c1 (fun h => h), (hKw.trans qk).cell c2 (fun h => h), (hKw.trans qk).cell c3 (fun h => h)⟩)
          clear hK
          try simp only [Act.put, List.setIfInBounds_toArray, List.set_cons_zero, List.set_cons_succ]
          replace hKw := hKw.trans qk
          replace hr6 := hr6.keep qk
          replace hr0 := hr0.keep qk
          refine onlyL (i := 12) rfl (by kernel_rfl) (fun K hK => ?_)
          refine step_bsK rfl 25 5 1 _ rfl (byteV [SH % 256]) Tryd.underlying25 Tryd.bs8 rfl (by decide) (by decide) (by simp [Act.eval, byteV]) (by simp [Value.cells, byteV]) ?_
          intro g12 w12 hg12 hb12 qk
          have hr12 : Row .u8 w12 (some ⟨g12, 0, none⟩) 1 L3 := HLS.out.2.2.2.symm ▸ hb12.row8 (n := 1) (fun x hx => by rw [List.mem_singleton.1 hx]; omega) rfl (by omega)
          clear hg12 hb12
          refine (fun hHeld => hK _ _ hHeld ?_) (⟨(hKw.trans qk).cell c1 (fun h => h), (hKw.trans qk).cell c2 (fun h => h), (hKw.trans qk).cell c3 (fun h => h)⟩)
          clear hK
          try simp only [Act.put, List.setIfInBounds_toArray, List.set_cons_zero, List.set_cons_succ]
          replace hKw := hKw.trans qk
          replace hr6 := hr6.keep qk
          replace hr0 := hr0.keep qk
          replace hr17 := hr17.keep qk
          refine onlyL (i := 18) rfl (by kernel_rfl) (fun K hK => ?_)
          refine step_bsK rfl 83 25 4 _ rfl [.slice (some ⟨g0, 0, none⟩) 4 4, .slice (some ⟨g6, 0, none⟩) 4 4, .slice (some ⟨g12, 0, none⟩) 1 1, .slice (some ⟨g17, 0, none⟩) 4 4] Tryd.underlying83 Tryd.bsSl4 rfl (by decide) (by decide) (by simp [Act.eval]) (by simp [Value.cells]) ?_
          intro g18 w18 hg18 hb18 qk18
          clear hg18
          have hKx := hKw.trans qk18
          have hPx := pieces4 hb18 (hr0.keep qk18) (hr6.keep qk18) (hr12.keep qk18) (hr17.keep qk18)
          refine (fun hHeld => hK _ _ hHeld ?_) (⟨hKx.cell c1 (fun h => h), hKx.cell c2 (fun h => h), hKx.cell c3 (fun h => h)⟩)
          clear hK
          try simp only [Act.put, List.setIfInBounds_toArray, List.set_cons_zero, List.set_cons_succ]
          refine onlyL (i := 19) rfl (by kernel_rfl) (fun K hK => ?_)
          go_simp
          refine (HCC.out g18 g0 g6 g12 g17 w18 hPx).mono ?_
          rintro e w19 ⟨a19, c19, rfl, ho19, hk19, hf19⟩
          have hKy := hKx.trans hk19
          have hr19 := Own.row ho19 (areB_wf HLL.out.2.1)
          refine (fun hHeld => hK _ _ hHeld ?_) (⟨hKy.cell c1 (fun h => h), hKy.cell c2 (fun h => h), hKy.cell c3 (fun h => h)⟩)
          clear hK
          try simp only [Act.put, List.setIfInBounds_toArray, List.set_cons_zero, List.set_cons_succ]
          refine onlyL (i := 20) rfl (by kernel_rfl) (fun K hK => ?_)
          go_simp
          refine (sector_walk hr19 (fun e => by rw [e] at ho19; exact ho19.nilS) (by omega)).mono ?_
          rintro e w20 ⟨g20, c20, rfl, ho20, hk20, hf20⟩
          have hKz := hKy.trans hk20
          refine (fun hHeld => hK _ _ hHeld ?_) (⟨hKz.cell c1 (fun h => h), hKz.cell c2 (fun h => h), hKz.cell c3 (fun h => h)⟩)
          clear hK
          try simp only [Act.put, List.setIfInBounds_toArray, List.set_cons_zero, List.set_cons_succ]
          refine takeL (i := 21) (v := _) rfl (by kernel_rfl) (by kernel_rfl) (by kernel_rfl) (fun _ _ _ h => h) (Or.inl ⟨by rfl, by intro w hSw; (try dsimp only at hSw); go_simp; try with_reducible rfl⟩) (by assumption) ?_
          try simp only [Act.put, List.setIfInBounds_toArray, List.set_cons_zero, List.set_cons_succ]
          refine wpAnyH_done (by kernel_rfl) ?_ _
          have HF : Hid (Own w20 5 1 (some ⟨g20, 0, none⟩) c20 128 (byteV HD) ∧ Keeps Nil w w20 ∧ w.heap.size ≤ g20) := Lib.hid ⟨by rw [HLL.out.2.2]; exact ho20, HKD.out.trans hKz, by have := HKD.out.size; have := hKy.size; omega⟩
          clear hHeld hKx hKy hKz hr19 ho19 ho20 hk19 hk20 hf19 hf20 hb18 qk18 hPx
          go_wp2_with fail
          go_ret
          exact ⟨g20, c20, rfl, HF.out.1, HF.out.2.1, HF.out.2.2⟩
      · skip
        refine step_bsK rfl 25 5 1 _ rfl (byteV [SH % 256]) Tryd.underlying25 Tryd.bs8 rfl (by decide) (by decide) (by simp [Act.eval, byteV]) (by simp [Value.cells, byteV]) ?_
        intro g12 w12 hg12 hb12 qk
        have hr12 : Row .u8 w12 (some ⟨g12, 0, none⟩) 1 L3 := HLS.out.2.2.2.symm ▸ hb12.row8 (n := 1) (fun x hx => by rw [List.mem_singleton.1 hx]; omega) rfl (by omega)
        clear hg12 hb12
        refine (fun hHeld => hK _ _ hHeld ?_) (⟨(hKw.trans qk).cell c1 (fun h => h), (hKw.trans qk).cell c2 (fun h => h), (hKw.trans qk).cell c3 (fun h => h)⟩)
        clear hK
        try simp only [Act.put, List.setIfInBounds_toArray, List.set_cons_zero, List.set_cons_succ]
        replace hKw := hKw.trans qk
        replace hr6 := hr6.keep qk
        replace hb0 := hb0.keep0 qk
        refine bothL (i := 1) (j := 17) rfl rfl (by kernel_rfl) (fun K hK => ?_) (fun K hK => ?_)
        · skip
          refine step_convBB rfl 25 5 _ rfl Tryd.underlying25 Tryd.underlying5 rfl hb0 ?_
          intro w1 hcv qk1 hlt1
          have hcc := CellsK.of hb0 qk1 hcv
          have hr0 : Row .u8 w1 (some ⟨g0, 0, none⟩) 4 L0 := HLS.out.1.symm ▸ (hb0.row8 (n := 4) magic_bytes rfl (by omega)).keepC hcc
          have hKx : Keeps Nil v0 w1 := hKw.step qk1 (fun i hi => .inr (by rw [show i = g0 from hi]; exact hg0v))
          refine (fun hHeld => hK _ _ hHeld ?_) (⟨hKx.cell c1 (fun h => h), hKx.cell c2 (fun h => h), hKx.cell c3 (fun h => h)⟩)
          clear hK
          try simp only [Act.put, List.setIfInBounds_toArray, List.set_cons_zero, List.set_cons_succ]
          try (replace hr6 := hr6.keepC hcc)
          try (replace hr12 := hr12.keepC hcc)
          try (replace hr17 := hr17.keepC hcc)
          replace hKw := hKx
          clear hKx hcc qk1 hcv hlt1 hb0
          refine onlyL (i := 17) rfl (by kernel_rfl) (fun K hK => ?_)
          go_simp
          refine (HB2.out _).mono ?_
          rintro e w17 ⟨g17, rfl, hr17, qk, hf17⟩
          clear hf17
          refine (fun hHeld => hK _ _ hHeld ?_) (⟨(hKw.trans qk).cell c1 (fun h => h), (hKw.trans qk).cell c2 (fun h => h), (hKw.trans qk).cell c3 (fun h => h)⟩)
          clear hK
          try simp only [Act.put, List.setIfInBounds_toArray, List.set_cons_zero, List.set_cons_succ]
          replace hKw := hKw.trans qk
          replace hr6 := hr6.keep qk
          replace hr12 := hr12.keep qk
          replace hr0 := hr0.keep qk
          refine onlyL (i := 18) rfl (by kernel_rfl) (fun K hK => ?_)
          refine step_bsK rfl 83 25 4 _ rfl [.slice (some ⟨g0, 0, none⟩) 4 4, .slice (some ⟨g6, 0, none⟩) 4 4, .slice (some ⟨g12, 0, none⟩) 1 1, .slice (some ⟨g17, 0, none⟩) 4 4] Tryd.underlying83 Tryd.bsSl4 rfl (by decide) (by decide) (by simp [Act.eval]) (by simp [Value.cells]) ?_
          intro g18 w18 hg18 hb18 qk18
          clear hg18
          have hKx := hKw.trans qk18
          have hPx := pieces4 hb18 (hr0.keep qk18) (hr6.keep qk18) (hr12.keep qk18) (hr17.keep qk18)
          refine (fun hHeld => hK _ _ hHeld ?_) (⟨hKx.cell c1 (fun h => h), hKx.cell c2 (fun h => h), hKx.cell c3 (fun h => h)⟩)
          clear hK
          try simp only [Act.put, List.setIfInBounds_toArray, List.set_cons_zero, List.set_cons_succ]
          refine onlyL (i := 19) rfl (by kernel_rfl) (fun K hK => ?_)
          go_simp
          refine (HCC.out g18 g0 g6 g12 g17 w18 hPx).mono ?_
          rintro e w19 ⟨a19, c19, rfl, ho19, hk19, hf19⟩
          have hKy := hKx.trans hk19
          have hr19 := Own.row ho19 (areB_wf HLL.out.2.1)
          refine (fun hHeld => hK _ _ hHeld ?_) (⟨hKy.cell c1 (fun h => h), hKy.cell c2 (fun h => h), hKy.cell c3 (fun h => h)⟩)
          clear hK
          try simp only [Act.put, List.setIfInBounds_toArray, List.set_cons_zero, List.set_cons_succ]
          refine onlyL (i := 20) rfl (by kernel_rfl) (fun K hK => ?_)
          go_simp
          refine (sector_walk hr19 (fun e => by rw [e] at ho19; exact ho19.nilS) (by omega)).mono ?_
          rintro e w20 ⟨g20, c20, rfl, ho20, hk20, hf20⟩
          have hKz := hKy.trans hk20
          refine (fun hHeld => hK _ _ hHeld ?_) (⟨hKz.cell c1 (fun h => h), hKz.cell c2 (fun h => h), hKz.cell c3 (fun h => h)⟩)
          clear hK
          try simp only [Act.put, List.setIfInBounds_toArray, List.set_cons_zero, List.set_cons_succ]
          refine takeL (i := 21) (v := _) rfl (by kernel_rfl) (by kernel_rfl) (by kernel_rfl) (fun _ _ _ h => h) (Or.inl ⟨by rfl, by intro w hSw; (try dsimp only at hSw); go_simp; try with_reducible rfl⟩) (by assumption) ?_
          try simp only [Act.put, List.setIfInBounds_toArray, List.set_cons_zero, List.set_cons_succ]
          refine wpAnyH_done (by kernel_rfl) ?_ _
          have HF : Hid (Own w20 5 1 (some ⟨g20, 0, none⟩) c20 128 (byteV HD) ∧ Keeps Nil w w20 ∧ w.heap.size ≤ g20) := Lib.hid ⟨by rw [HLL.out.2.2]; exact ho20, HKD.out.trans hKz, by have := HKD.out.size; have := hKy.size; omega⟩
          clear hHeld hKx hKy hKz hr19 ho19 ho20 hk19 hk20 hf19 hf20 hb18 qk18 hPx
          go_wp2_with fail
          go_ret
          exact ⟨g20, c20, rfl, HF.out.1, HF.out.2.1, HF.out.2.2⟩
        · skip
          go_simp
          refine (HB2.out _).mono ?_
          rintro e w17 ⟨g17, rfl, hr17, qk, hf17⟩
          clear hf17
          refine (fun hHeld => hK _ _ hHeld ?_) (⟨(hKw.trans qk).cell c1 (fun h => h), (hKw.trans qk).cell c2 (fun h => h), (hKw.trans qk).cell c3 (fun h => h)⟩)
          clear hK
          try simp only [Act.put, List.setIfInBounds_toArray, List.set_cons_zero, List.set_cons_succ]
          replace hKw := hKw.trans qk
          replace hr6 := hr6.keep qk
          replace hb0 := hb0.keep0 qk
          replace hr12 := hr12.keep qk
          refine onlyL (i := 1) rfl (by kernel_rfl) (fun K hK => ?_)
          refine step_convBB rfl 25 5 _ rfl Tryd.underlying25 Tryd.underlying5 rfl hb0 ?_
          intro w1 hcv qk1 hlt1
          have hcc := CellsK.of hb0 qk1 hcv
          have hr0 : Row .u8 w1 (some ⟨g0, 0, none⟩) 4 L0 := HLS.out.1.symm ▸ (hb0.row8 (n := 4) magic_bytes rfl (by omega)).keepC hcc
          have hKx : Keeps Nil v0 w1 := hKw.step qk1 (fun i hi => .inr (by rw [show i = g0 from hi]; exact hg0v))
          refine (fun hHeld => hK _ _ hHeld ?_) (⟨hKx.cell c1 (fun h => h), hKx.cell c2 (fun h => h), hKx.cell c3 (fun h => h)⟩)
          clear hK
          try simp only [Act.put, List.setIfInBounds_toArray, List.set_cons_zero, List.set_cons_succ]
          try (replace hr6 := hr6.keepC hcc)
          try (replace hr12 := hr12.keepC hcc)
          try (replace hr17 := hr17.keepC hcc)
          replace hKw := hKx
          clear hKx hcc qk1 hcv hlt1 hb0
          refine onlyL (i := 18) rfl (by kernel_rfl) (fun K hK => ?_)
          refine step_bsK rfl 83 25 4 _ rfl [.slice (some ⟨g0, 0, none⟩) 4 4, .slice (some ⟨g6, 0, none⟩) 4 4, .slice (some ⟨g12, 0, none⟩) 1 1, .slice (some ⟨g17, 0, none⟩) 4 4] Tryd.underlying83 Tryd.bsSl4 rfl (by decide) (by decide) (by simp [Act.eval]) (by simp [Value.cells]) ?_
          intro g18 w18 hg18 hb18 qk18
          clear hg18
          have hKx := hKw.trans qk18
          have hPx := pieces4 hb18 (hr0.keep qk18) (hr6.keep qk18) (hr12.keep qk18) (hr17.keep qk18)
          refine (fun hHeld => hK _ _ hHeld ?_) (⟨hKx.cell c1 (fun h => h), hKx.cell c2 (fun h => h), hKx.cell c3 (fun h => h)⟩)
          clear hK
          try simp only [Act.put, List.setIfInBounds_toArray, List.set_cons_zero, List.set_cons_succ]
          refine onlyL (i := 19) rfl (by kernel_rfl) (fun K hK => ?_)
          go_simp
          refine (HCC.out g18 g0 g6 g12 g17 w18 hPx).mono ?_
          rintro e w19 ⟨a19, c19, rfl, ho19, hk19, hf19⟩
          have hKy := hKx.trans hk19
          have hr19 := Own.row ho19 (areB_wf HLL.out.2.1)
          refine (fun hHeld => hK _ _ hHeld ?_) (⟨hKy.cell c1 (fun h => h), hKy.cell c2 (fun h => h), hKy.cell c3 (fun h => h)⟩)
          clear hK
          try simp only [Act.put, List.setIfInBounds_toArray, List.set_cons_zero, List.set_cons_succ]
          refine onlyL (i := 20) rfl (by kernel_rfl) (fun K hK => ?_)
          go_simp
          refine (sector_walk hr19 (fun e => by rw [e] at ho19; exact ho19.nilS) (by omega)).mono ?_
          rintro e w20 ⟨g20, c20, rfl, ho20, hk20, hf20⟩
          have hKz := hKy.trans hk20
          refine (fun hHeld => hK _ _ hHeld ?_) (⟨hKz.cell c1 (fun h => h), hKz.cell c2 (fun h => h), hKz.cell c3 (fun h => h)⟩)
          clear hK
          try simp only [Act.put, List.setIfInBounds_toArray, List.set_cons_zero, List.set_cons_succ]
          refine takeL (i := 21) (v := _) rfl (by kernel_rfl) (by kernel_rfl) (by kernel_rfl) (fun _ _ _ h => h) (Or.inl ⟨by rfl, by intro w hSw; (try dsimp only at hSw); go_simp; try with_reducible rfl⟩) (by assumption) ?_
          try simp only [Act.put, List.setIfInBounds_toArray, List.set_cons_zero, List.set_cons_succ]
          refine wpAnyH_done (by kernel_rfl) ?_ _
          have HF : Hid (Own w20 5 1 (some ⟨g20, 0, none⟩) c20 128 (byteV HD) ∧ Keeps Nil w w20 ∧ w.heap.size ≤ g20) := Lib.hid ⟨by rw [HLL.out.2.2]; exact ho20, HKD.out.trans hKz, by have := HKD.out.size; have := hKy.size; omega⟩
          clear hHeld hKx hKy hKz hr19 ho19 ho20 hk19 hk20 hf19 hf20 hb18 qk18 hPx
          go_wp2_with fail
          go_ret
          exact ⟨g20, c20, rfl, HF.out.1, HF.out.2.1, HF.out.2.2⟩
      · skip
        go_simp
        refine (HB2.out _).mono ?_
        rintro e w17 ⟨g17, rfl, hr17, qk, hf17⟩
        clear hf17
        refine (fun hHeld => hK _ _ hHeld ?_) (⟨(hKw.trans qk).cell c1 (fun h => h), (hKw.trans qk).cell c2 (fun h => h), (hKw.trans qk).cell c3 (fun h => h)⟩)
        clear hK
        try simp only [Act.put, List.setIfInBounds_toArray, List.set_cons_zero, List.set_cons_succ]
        replace hKw := hKw.trans qk
        replace hr6 := hr6.keep qk
        replace hb0 := hb0.keep0 qk
        refine bothL (i := 1) (j := 12) rfl rfl (by kernel_rfl) (fun K hK => ?_) (fun K hK => ?_)
        · skip
          refine step_convBB rfl 25 5 _ rfl Tryd.underlying25 Tryd.underlying5 rfl hb0 ?_
          intro w1 hcv qk1 hlt1
          have hcc := CellsK.of hb0 qk1 hcv
          have hr0 : Row .u8 w1 (some ⟨g0, 0, none⟩) 4 L0 := HLS.out.1.symm ▸ (hb0.row8 (n := 4) magic_bytes rfl (by omega)).keepC hcc
          have hKx : Keeps Nil v0 w1 := hKw.step qk1 (fun i hi => .inr (by rw [show i = g0 from hi]; exact hg0v))
          refine (fun hHeld => hK _ _ hHeld ?_) (⟨hKx.cell c1 (fun h => h), hKx.cell c2 (fun h => h), hKx.cell c3 (fun h => h)⟩)
          clear hK
          try simp only [Act.put, List.setIfInBounds_toArray, List.set_cons_zero, List.set_cons_succ]
          try (replace hr6 := hr6.keepC hcc)
          try (replace hr12 := hr12.keepC hcc)
          try (replace hr17 := hr17.keepC hcc)
          replace hKw := hKx
          clear hKx hcc qk1 hcv hlt1 hb0
          refine onlyL (i := 12) rfl (by kernel_rfl) (fun K hK => ?_)
          refine step_bsK rfl 25 5 1 _ rfl (byteV [SH % 256]) Tryd.underlying25 Tryd.bs8 rfl (by decide) (by decide) (by simp [Act.eval, byteV]) (by simp [Value.cells, byteV]) ?_
          intro g12 w12 hg12 hb12 qk
          have hr12 : Row .u8 w12 (some ⟨g12, 0, none⟩) 1 L3 := HLS.out.2.2.2.symm ▸ hb12.row8 (n := 1) (fun x hx => by rw [List.mem_singleton.1 hx]; omega) rfl (by omega)
          clear hg12 hb12
          refine (fun hHeld => hK _ _ hHeld ?_) (⟨(hKw.trans qk).cell c1 (fun h => h), (hKw.trans qk).cell c2 (fun h => h), (hKw.trans qk).cell c3 (fun h => h)⟩)
          clear hK
          try simp only [Act.put, List.setIfInBounds_toArray, List.set_cons_zero, List.set_cons_succ]
          replace hKw := hKw.trans qk
          replace hr6 := hr6.keep qk
          replace hr17 := hr17.keep qk
          replace hr0 := hr0.keep qk
          refine onlyL (i := 18) rfl (by kernel_rfl) (fun K hK => ?_)
          refine step_bsK rfl 83 25 4 _ rfl [.slice (some ⟨g0, 0, none⟩) 4 4, .slice (some ⟨g6, 0, none⟩) 4 4, .slice (some ⟨g12, 0, none⟩) 1 1, .slice (some ⟨g17, 0, none⟩) 4 4] Tryd.underlying83 Tryd.bsSl4 rfl (by decide) (by decide) (by simp [Act.eval]) (by simp [Value.cells]) ?_
          intro g18 w18 hg18 hb18 qk18
          clear hg18
          have hKx := hKw.trans qk18
          have hPx := pieces4 hb18 (hr0.keep qk18) (hr6.keep qk18) (hr12.keep qk18) (hr17.keep qk18)
          refine (fun hHeld => hK _ _ hHeld ?_) (⟨hKx.cell c1 (fun h => h), hKx.cell c2 (fun h => h), hKx.cell c3 (fun h => h)⟩)
          clear hK
          try simp only [Act.put, List.setIfInBounds_toArray, List.set_cons_zero, List.set_cons_succ]
          refine onlyL (i := 19) rfl (by kernel_rfl) (fun K hK => ?_)
          go_simp
          refine (HCC.out g18 g0 g6 g12 g17 w18 hPx).mono ?_
          rintro e w19 ⟨a19, c19, rfl, ho19, hk19, hf19⟩
          have hKy := hKx.trans hk19
          have hr19 := Own.row ho19 (areB_wf HLL.out.2.1)
          refine (fun hHeld => hK _ _ hHeld ?_) (⟨hKy.cell c1 (fun h => h), hKy.cell c2 (fun h => h), hKy.cell c3 (fun h => h)⟩)
          clear hK
          try simp only [Act.put, List.setIfInBounds_toArray, List.set_cons_zero, List.set_cons_succ]
          refine onlyL (i := 20) rfl (by kernel_rfl) (fun K hK => ?_)
          go_simp
          refine (sector_walk hr19 (fun e => by rw [e] at ho19; exact ho19.nilS) (by omega)).mono ?_
          rintro e w20 ⟨g20, c20, rfl, ho20, hk20, hf20⟩
          have hKz := hKy.trans hk20
          refine (fun hHeld => hK _ _ hHeld ?_) (⟨hKz.cell c1 (fun h => h), hKz.cell c2 (fun h => h), hKz.cell c3 (fun h => h)⟩)
          clear hK
          try simp only [Act.put, List.setIfInBounds_toArray, List.set_cons_zero, List.set_cons_succ]
          refine takeL (i := 21) (v := _) rfl (by kernel_rfl) (by kernel_rfl) (by kernel_rfl) (fun _ _ _ h => h) (Or.inl ⟨by rfl, by intro w hSw; (try dsimp only at hSw); go_simp; try with_reducible rfl⟩) (by assumption) ?_
          try simp only [Act.put, List.setIfInBounds_toArray, List.set_cons_zero, List.set_cons_succ]
          refine wpAnyH_done (by kernel_rfl) ?_ _
          have HF : Hid (Own w20 5 1 (some ⟨g20, 0, none⟩) c20 128 (byteV HD) ∧ Keeps Nil w w20 ∧ w.heap.size ≤ g20) := Lib.hid ⟨by rw [HLL.out.2.2]; exact ho20, HKD.out.trans hKz, by have := HKD.out.size; have := hKy.size; omega⟩
          clear hHeld hKx hKy hKz hr19 ho19 ho20 hk19 hk20 hf19 hf20 hb18 qk18 hPx
          go_wp2_with fail
          go_ret
          exact ⟨g20, c20, rfl, HF.out.1, HF.out.2.1, HF.out.2.2⟩
        · skip
          refine step_bsK rfl 25 5 1 _ rfl (byteV [SH % 256]) Tryd.underlying25 Tryd.bs8 rfl (by decide) (by decide) (by simp [Act.eval, byteV]) (by simp [Value.cells, byteV]) ?_
          intro g12 w12 hg12 hb12 qk
          have hr12 : Row .u8 w12 (some ⟨g12, 0, none⟩) 1 L3 := HLS.out.2.2.2.symm ▸ hb12.row8 (n := 1) (fun x hx => by rw [List.mem_singleton.1 hx]; omega) rfl (by omega)
          clear hg12 hb12
          refine (fun hHeld => hK _ _ hHeld ?_) (⟨(hKw.trans qk).cell c1 (fun h => h), (hKw.trans qk).cell c2 (fun h => h), (hKw.trans qk).cell c3 (fun h => h)⟩)
          clear hK
          try simp only [Act.put, List.setIfInBounds_toArray, List.set_cons_zero, List.set_cons_succ]
          replace hKw := hKw.trans qk
          replace hr6 := hr6.keep qk
          replace hb0 := hb0.keep0 qk
          replace hr17 := hr17.keep qk
          refine onlyL (i := 1) rfl (by kernel_rfl) (fun K hK => ?_)
          refine step_convBB rfl 25 5 _ rfl Tryd.underlying25 Tryd.underlying5 rfl hb0 ?_
          intro w1 hcv qk1 hlt1
          have hcc := CellsK.of hb0 qk1 hcv
          have hr0 : Row .u8 w1 (some ⟨g0, 0, none⟩) 4 L0 := HLS.out.1.symm ▸ (hb0.row8 (n := 4) magic_bytes rfl (by omega)).keepC hcc
          have hKx : Keeps Nil v0 w1 := hKw.step qk1 (fun i hi => .inr (by rw [show i = g0 from hi]; exact hg0v))
          refine (fun hHeld => hK _ _ hHeld ?_) (⟨hKx.cell c1 (fun h => h), hKx.cell c2 (fun h => h), hKx.cell c3 (fun h => h)⟩)
          clear hK
          try simp only [Act.put, List.setIfInBounds_toArray, List.set_cons_zero, List.set_cons_succ]
          try (replace hr6 := hr6.keepC hcc)
          try (replace hr12 := hr12.keepC hcc)
          try (replace hr17 := hr17.keepC hcc)
          replace hKw := hKx
          clear hKx hcc qk1 hcv hlt1 hb0
          refine onlyL (i := 18) rfl (by kernel_rfl) (fun K hK => ?_)
          refine step_bsK rfl 83 25 4 _ rfl [.slice (some ⟨g0, 0, none⟩) 4 4, .slice (some ⟨g6, 0, none⟩) 4 4, .slice (some ⟨g12, 0, none⟩) 1 1, .slice (some ⟨g17, 0, none⟩) 4 4] Tryd.underlying83 Tryd.bsSl4 rfl (by decide) (by decide) (by simp [Act.eval]) (by simp [Value.cells]) ?_
          intro g18 w18 hg18 hb18 qk18
          clear hg18
          have hKx := hKw.trans qk18
          have hPx := pieces4 hb18 (hr0.keep qk18) (hr6.keep qk18) (hr12.keep qk18) (hr17.keep qk18)
          refine (fun hHeld => hK _ _ hHeld ?_) (⟨hKx.cell c1 (fun h => h), hKx.cell c2 (fun h => h), hKx.cell c3 (fun h => h)⟩)
          clear hK
          try simp only [Act.put, List.setIfInBounds_toArray, List.set_cons_zero, List.set_cons_succ]
          refine onlyL (i := 19) rfl (by kernel_rfl) (fun K hK => ?_)
          go_simp
          refine (HCC.out g18 g0 g6 g12 g17 w18 hPx).mono ?_
          rintro e w19 ⟨a19, c19, rfl, ho19, hk19, hf19⟩
          have hKy := hKx.trans hk19
          have hr19 := Own.row ho19 (areB_wf HLL.out.2.1)
          refine (fun hHeld => hK _ _ hHeld ?_) (⟨hKy.cell c1 (fun h => h), hKy.cell c2 (fun h => h), hKy.cell c3 (fun h => h)⟩)
          clear hK
          try simp only [Act.put, List.setIfInBounds_toArray, List.set_cons_zero, List.set_cons_succ]
          refine onlyL (i := 20) rfl (by kernel_rfl) (fun K hK => ?_)
          go_simp
          refine (sector_walk hr19 (fun e => by rw [e] at ho19; exact ho19.nilS) (by omega)).mono ?_
          rintro e w20 ⟨g20, c20, rfl, ho20, hk20, hf20⟩
          have hKz := hKy.trans hk20
          refine (fun hHeld => hK _ _ hHeld ?_) (⟨hKz.cell c1 (fun h => h), hKz.cell c2 (fun h => h), hKz.cell c3 (fun h => h)⟩)
          clear hK
          try simp only [Act.put, List.setIfInBounds_toArray, List.set_cons_zero, List.set_cons_succ]
          refine takeL (i := 21) (v := _) rfl (by kernel_rfl) (by kernel_rfl) (by kernel_rfl) (fun _ _ _ h => h) (Or.inl ⟨by rfl, by intro w hSw; (try dsimp only at hSw); go_simp; try with_reducible rfl⟩) (by assumption) ?_
          try simp only [Act.put, List.setIfInBounds_toArray, List.set_cons_zero, List.set_cons_succ]
          refine wpAnyH_done (by kernel_rfl) ?_ _
          have HF : Hid (Own w20 5 1 (some ⟨g20, 0, none⟩) c20 128 (byteV HD) ∧ Keeps Nil w w20 ∧ w.heap.size ≤ g20) := Lib.hid ⟨by rw [HLL.out.2.2]; exact ho20, HKD.out.trans hKz, by have := HKD.out.size; have := hKy.size; omega⟩
          clear hHeld hKx hKy hKz hr19 ho19 ho20 hk19 hk20 hf19 hf20 hb18 qk18 hPx
          go_wp2_with fail
          go_ret
          exact ⟨g20, c20, rfl, HF.out.1, HF.out.2.1, HF.out.2.2⟩
    · skip
      refine step_bsK rfl 25 5 1 _ rfl (byteV [SH % 256]) Tryd.underlying25 Tryd.bs8 rfl (by decide) (by decide) (by simp [Act.eval, byteV]) (by simp [Value.cells, byteV]) ?_
      intro g12 w12 hg12 hb12 qk
      have hr12 : Row .u8 w12 (some ⟨g12, 0, none⟩) 1 L3 := HLS.out.2.2.2.symm ▸ hb12.row8 (n := 1) (fun x hx => by rw [List.mem_singleton.1 hx]; omega) rfl (by omega)
      clear hg12 hb12
      refine (fun hHeld => hK _ _ hHeld ?_) (⟨(hKw.trans qk).cell c1 (fun h => h), (hKw.trans qk).cell c2 (fun h => h), (hKw.trans qk).cell c3 (fun h => h)⟩)
      clear hK
      try simp only [Act.put, List.setIfInBounds_toArray, List.set_cons_zero, List.set_cons_succ]
      replace hKw := hKw.trans qk
      replace hr6 := hr6.keep qk
      refine bothL (i := 0) (j := 17) rfl rfl (by kernel_rfl) (fun K hK => ?_) (fun K hK => ?_)
      · skip
        refine step_bsK rfl 25 5 4 _ rfl (byteV magicL) Tryd.underlying25 Tryd.bs8 rfl (by decide) (by decide) (by simp [Act.eval, byteV, magicL]) (by simp [Value.cells, byteV, magicL]) ?_
        intro g0 w0 hg0 hb0 qk
        have hg0v : v0.heap.size ≤ g0 := by have := hKw.size; omega
        clear hg0
        refine (fun hHeld => hK _ _ hHeld ?_) (⟨(hKw.trans qk).cell c1 (fun h => h), (hKw.trans qk).cell c2 (fun h => h), (hKw.trans qk).cell c3 (fun h => h)⟩)
        clear hK
        try simp only [Act.put, List.setIfInBounds_toArray, List.set_cons_zero, List.set_cons_succ]
        replace hKw := hKw.trans qk
        replace hr6 := hr6.keep qk
        replace hr12 := hr12.keep qk
        refine bothL (i := 1) (j := 17) rfl rfl (by kernel_rfl) (fun K hK => ?_) (fun K hK => ?_)
        · skip
          refine step_convBB rfl 25 5 _ rfl Tryd.underlying25 Tryd.underlying5 rfl hb0 ?_
          intro w1 hcv qk1 hlt1
          have hcc := CellsK.of hb0 qk1 hcv
          have hr0 : Row .u8 w1 (some ⟨g0, 0, none⟩) 4 L0 := HLS.out.1.symm ▸ (hb0.row8 (n := 4) magic_bytes rfl (by omega)).keepC hcc
          have hKx : Keeps Nil v0 w1 := hKw.step qk1 (fun i hi => .inr (by rw [show i = g0 from hi]; exact hg0v))
          refine (fun hHeld => hK _ _ hHeld ?_) (⟨hKx.cell c1 (fun h => h), hKx.cell c2 (fun h => h), hKx.cell c3 (fun h => h)⟩)
          clear hK
          try simp only [Act.put, List.setIfInBounds_toArray, List.set_cons_zero, List.set_cons_succ]
          try (replace hr6 := hr6.keepC hcc)
          try (replace hr12 := hr12.keepC hcc)
          try (replace hr17 := hr17.keepC hcc)
          replace hKw := hKx
          clear hKx hcc qk1 hcv hlt1 hb0
          refine onlyL (i := 17) rfl (by kernel_rfl) (fun K hK => ?_)
          go_simp
          refine (HB2.out _).mono ?_
          rintro e w17 ⟨g17, rfl, hr17, qk, hf17⟩
          clear hf17
          refine (fun hHeld => hK _ _ hHeld ?_) (⟨(hKw.trans qk).cell c1 (fun h => h), (hKw.trans qk).cell c2 (fun h => h), (hKw.trans qk).cell c3 (fun h => h)⟩)
          clear hK
          try simp only [Act.put, List.setIfInBounds_toArray, List.set_cons_zero, List.set_cons_succ]
          replace hKw := hKw.trans qk
          replace hr6 := hr6.keep qk
          replace hr12 := hr12.keep qk
          replace hr0 := hr0.keep qk
          refine onlyL (i := 18) rfl (by kernel_rfl) (fun K hK => ?_)
          refine step_bsK rfl 83 25 4 _ rfl [.slice (some ⟨g0, 0, none⟩) 4 4, .slice (some ⟨g6, 0, none⟩) 4 4, .slice (some ⟨g12, 0, none⟩) 1 1, .slice (some ⟨g17, 0, none⟩) 4 4] Tryd.underlying83 Tryd.bsSl4 rfl (by decide) (by decide) (by simp [Act.eval]) (by simp [Value.cells]) ?_
          intro g18 w18 hg18 hb18 qk18
          clear hg18
          have hKx := hKw.trans qk18
          have hPx := pieces4 hb18 (hr0.keep qk18) (hr6.keep qk18) (hr12.keep qk18) (hr17.keep qk18)
          refine (fun hHeld => hK _ _ hHeld ?_) (⟨hKx.cell c1 (fun h => h), hKx.cell c2 (fun h => h), hKx.cell c3 (fun h => h)⟩)
          clear hK
          try simp only [Act.put, List.setIfInBounds_toArray, List.set_cons_zero, List.set_cons_succ]
          refine onlyL (i := 19) rfl (by kernel_rfl) (fun K hK => ?_)
          go_simp
          refine (HCC.out g18 g0 g6 g12 g17 w18 hPx).mono ?_
          rintro e w19 ⟨a19, c19, rfl, ho19, hk19, hf19⟩
          have hKy := hKx.trans hk19
          have hr19 := Own.row ho19 (areB_wf HLL.out.2.1)
          refine (fun hHeld => hK _ _ hHeld ?_) (⟨hKy.cell c1 (fun h => h), hKy.cell c2 (fun h => h), hKy.cell c3 (fun h => h)⟩)
          clear hK
          try simp only [Act.put, List.setIfInBounds_toArray, List.set_cons_zero, List.set_cons_succ]
          refine onlyL (i := 20) rfl (by kernel_rfl) (fun K hK => ?_)
          go_simp
          refine (sector_walk hr19 (fun e => by rw [e] at ho19; exact ho19.nilS) (by omega)).mono ?_
          rintro e w20 ⟨g20, c20, rfl, ho20, hk20, hf20⟩
          have hKz := hKy.trans hk20
          refine (fun hHeld => hK _ _ hHeld ?_) (⟨hKz.cell c1 (fun h => h), hKz.cell c2 (fun h => h), hKz.cell c3 (fun h => h)⟩)
          clear hK
          try simp only [Act.put, List.setIfInBounds_toArray, List.set_cons_zero, List.set_cons_succ]
          refine takeL (i := 21) (v := _) rfl (by kernel_rfl) (by kernel_rfl) (by kernel_rfl) (fun _ _ _ h => h) (Or.inl ⟨by rfl, by intro w hSw; (try dsimp only at hSw); go_simp; try with_reducible rfl⟩) (by assumption) ?_
          try simp only [Act.put, List.setIfInBounds_toArray, List.set_cons_zero, List.set_cons_succ]
          refine wpAnyH_done (by kernel_rfl) ?_ _
          have HF : Hid (Own w20 5 1 (some ⟨g20, 0, none⟩) c20 128 (byteV HD) ∧ Keeps Nil w w20 ∧ w.heap.size ≤ g20) := Lib.hid ⟨by rw [HLL.out.2.2]; exact ho20, HKD.out.trans hKz, by have := HKD.out.size; have := hKy.size; omega⟩
          clear hHeld hKx hKy hKz hr19 ho19 ho20 hk19 hk20 hf19 hf20 hb18 qk18 hPx
          go_wp2_with fail
          go_ret
          exact ⟨g20, c20, rfl, HF.out.1, HF.out.2.1, HF.out.2.2⟩
        · skip
          go_simp
          refine (HB2.out _).mono ?_
          rintro e w17 ⟨g17, rfl, hr17, qk, hf17⟩
          clear hf17
          refine (fun hHeld => hK _ _ hHeld ?_) (⟨(hKw.trans qk).cell c1 (fun h => h), (hKw.trans qk).cell c2 (fun h => h), (hKw.trans qk).cell c3 (fun h => h)⟩)
          clear hK
          try simp only [Act.put, List.setIfInBounds_toArray, List.set_cons_zero, List.set_cons_succ]
          replace hKw := hKw.trans qk
          replace hr6 := hr6.keep qk
          replace hr12 := hr12.keep qk
          replace hb0 := hb0.keep0 qk
          refine onlyL (i := 1) rfl (by kernel_rfl) (fun K hK => ?_)
          refine step_convBB rfl 25 5 _ rfl Tryd.underlying25 Tryd.underlying5 rfl hb0 ?_
          intro w1 hcv qk1 hlt1
          have hcc := CellsK.of hb0 qk1 hcv
          have hr0 : Row .u8 w1 (some ⟨g0, 0, none⟩) 4 L0 := HLS.out.1.symm ▸ (hb0.row8 (n := 4) magic_bytes rfl (by omega)).keepC hcc
          have hKx : Keeps Nil v0 w1 := hKw.step qk1 (fun i hi => .inr (by rw [show i = g0 from hi]; exact hg0v))
          refine (fun hHeld => hK _ _ hHeld ?_) (⟨hKx.cell c1 (fun h => h), hKx.cell c2 (fun h => h), hKx.cell c3 (fun h => h)⟩)
          clear hK
          try simp only [Act.put, List.setIfInBounds_toArray, List.set_cons_zero, List.set_cons_succ]
          try (replace hr6 := hr6.keepC hcc)
          try (replace hr12 := hr12.keepC hcc)
          try (replace hr17 := hr17.keepC hcc)
          replace hKw := hKx
          clear hKx hcc qk1 hcv hlt1 hb0
          refine onlyL (i := 18) rfl (by kernel_rfl) (fun K hK => ?_)
          refine step_bsK rfl 83 25 4 _ rfl [.slice (some ⟨g0, 0, none⟩) 4 4, .slice (some ⟨g6, 0, none⟩) 4 4, .slice (some ⟨g12, 0, none⟩) 1 1, .slice (some ⟨g17, 0, none⟩) 4 4] Tryd.underlying83 Tryd.bsSl4 rfl (by decide) (by decide) (by simp [Act.eval]) (by simp [Value.cells]) ?_
          intro g18 w18 hg18 hb18 qk18
          clear hg18
          have hKx := hKw.trans qk18
          have hPx := pieces4 hb18 (hr0.keep qk18) (hr6.keep qk18) (hr12.keep qk18) (hr17.keep qk18)
          refine (fun hHeld => hK _ _ hHeld ?_) (⟨hKx.cell c1 (fun h => h), hKx.cell c2 (fun h => h), hKx.cell c3 (fun h => h)⟩)
          clear hK
          try simp only [Act.put, List.setIfInBounds_toArray, List.set_cons_zero, List.set_cons_succ]
          refine onlyL (i := 19) rfl (by kernel_rfl) (fun K hK => ?_)
          go_simp
          refine (HCC.out g18 g0 g6 g12 g17 w18 hPx).mono ?_
          rintro e w19 ⟨a19, c19, rfl, ho19, hk19, hf19⟩
          have hKy := hKx.trans hk19
          have hr19 := Own.row ho19 (areB_wf HLL.out.2.1)
          refine (fun hHeld => hK _ _ hHeld ?_) (⟨hKy.cell c1 (fun h => h), hKy.cell c2 (fun h => h), hKy.cell c3 (fun h => h)⟩)
          clear hK
          try simp only [Act.put, List.setIfInBounds_toArray, List.set_cons_zero, List.set_cons_succ]
          refine onlyL (i := 20) rfl (by kernel_rfl) (fun K hK => ?_)
          go_simp
          refine (sector_walk hr19 (fun e => by rw [e] at ho19; exact ho19.nilS) (by omega)).mono ?_
          rintro e w20 ⟨g20, c20, rfl, ho20, hk20, hf20⟩
          have hKz := hKy.trans hk20
          refine (fun hHeld => hK _ _ hHeld ?_) (⟨hKz.cell c1 (fun h => h), hKz.cell c2 (fun h => h), hKz.cell c3 (fun h => h)⟩)
          clear hK
          try simp only [Act.put, List.setIfInBounds_toArray, List.set_cons_zero, List.set_cons_succ]
          refine takeL (i := 21) (v := _) rfl (by kernel_rfl) (by kernel_rfl) (by kernel_rfl) (fun _ _ _ h => h) (Or.inl ⟨by rfl, by intro w hSw; (try dsimp only at hSw); go_simp; try with_reducible rfl⟩) (by assumption) ?_
          try simp only [Act.put, List.setIfInBounds_toArray, List.set_cons_zero, List.set_cons_succ]
          refine wpAnyH_done (by kernel_rfl) ?_ _
          have HF : Hid (Own w20 5 1 (some ⟨g20, 0, none⟩) c20 128 (byteV HD) ∧ Keeps Nil w w20 ∧ w.heap.size ≤ g20) := Lib.hid ⟨by rw [HLL.out.2.2]; exact ho20, HKD.out.trans hKz, by have := HKD.out.size; have := hKy.size; omega⟩
          clear hHeld hKx hKy hKz hr19 ho19 ho20 hk19 hk20 hf19 hf20 hb18 qk18 hPx
          go_wp2_with fail
          go_ret
          exact ⟨g20, c20, rfl, HF.out.1, HF.out.2.1, HF.out.2.2⟩
      · skip
        go_simp
        refine (HB2.out _).mono ?_
        rintro e w17 ⟨g17, rfl, hr17, qk, hf17⟩
        clear hf17
        refine (fun hHeld => hK _ _ hHeld ?_) (⟨(hKw.trans qk).cell c1 (fun h => h), (hKw.trans qk).cell c2 (fun h => h), (hKw.trans qk).cell c3 (fun h => h)⟩)
        clear hK
        try simp only [Act.put, List.setIfInBounds_toArray, List.set_cons_zero, List.set_cons_succ]
        replace hKw := hKw.trans qk
        replace hr6 := hr6.keep qk
        replace hr12 := hr12.keep qk
        refine onlyL (i := 0) rfl (by kernel_rfl) (fun K hK => ?_)
        refine step_bsK rfl 25 5 4 _ rfl (byteV magicL) Tryd.underlying25 Tryd.bs8 rfl (by decide) (by decide) (by simp [Act.eval, byteV, magicL]) (by simp [Value.cells, byteV, magicL]) ?_
        intro g0 w0 hg0 hb0 qk
        have hg0v : v0.heap.size ≤ g0 := by have := hKw.size; omega
        clear hg0
        refine (fun hHeld => hK _ _ hHeld ?_) (⟨(hKw.trans qk).cell c1 (fun h => h), (hKw.trans qk).cell c2 (fun h => h), (hKw.trans qk).cell c3 (fun h => h)⟩)
        clear hK
        try simp only [Act.put, List.setIfInBounds_toArray, List.set_cons_zero, List.set_cons_succ]
        replace hKw := hKw.trans qk
        replace hr6 := hr6.keep qk
        replace hr12 := hr12.keep qk
        replace hr17 := hr17.keep qk
        refine onlyL (i := 1) rfl (by kernel_rfl) (fun K hK => ?_)
        refine step_convBB rfl 25 5 _ rfl Tryd.underlying25 Tryd.underlying5 rfl hb0 ?_
        intro w1 hcv qk1 hlt1
        have hcc := CellsK.of hb0 qk1 hcv
        have hr0 : Row .u8 w1 (some ⟨g0, 0, none⟩) 4 L0 := HLS.out.1.symm ▸ (hb0.row8 (n := 4) magic_bytes rfl (by omega)).keepC hcc
        have hKx : Keeps Nil v0 w1 := hKw.step qk1 (fun i hi => .inr (by rw [show i = g0 from hi]; exact hg0v))
        refine (fun hHeld => hK _ _ hHeld ?_) (⟨hKx.cell c1 (fun h => h), hKx.cell c2 (fun h => h), hKx.cell c3 (fun h => h)⟩)
        clear hK
        try simp only [Act.put, List.setIfInBounds_toArray, List.set_cons_zero, List.set_cons_succ]
        try (replace hr6 := hr6.keepC hcc)
        try (replace hr12 := hr12.keepC hcc)
        try (replace hr17 := hr17.keepC hcc)
        replace hKw := hKx
        clear hKx hcc qk1 hcv hlt1 hb0
        refine onlyL (i := 18) rfl (by kernel_rfl) (fun K hK => ?_)
        refine step_bsK rfl 83 25 4 _ rfl [.slice (some ⟨g0, 0, none⟩) 4 4, .slice (some ⟨g6, 0, none⟩) 4 4, .slice (some ⟨g12, 0, none⟩) 1 1, .slice (some ⟨g17, 0, none⟩) 4 4] Tryd.underlying83 Tryd.bsSl4 rfl (by decide) (by decide) (by simp [Act.eval]) (by simp [Value.cells]) ?_
        intro g18 w18 hg18 hb18 qk18
        clear hg18
        have hKx := hKw.trans qk18
        have hPx := pieces4 hb18 (hr0.keep qk18) (hr6.keep qk18) (hr12.keep qk18) (hr17.keep qk18)
        refine (fun hHeld => hK _ _ hHeld ?_) (⟨hKx.cell c1 (fun h => h), hKx.cell c2 (fun h => h), hKx.cell c3 (fun h => h)⟩)
        clear hK
        try simp only [Act.put, List.setIfInBounds_toArray, List.set_cons_zero, List.set_cons_succ]
        refine onlyL (i := 19) rfl (by kernel_rfl) (fun K hK => ?_)
        go_simp
        refine (HCC.out g18 g0 g6 g12 g17 w18 hPx).mono ?_
        rintro e w19 ⟨a19, c19, rfl, ho19, hk19, hf19⟩
        have hKy := hKx.trans hk19
        have hr19 := Own.row ho19 (areB_wf HLL.out.2.1)
        refine (fun hHeld => hK _ _ hHeld ?_) (⟨hKy.cell c1 (fun h => h), hKy.cell c2 (fun h => h), hKy.cell c3 (fun h => h)⟩)
        clear hK
        try simp only [Act.put, List.setIfInBounds_toArray, List.set_cons_zero, List.set_cons_succ]
        refine onlyL (i := 20) rfl (by kernel_rfl) (fun K hK => ?_)
        go_simp
        refine (sector_walk hr19 (fun e => by rw [e] at ho19; exact ho19.nilS) (by omega)).mono ?_
        rintro e w20 ⟨g20, c20, rfl, ho20, hk20, hf20⟩
        have hKz := hKy.trans hk20
        refine (fun hHeld => hK _ _ hHeld ?_) (⟨hKz.cell c1 (fun h => h), hKz.cell c2 (fun h => h), hKz.cell c3 (fun h => h)⟩)
        clear hK
        try simp only [Act.put, List.setIfInBounds_toArray, List.set_cons_zero, List.set_cons_succ]
        refine takeL (i := 21) (v := _) rfl (by kernel_rfl) (by kernel_rfl) (by kernel_rfl) (fun _ _ _ h => h) (Or.inl ⟨by rfl, by intro w hSw; (try dsimp only at hSw); go_simp; try with_reducible rfl⟩) (by assumption) ?_
        try simp only [Act.put, List.setIfInBounds_toArray, List.set_cons_zero, List.set_cons_succ]
        refine wpAnyH_done (by kernel_rfl) ?_ _
        have HF : Hid (Own w20 5 1 (some ⟨g20, 0, none⟩) c20 128 (byteV HD) ∧ Keeps Nil w w20 ∧ w.heap.size ≤ g20) := Lib.hid ⟨by rw [HLL.out.2.2]; exact ho20, HKD.out.trans hKz, by have := HKD.out.size; have := hKy.size; omega⟩
        clear hHeld hKx hKy hKz hr19 ho19 ho20 hk19 hk20 hf19 hf20 hb18 qk18 hPx
        go_wp2_with fail
        go_ret
        exact ⟨g20, c20, rfl, HF.out.1, HF.out.2.1, HF.out.2.2⟩
    · skip
      go_simp
      refine (HB2.out _).mono ?_
      rintro e w17 ⟨g17, rfl, hr17, qk, hf17⟩
      clear hf17
      refine (fun hHeld => hK _ _ hHeld ?_) (⟨(hKw.trans qk).cell c1 (fun h => h), (hKw.trans qk).cell c2 (fun h => h), (hKw.trans qk).cell c3 (fun h => h)⟩)
      clear hK
      try simp only [Act.put, List.setIfInBounds_toArray, List.set_cons_zero, List.set_cons_succ]
      replace hKw := hKw.trans qk
      replace hr6 := hr6.keep qk
      refine bothL (i := 0) (j := 12) rfl rfl (by kernel_rfl) (fun K hK => ?_) (fun K hK => ?_)
      · skip
        refine step_bsK rfl 25 5 4 _ rfl (byteV magicL) Tryd.underlying25 Tryd.bs8 rfl (by decide) (by decide) (by simp [Act.eval, byteV, magicL]) (by simp [Value.cells, byteV, magicL]) ?_
        intro g0 w0 hg0 hb0 qk
        have hg0v : v0.heap.size ≤ g0 := by have := hKw.size; omega
        clear hg0
        refine (fun hHeld => hK _ _ hHeld ?_) (⟨(hKw.trans qk).cell c1 (fun h => h), (hKw.trans qk).cell c2 (fun h => h), (hKw.trans qk).cell c3 (fun h => h)⟩)
        clear hK
        try simp only [Act.put, List.setIfInBounds_toArray, List.set_cons_zero, List.set_cons_succ]
        replace hKw := hKw.trans qk
        replace hr6 := hr6.keep qk
        replace hr17 := hr17.keep qk
        refine bothL (i := 1) (j := 12) rfl rfl (by kernel_rfl) (fun K hK => ?_) (fun K hK => ?_)
        · skip
          refine step_convBB rfl 25 5 _ rfl Tryd.underlying25 Tryd.underlying5 rfl hb0 ?_
          intro w1 hcv qk1 hlt1
          have hcc := CellsK.of hb0 qk1 hcv
          have hr0 : Row .u8 w1 (some ⟨g0, 0, none⟩) 4 L0 := HLS.out.1.symm ▸ (hb0.row8 (n := 4) magic_bytes rfl (by omega)).keepC hcc
          have hKx : Keeps Nil v0 w1 := hKw.step qk1 (fun i hi => .inr (by rw [show i = g0 from hi]; exact hg0v))
          refine (fun hHeld => hK _ _ hHeld ?_) (⟨hKx.cell c1 (fun h => h), hKx.cell c2 (fun h => h), hKx.cell c3 (fun h => h)⟩)
          clear hK
          try simp only [Act.put, List.setIfInBounds_toArray, List.set_cons_zero, List.set_cons_succ]
          try (replace hr6 := hr6.keepC hcc)
          try (replace hr12 := hr12.keepC hcc)
          try (replace hr17 := hr17.keepC hcc)
          replace hKw := hKx
          clear hKx hcc qk1 hcv hlt1 hb0
          refine onlyL (i := 12) rfl (by kernel_rfl) (fun K hK => ?_)
          refine step_bsK rfl 25 5 1 _ rfl (byteV [SH % 256]) Tryd.underlying25 Tryd.bs8 rfl (by decide) (by decide) (by simp [Act.eval, byteV]) (by simp [Value.cells, byteV]) ?_
          intro g12 w12 hg12 hb12 qk
          have hr12 : Row .u8 w12 (some ⟨g12, 0, none⟩) 1 L3 := HLS.out.2.2.2.symm ▸ hb12.row8 (n := 1) (fun x hx => by rw [List.mem_singleton.1 hx]; omega) rfl (by omega)
          clear hg12 hb12
          refine (fun hHeld => hK _ _ hHeld ?_) (⟨(hKw.trans qk).cell c1 (fun h => h), (hKw.trans qk).cell c2 (fun h => h), (hKw.trans qk).cell c3 (fun h => h)⟩)
          clear hK
          try simp only [Act.put, List.setIfInBounds_toArray, List.set_cons_zero, List.set_cons_succ]
          replace hKw := hKw.trans qk
          replace hr6 := hr6.keep qk
          replace hr17 := hr17.keep qk
          replace hr0 := hr0.keep qk
          refine onlyL (i := 18) rfl (by kernel_rfl) (fun K hK => ?_)
          refine step_bsK rfl 83 25 4 _ rfl [.slice (some ⟨g0, 0, none⟩) 4 4, .slice (some ⟨g6, 0, none⟩) 4 4, .slice (some ⟨g12, 0, none⟩) 1 1, .slice (some ⟨g17, 0, none⟩) 4 4] Tryd.underlying83 Tryd.bsSl4 rfl (by decide) (by decide) (by simp [Act.eval]) (by simp [Value.cells]) ?_
          intro g18 w18 hg18 hb18 qk18
          clear hg18
          have hKx := hKw.trans qk18
          have hPx := pieces4 hb18 (hr0.keep qk18) (hr6.keep qk18) (hr12.keep qk18) (hr17.keep qk18)
          refine (fun hHeld => hK _ _ hHeld ?_) (⟨hKx.cell c1 (fun h => h), hKx.cell c2 (fun h => h), hKx.cell c3 (fun h => h)⟩)
          clear hK
          try simp only [Act.put, List.setIfInBounds_toArray, List.set_cons_zero, List.set_cons_succ]
          refine onlyL (i := 19) rfl (by kernel_rfl) (fun K hK => ?_)
          go_simp
          refine (HCC.out g18 g0 g6 g12 g17 w18 hPx).mono ?_
          rintro e w19 ⟨a19, c19, rfl, ho19, hk19, hf19⟩
          have hKy := hKx.trans hk19
          have hr19 := Own.row ho19 (areB_wf HLL.out.2.1)
          refine (fun hHeld => hK _ _ hHeld ?_) (⟨hKy.cell c1 (fun h => h), hKy.cell c2 (fun h => h), hKy.cell c3 (fun h => h)⟩)
          clear hK
          try simp only [Act.put, List.setIfInBounds_toArray, List.set_cons_zero, List.set_cons_succ]
          refine onlyL (i := 20) rfl (by kernel_rfl) (fun K hK => ?_)
          go_simp
          refine (sector_walk hr19 (fun e => by rw [e] at ho19; exact ho19.nilS) (by omega)).mono ?_
          rintro e w20 ⟨g20, c20, rfl, ho20, hk20, hf20⟩
          have hKz := hKy.trans hk20
          refine (fun hHeld => hK _ _ hHeld ?_) (⟨hKz.cell c1 (fun h => h), hKz.cell c2 (fun h => h), hKz.cell c3 (fun h => h)⟩)
          clear hK
          try simp only [Act.put, List.setIfInBounds_toArray, List.set_cons_zero, List.set_cons_succ]
          refine takeL (i := 21) (v := _) rfl (by kernel_rfl) (by kernel_rfl) (by kernel_rfl) (fun _ _ _ h => h) (Or.inl ⟨by rfl, by intro w hSw; (try dsimp only at hSw); go_simp; try with_reducible rfl⟩) (by assumption) ?_
          try simp only [Act.put, List.setIfInBounds_toArray, List.set_cons_zero, List.set_cons_succ]
          refine wpAnyH_done (by kernel_rfl) ?_ _
          have HF : Hid (Own w20 5 1 (some ⟨g20, 0, none⟩) c20 128 (byteV HD) ∧ Keeps Nil w w20 ∧ w.heap.size ≤ g20) := Lib.hid ⟨by rw [HLL.out.2.2]; exact ho20, HKD.out.trans hKz, by have := HKD.out.size; have := hKy.size; omega⟩
          clear hHeld hKx hKy hKz hr19 ho19 ho20 hk19 hk20 hf19 hf20 hb18 qk18 hPx
          go_wp2_with fail
          go_ret
          exact ⟨g20, c20, rfl, HF.out.1, HF.out.2.1, HF.out.2.2⟩
        · skip
          refine step_bsK rfl 25 5 1 _ rfl (byteV [SH % 256]) Tryd.underlying25 Tryd.bs8 rfl (by decide) (by decide) (by simp [Act.eval, byteV]) (by simp [Value.cells, byteV]) ?_
          intro g12 w12 hg12 hb12 qk
          have hr12 : Row .u8 w12 (some ⟨g12, 0, none⟩) 1 L3 := HLS.out.2.2.2.symm ▸ hb12.row8 (n := 1) (fun x hx => by rw [List.mem_singleton.1 hx]; omega) rfl (by omega)
          clear hg12 hb12
          refine (fun hHeld => hK _ _ hHeld ?_) (⟨(hKw.trans qk).cell c1 (fun h => h), (hKw.trans qk).cell c2 (fun h => h), (hKw.trans qk).cell c3 (fun h => h)⟩)
          clear hK
          try simp only [Act.put, List.setIfInBounds_toArray, List.set_cons_zero, List.set_cons_succ]
          replace hKw := hKw.trans qk
          replace hr6 := hr6.keep qk
          replace hr17 := hr17.keep qk
          replace hb0 := hb0.keep0 qk
          refine onlyL (i := 1) rfl (by kernel_rfl) (fun K hK => ?_)
          refine step_convBB rfl 25 5 _ rfl Tryd.underlying25 Tryd.underlying5 rfl hb0 ?_
          intro w1 hcv qk1 hlt1
          have hcc := CellsK.of hb0 qk1 hcv
          have hr0 : Row .u8 w1 (some ⟨g0, 0, none⟩) 4 L0 := HLS.out.1.symm ▸ (hb0.row8 (n := 4) magic_bytes rfl (by omega)).keepC hcc
          have hKx : Keeps Nil v0 w1 := hKw.step qk1 (fun i hi => .inr (by rw [show i = g0 from hi]; exact hg0v))
          refine (fun hHeld => hK _ _ hHeld ?_) (⟨hKx.cell c1 (fun h => h), hKx.cell c2 (fun h => h), hKx.cell c3 (fun h => h)⟩)
          clear hK
          try simp only [Act.put, List.setIfInBounds_toArray, List.set_cons_zero, List.set_cons_succ]
          try (replace hr6 := hr6.keepC hcc)
          try (replace hr12 := hr12.keepC hcc)
          try (replace hr17 := hr17.keepC hcc)
          replace hKw := hKx
          clear hKx hcc qk1 hcv hlt1 hb0
          refine onlyL (i := 18) rfl (by kernel_rfl) (fun K hK => ?_)
          refine step_bsK rfl 83 25 4 _ rfl [.slice (some ⟨g0, 0, none⟩) 4 4, .slice (some ⟨g6, 0, none⟩) 4 4, .slice (some ⟨g12, 0, none⟩) 1 1, .slice (some ⟨g17, 0, none⟩) 4 4] Tryd.underlying83 Tryd.bsSl4 rfl (by decide) (by decide) (by simp [Act.eval]) (by simp [Value.cells]) ?_
          intro g18 w18 hg18 hb18 qk18
          clear hg18
          have hKx := hKw.trans qk18
          have hPx := pieces4 hb18 (hr0.keep qk18) (hr6.keep qk18) (hr12.keep qk18) (hr17.keep qk18)
          refine (fun hHeld => hK _ _ hHeld ?_) (⟨hKx.cell c1 (fun h => h), hKx.cell c2 (fun h => h), hKx.cell c3 (fun h => h)⟩)
          clear hK
          try simp only [Act.put, List.setIfInBounds_toArray, List.set_cons_zero, List.set_cons_succ]
          refine onlyL (i := 19) rfl (by kernel_rfl) (fun K hK => ?_)
          go_simp
          refine (HCC.out g18 g0 g6 g12 g17 w18 hPx).mono ?_
          rintro e w19 ⟨a19, c19, rfl, ho19, hk19, hf19⟩
          have hKy := hKx.trans hk19
          have hr19 := Own.row ho19 (areB_wf HLL.out.2.1)
          refine (fun hHeld => hK _ _ hHeld ?_) (⟨hKy.cell c1 (fun h => h), hKy.cell c2 (fun h => h), hKy.cell c3 (fun h => h)⟩)
          clear hK
          try simp only [Act.put, List.setIfInBounds_toArray, List.set_cons_zero, List.set_cons_succ]
          refine onlyL (i := 20) rfl (by kernel_rfl) (fun K hK => ?_)
          go_simp
          refine (sector_walk hr19 (fun e => by rw [e] at ho19; exact ho19.nilS) (by omega)).mono ?_
          rintro e w20 ⟨g20, c20, rfl, ho20, hk20, hf20⟩
          have hKz := hKy.trans hk20
          refine (fun hHeld => hK _ _ hHeld ?_) (⟨hKz.cell c1 (fun h => h), hKz.cell c2 (fun h => h), hKz.cell c3 (fun h => h)⟩)
          clear hK
          try simp only [Act.put, List.setIfInBounds_toArray, List.set_cons_zero, List.set_cons_succ]
          refine takeL (i := 21) (v := _) rfl (by kernel_rfl) (by kernel_rfl) (by kernel_rfl) (fun _ _ _ h => h) (Or.inl ⟨by rfl, by intro w hSw; (try dsimp only at hSw); go_simp; try with_reducible rfl⟩) (by assumption) ?_
          try simp only [Act.put, List.setIfInBounds_toArray, List.set_cons_zero, List.set_cons_succ]
          refine wpAnyH_done (by kernel_rfl) ?_ _
          have HF : Hid (Own w20 5 1 (some ⟨g20, 0, none⟩) c20 128 (byteV HD) ∧ Keeps Nil w w20 ∧ w.heap.size ≤ g20) := Lib.hid ⟨by rw [HLL.out.2.2]; exact ho20, HKD.out.trans hKz, by have := HKD.out.size; have := hKy.size; omega⟩
          clear hHeld hKx hKy hKz hr19 ho19 ho20 hk19 hk20 hf19 hf20 hb18 qk18 hPx
          go_wp2_with fail
          go_ret
          exact ⟨g20, c20, rfl, HF.out.1, HF.out.2.1, HF.out.2.2⟩
      · skip
        refine step_bsK rfl 25 5 1 _ rfl (byteV [SH % 256]) Tryd.underlying25 Tryd.bs8 rfl (by decide) (by decide) (by simp [Act.eval, byteV]) (by simp [Value.cells, byteV]) ?_
        intro g12 w12 hg12 hb12 qk
        have hr12 : Row .u8 w12 (some ⟨g12, 0, none⟩) 1 L3 := HLS.out.2.2.2.symm ▸ hb12.row8 (n := 1) (fun x hx => by rw [List.mem_singleton.1 hx]; omega) rfl (by omega)
        clear hg12 hb12
        refine (fun hHeld => hK _ _ hHeld ?_) (⟨(hKw.trans qk).cell c1 (fun h => h), (hKw.trans qk).cell c2 (fun h => h), (hKw.trans qk).cell c3 (fun h => h)⟩)
        clear hK
        try simp only [Act.put, List.setIfInBounds_toArray, List.set_cons_zero, List.set_cons_succ]
        replace hKw := hKw.trans qk
        replace hr6 := hr6.keep qk
        replace hr17 := hr17.keep qk
        refine onlyL (i := 0) rfl (by kernel_rfl) (fun K hK => ?_)
        refine step_bsK rfl 25 5 4 _ rfl (byteV magicL) Tryd.underlying25 Tryd.bs8 rfl (by decide) (by decide) (by simp [Act.eval, byteV, magicL]) (by simp [Value.cells, byteV, magicL]) ?_
        intro g0 w0 hg0 hb0 qk
        have hg0v : v0.heap.size ≤ g0 := by have := hKw.size; omega
        clear hg0
        refine (fun hHeld => hK _ _ hHeld ?_) (⟨(hKw.trans qk).cell c1 (fun h => h), (hKw.trans qk).cell c2 (fun h => h), (hKw.trans qk).cell c3 (fun h => h)⟩)
        clear hK
        try simp only [Act.put, List.setIfInBounds_toArray, List.set_cons_zero, List.set_cons_succ]
        replace hKw := hKw.trans qk
        replace hr6 := hr6.keep qk
        replace hr17 := hr17.keep qk
        replace hr12 := hr12.keep qk
        refine onlyL (i := 1) rfl (by kernel_rfl) (fun K hK => ?_)
        refine step_convBB rfl 25 5 _ rfl Tryd.underlying25 Tryd.underlying5 rfl hb0 ?_
        intro w1 hcv qk1 hlt1
        have hcc := CellsK.of hb0 qk1 hcv
        have hr0 : Row .u8 w1 (some ⟨g0, 0, none⟩) 4 L0 := HLS.out.1.symm ▸ (hb0.row8 (n := 4) magic_bytes rfl (by omega)).keepC hcc
        have hKx : Keeps Nil v0 w1 := hKw.step qk1 (fun i hi => .inr (by rw [show i = g0 from hi]; exact hg0v))
        refine (fun hHeld => hK _ _ hHeld ?_) (⟨hKx.cell c1 (fun h => h), hKx.cell c2 (fun h => h), hKx.cell c3 (fun h => h)⟩)
        clear hK
        try simp only [Act.put, List.setIfInBounds_toArray, List.set_cons_zero, List.set_cons_succ]
        try (replace hr6 := hr6.keepC hcc)
        try (replace hr12 := hr12.keepC hcc)
        try (replace hr17 := hr17.keepC hcc)
        replace hKw := hKx
        clear hKx hcc qk1 hcv hlt1 hb0
        refine onlyL (i := 18) rfl (by kernel_rfl) (fun K hK => ?_)
        refine step_bsK rfl 83 25 4 _ rfl [.slice (some ⟨g0, 0, none⟩) 4 4, .slice (some ⟨g6, 0, none⟩) 4 4, .slice (some ⟨g12, 0, none⟩) 1 1, .slice (some ⟨g17, 0, none⟩) 4 4] Tryd.underlying83 Tryd.bsSl4 rfl (by decide) (by decide) (by simp [Act.eval]) (by simp [Value.cells]) ?_
        intro g18 w18 hg18 hb18 qk18
        clear hg18
        have hKx := hKw.trans qk18
        have hPx := pieces4 hb18 (hr0.keep qk18) (hr6.keep qk18) (hr12.keep qk18) (hr17.keep qk18)
        refine (fun hHeld => hK _ _ hHeld ?_) (⟨hKx.cell c1 (fun h => h), hKx.cell c2 (fun h => h), hKx.cell c3 (fun h => h)⟩)
        clear hK
        try simp only [Act.put, List.setIfInBounds_toArray, List.set_cons_zero, List.set_cons_succ]
        refine onlyL (i := 19) rfl (by kernel_rfl) (fun K hK => ?_)
        go_simp
        refine (HCC.out g18 g0 g6 g12 g17 w18 hPx).mono ?_
        rintro e w19 ⟨a19, c19, rfl, ho19, hk19, hf19⟩
        have hKy := hKx.trans hk19
        have hr19 := Own.row ho19 (areB_wf HLL.out.2.1)
        refine (fun hHeld => hK _ _ hHeld ?_) (⟨hKy.cell c1 (fun h => h), hKy.cell c2 (fun h => h), hKy.cell c3 (fun h => h)⟩)
        clear hK
        try simp only [Act.put, List.setIfInBounds_toArray, List.set_cons_zero, List.set_cons_succ]
        refine onlyL (i := 20) rfl (by kernel_rfl) (fun K hK => ?_)
        go_simp
        refine (sector_walk hr19 (fun e => by rw [e] at ho19; exact ho19.nilS) (by omega)).mono ?_
        rintro e w20 ⟨g20, c20, rfl, ho20, hk20, hf20⟩
        have hKz := hKy.trans hk20
        refine (fun hHeld => hK _ _ hHeld ?_) (⟨hKz.cell c1 (fun h => h), hKz.cell c2 (fun h => h), hKz.cell c3 (fun h => h)⟩)
        clear hK
        try simp only [Act.put, List.setIfInBounds_toArray, List.set_cons_zero, List.set_cons_succ]
        refine takeL (i := 21) (v := _) rfl (by kernel_rfl) (by kernel_rfl) (by kernel_rfl) (fun _ _ _ h => h) (Or.inl ⟨by rfl, by intro w hSw; (try dsimp only at hSw); go_simp; try with_reducible rfl⟩) (by assumption) ?_
        try simp only [Act.put, List.setIfInBounds_toArray, List.set_cons_zero, List.set_cons_succ]
        refine wpAnyH_done (by kernel_rfl) ?_ _
        have HF : Hid (Own w20 5 1 (some ⟨g20, 0, none⟩) c20 128 (byteV HD) ∧ Keeps Nil w w20 ∧ w.heap.size ≤ g20) := Lib.hid ⟨by rw [HLL.out.2.2]; exact ho20, HKD.out.trans hKz, by have := HKD.out.size; have := hKy.size; omega⟩
        clear hHeld hKx hKy hKz hr19 ho19 ho20 hk19 hk20 hf19 hf20 hb18 qk18 hPx
        go_wp2_with fail
        go_ret
        exact ⟨g20, c20, rfl, HF.out.1, HF.out.2.1, HF.out.2.2⟩
  · skip
    refine step_bsK rfl 25 5 1 _ rfl (byteV [SH % 256]) Tryd.underlying25 Tryd.bs8 rfl (by decide) (by decide) (by simp [Act.eval, byteV]) (by simp [Value.cells, byteV]) ?_
    intro g12 w12 hg12 hb12 qk
    have hr12 : Row .u8 w12 (some ⟨g12, 0, none⟩) 1 L3 := HLS.out.2.2.2.symm ▸ hb12.row8 (n := 1) (fun x hx => by rw [List.mem_singleton.1 hx]; omega) rfl (by omega)
    clear hg12 hb12
    refine (fun hHeld => hK _ _ hHeld ?_) (⟨(hKw.trans qk).cell c1 (fun h => h), (hKw.trans qk).cell c2 (fun h => h), (hKw.trans qk).cell c3 (fun h => h)⟩)
    clear hK
    try simp only [Act.put, List.setIfInBounds_toArray, List.set_cons_zero, List.set_cons_succ]
    replace hKw := hKw.trans qk
    refine bothL (i := 0) (j := 6) rfl rfl (by kernel_rfl) (fun K hK => ?_) (fun K hK => ?_)
    · skip
      refine step_bsK rfl 25 5 4 _ rfl (byteV magicL) Tryd.underlying25 Tryd.bs8 rfl (by decide) (by decide) (by simp [Act.eval, byteV, magicL]) (by simp [Value.cells, byteV, magicL]) ?_
      intro g0 w0 hg0 hb0 qk
      have hg0v : v0.heap.size ≤ g0 := by have := hKw.size; omega
      clear hg0
      refine (fun hHeld => hK _ _ hHeld ?_) (⟨(hKw.trans qk).cell c1 (fun h => h), (hKw.trans qk).cell c2 (fun h => h), (hKw.trans qk).cell c3 (fun h => h)⟩)
      clear hK
      try simp only [Act.put, List.setIfInBounds_toArray, List.set_cons_zero, List.set_cons_succ]
      replace hKw := hKw.trans qk
      replace hr12 := hr12.keep qk
      refine bothL (i := 1) (j := 6) rfl rfl (by kernel_rfl) (fun K hK => ?_) (fun K hK => ?_)
      · skip
        refine step_convBB rfl 25 5 _ rfl Tryd.underlying25 Tryd.underlying5 rfl hb0 ?_
        intro w1 hcv qk1 hlt1
        have hcc := CellsK.of hb0 qk1 hcv
        have hr0 : Row .u8 w1 (some ⟨g0, 0, none⟩) 4 L0 := HLS.out.1.symm ▸ (hb0.row8 (n := 4) magic_bytes rfl (by omega)).keepC hcc
        have hKx : Keeps Nil v0 w1 := hKw.step qk1 (fun i hi => .inr (by rw [show i = g0 from hi]; exact hg0v))
        refine (fun hHeld => hK _ _ hHeld ?_) (⟨hKx.cell c1 (fun h => h), hKx.cell c2 (fun h => h), hKx.cell c3 (fun h => h)⟩)
        clear hK
        try simp only [Act.put, List.setIfInBounds_toArray, List.set_cons_zero, List.set_cons_succ]
        try (replace hr6 := hr6.keepC hcc)
        try (replace hr12 := hr12.keepC hcc)
        try (replace hr17 := hr17.keepC hcc)
        replace hKw := hKx
        clear hKx hcc qk1 hcv hlt1 hb0
        refine onlyL (i := 6) rfl (by kernel_rfl) (fun K hK => ?_)
        go_simp
        refine (HB1.out _).mono ?_
        rintro e w6 ⟨g6, rfl, hr6, qk, hf6⟩
        have hg6v : v0.heap.size ≤ g6 := Nat.le_trans hKw.size hf6
        clear hf6
        refine (fun hHeld => hK _ _ hHeld ?_) (⟨(hKw.trans qk).cell c1 (fun h => h), (hKw.trans qk).cell c2 (fun h => h), (hKw.trans qk).cell c3 (fun h => h)⟩)
        clear hK
        try simp only [Act.put, List.setIfInBounds_toArray, List.set_cons_zero, List.set_cons_succ]
        replace hKw := hKw.trans qk
        replace hr12 := hr12.keep qk
        replace hr0 := hr0.keep qk
        refine onlyL (i := 17) rfl (by kernel_rfl) (fun K hK => ?_)
        go_simp
        refine (HB2.out _).mono ?_
        rintro e w17 ⟨g17, rfl, hr17, qk, hf17⟩
        clear hf17
        refine (fun hHeld => hK _ _ hHeld ?_) (⟨(hKw.trans qk).cell c1 (fun h => h), (hKw.trans qk).cell c2 (fun h => h), (hKw.trans qk).cell c3 (fun h => h)⟩)
        clear hK
        try simp only [Act.put, List.setIfInBounds_toArray, List.set_cons_zero, List.set_cons_succ]
        replace hKw := hKw.trans qk
        replace hr12 := hr12.keep qk
        replace hr0 := hr0.keep qk
        replace hr6 := hr6.keep qk
        refine onlyL (i := 18) rfl (by kernel_rfl) (fun K hK => ?_)
        refine step_bsK rfl 83 25 4 _ rfl [.slice (some ⟨g0, 0, none⟩) 4 4, .slice (some ⟨g6, 0, none⟩) 4 4, .slice (some ⟨g12, 0, none⟩) 1 1, .slice (some ⟨g17, 0, none⟩) 4 4] Tryd.underlying83 Tryd.bsSl4 rfl (by decide) (by decide) (by simp [Act.eval]) (by simp [Value.cells]) ?_
        intro g18 w18 hg18 hb18 qk18
        clear hg18
        have hKx := hKw.trans qk18
        have hPx := pieces4 hb18 (hr0.keep qk18) (hr6.keep qk18) (hr12.keep qk18) (hr17.keep qk18)
        refine (fun hHeld => hK _ _ hHeld ?_) (⟨hKx.cell c1 (fun h => h), hKx.cell c2 (fun h => h), hKx.cell c3 (fun h => h)⟩)
        clear hK
        try simp only [Act.put, List.setIfInBounds_toArray, List.set_cons_zero, List.set_cons_succ]
        refine onlyL (i := 19) rfl (by kernel_rfl) (fun K hK => ?_)
        go_simp
        refine (HCC.out g18 g0 g6 g12 g17 w18 hPx).mono ?_
        rintro e w19 ⟨a19, c19, rfl, ho19, hk19, hf19⟩
        have hKy := hKx.trans hk19
        have hr19 := Own.row ho19 (areB_wf HLL.out.2.1)
        refine (fun hHeld => hK _ _ hHeld ?_) (⟨hKy.cell c1 (fun h => h), hKy.cell c2 (fun h => h), hKy.cell c3 (fun h => h)⟩)
        clear hK
        try simp only [Act.put, List.setIfInBounds_toArray, List.set_cons_zero, List.set_cons_succ]
        refine onlyL (i := 20) rfl (by kernel_rfl) (fun K hK => ?_)
        go_simp
        refine (sector_walk hr19 (fun e => by rw [e] at ho19; exact ho19.nilS) (by omega)).mono ?_
        rintro e w20 ⟨g20, c20, rfl, ho20, hk20, hf20⟩
        have hKz := hKy.trans hk20
        refine (fun hHeld => hK _ _ hHeld ?_) (⟨hKz.cell c1 (fun h => h), hKz.cell c2 (fun h => h), hKz.cell c3 (fun h => h)⟩)
        clear hK
        try simp only [Act.put, List.setIfInBounds_toArray, List.set_cons_zero, List.set_cons_succ]
        refine takeL (i := 21) (v := _) rfl (by kernel_rfl) (by kernel_rfl) (by kernel_rfl) (fun _ _ _ h => h) (Or.inl ⟨by rfl, by intro w hSw; (try dsimp only at hSw); go_simp; try with_reducible rfl⟩) (by assumption) ?_
        try simp only [Act.put, List.setIfInBounds_toArray, List.set_cons_zero, List.set_cons_succ]
        refine wpAnyH_done (by kernel_rfl) ?_ _
        have HF : Hid (Own w20 5 1 (some ⟨g20, 0, none⟩) c20 128 (byteV HD) ∧ Keeps Nil w w20 ∧ w.heap.size ≤ g20) := Lib.hid ⟨by rw [HLL.out.2.2]; exact ho20, HKD.out.trans hKz, by have := HKD.out.size; have := hKy.size; omega⟩
        clear hHeld hKx hKy hKz hr19 ho19 ho20 hk19 hk20 hf19 hf20 hb18 qk18 hPx
        go_wp2_with fail
        go_ret
        exact ⟨g20, c20, rfl, HF.out.1, HF.out.2.1, HF.out.2.2⟩
      · skip
        go_simp
        refine (HB1.out _).mono ?_
        rintro e w6 ⟨g6, rfl, hr6, qk, hf6⟩
        have hg6v : v0.heap.size ≤ g6 := Nat.le_trans hKw.size hf6
        clear hf6
        refine (fun hHeld => hK _ _ hHeld ?_) (⟨(hKw.trans qk).cell c1 (fun h => h), (hKw.trans qk).cell c2 (fun h => h), (hKw.trans qk).cell c3 (fun h => h)⟩)
        clear hK
        try simp only [Act.put, List.setIfInBounds_toArray, List.set_cons_zero, List.set_cons_succ]
        replace hKw := hKw.trans qk
        replace hr12 := hr12.keep qk
        replace hb0 := hb0.keep0 qk
        refine bothL (i := 1) (j := 17) rfl rfl (by kernel_rfl) (fun K hK => ?_) (fun K hK => ?_)
        · skip
          refine step_convBB rfl 25 5 _ rfl Tryd.underlying25 Tryd.underlying5 rfl hb0 ?_
          intro w1 hcv qk1 hlt1
          have hcc := CellsK.of hb0 qk1 hcv
          have hr0 : Row .u8 w1 (some ⟨g0, 0, none⟩) 4 L0 := HLS.out.1.symm ▸ (hb0.row8 (n := 4) magic_bytes rfl (by omega)).keepC hcc
          have hKx : Keeps Nil v0 w1 := hKw.step qk1 (fun i hi => .inr (by rw [show i = g0 from hi]; exact hg0v))
          refine (fun hHeld => hK _ _ hHeld ?_) (⟨hKx.cell c1 (fun h => h), hKx.cell c2 (fun h => h), hKx.cell c3 (fun h => h)⟩)
          clear hK
          try simp only [Act.put, List.setIfInBounds_toArray, List.set_cons_zero, List.set_cons_succ]
          try (replace hr6 := hr6.keepC hcc)
          try (replace hr12 := hr12.keepC hcc)
          try (replace hr17 := hr17.keepC hcc)
          replace hKw := hKx
          clear hKx hcc qk1 hcv hlt1 hb0
          refine onlyL (i := 17) rfl (by kernel_rfl) (fun K hK => ?_)
          go_simp
          refine (HB2.out _).mono ?_
          rintro e w17 ⟨g17, rfl, hr17, qk, hf17⟩
          clear hf17
          refine (fun hHeld => hK _ _ hHeld ?_) (⟨(hKw.trans qk).cell c1 (fun h => h), (hKw.trans qk).cell c2 (fun h => h), (hKw.trans qk).cell c3 (fun h => h)⟩)
          clear hK
          try simp only [Act.put, List.setIfInBounds_toArray, List.set_cons_zero, List.set_cons_succ]
          replace hKw := hKw.trans qk
          replace hr12 := hr12.keep qk
          replace hr6 := hr6.keep qk
          replace hr0 := hr0.keep qk
          refine onlyL (i := 18) rfl (by kernel_rfl) (fun K hK => ?_)
          refine step_bsK rfl 83 25 4 _ rfl [.slice (some ⟨g0, 0, none⟩) 4 4, .slice (some ⟨g6, 0, none⟩) 4 4, .slice (some ⟨g12, 0, none⟩) 1 1, .slice (some ⟨g17, 0, none⟩) 4 4] Tryd.underlying83 Tryd.bsSl4 rfl (by decide) (by decide) (by simp [Act.eval]) (by simp [Value.cells]) ?_
          intro g18 w18 hg18 hb18 qk18
          clear hg18
          have hKx := hKw.trans qk18
          have hPx := pieces4 hb18 (hr0.keep qk18) (hr6.keep qk18) (hr12.keep qk18) (hr17.keep qk18)
          refine (fun hHeld => hK _ _ hHeld ?_) (⟨hKx.cell c1 (fun h => h), hKx.cell c2 (fun h => h), hKx.cell c3 (fun h => h)⟩)
          clear hK
          try simp only [Act.put, List.setIfInBounds_toArray, List.set_cons_zero, List.set_cons_succ]
          refine onlyL (i := 19) rfl (by kernel_rfl) (fun K hK => ?_)
          go_simp
          refine (HCC.out g18 g0 g6 g12 g17 w18 hPx).mono ?_
          rintro e w19 ⟨a19, c19, rfl, ho19, hk19, hf19⟩
          have hKy := hKx.trans hk19
          have hr19 := Own.row ho19 (areB_wf HLL.out.2.1)
          refine (fun hHeld => hK _ _ hHeld ?_) (⟨hKy.cell c1 (fun h => h), hKy.cell c2 (fun h => h), hKy.cell c3 (fun h => h)⟩)
          clear hK
          try simp only [Act.put, List.setIfInBounds_toArray, List.set_cons_zero, List.set_cons_succ]
          refine onlyL (i := 20) rfl (by kernel_rfl) (fun K hK => ?_)
          go_simp
          refine (sector_walk hr19 (fun e => by rw [e] at ho19; exact ho19.nilS) (by omega)).mono ?_
          rintro e w20 ⟨g20, c20, rfl, ho20, hk20, hf20⟩
          have hKz := hKy.trans hk20
          refine (fun hHeld => hK _ _ hHeld ?_) (⟨hKz.cell c1 (fun h => h), hKz.cell c2 (fun h => h), hKz.cell c3 (fun h => h)⟩)
          clear hK
          try simp only [Act.put, List.setIfInBounds_toArray, List.set_cons_zero, List.set_cons_succ]
          refine takeL (i := 21) (v := _) rfl (by kernel_rfl) (by kernel_rfl) (by kernel_rfl) (fun _ _ _ h => h) (Or.inl ⟨by rfl, by intro w hSw; (try dsimp only at hSw); go_simp; try with_reducible rfl⟩) (by assumption) ?_
          try simp only [Act.put, List.setIfInBounds_toArray, List.set_cons_zero, List.set_cons_succ]
          refine wpAnyH_done (by kernel_rfl) ?_ _
          have HF : Hid (Own w20 5 1 (some ⟨g20, 0, none⟩) c20 128 (byteV HD) ∧ Keeps Nil w w20 ∧ w.heap.size ≤ g20) := Lib.hid ⟨by rw [HLL.out.2.2]; exact ho20, HKD.out.trans hKz, by have := HKD.out.size; have := hKy.size; omega⟩
          clear hHeld hKx hKy hKz hr19 ho19 ho20 hk19 hk20 hf19 hf20 hb18 qk18 hPx
          go_wp2_with fail
          go_ret
          exact ⟨g20, c20, rfl, HF.out.1, HF.out.2.1, HF.out.2.2⟩
        · skip
          go_simp
          refine (HB2.out _).mono ?_
          rintro e w17 ⟨g17, rfl, hr17, qk, hf17⟩
          clear hf17
          refine (fun hHeld => hK _ _ hHeld ?_) (⟨(hKw.trans qk).cell c1 (fun h => h), (hKw.trans qk).cell c2 (fun h => h), (hKw.trans qk).cell c3 (fun h => h)⟩)
          clear hK
          try simp only [Act.put, List.setIfInBounds_toArray, List.set_cons_zero, List.set_cons_succ]
          replace hKw := hKw.trans qk
          replace hr12 := hr12.keep qk
          replace hb0 := hb0.keep0 qk
          replace hr6 := hr6.keep qk
          refine onlyL (i := 1) rfl (by kernel_rfl) (fun K hK => ?_)
          refine step_convBB rfl 25 5 _ rfl Tryd.underlying25 Tryd.underlying5 rfl hb0 ?_
          intro w1 hcv qk1 hlt1
          have hcc := CellsK.of hb0 qk1 hcv
          have hr0 : Row .u8 w1 (some ⟨g0, 0, none⟩) 4 L0 := HLS.out.1.symm ▸ (hb0.row8 (n := 4) magic_bytes rfl (by omega)).keepC hcc
          have hKx : Keeps Nil v0 w1 := hKw.step qk1 (fun i hi => .inr (by rw [show i = g0 from hi]; exact hg0v))
          refine (fun hHeld => hK _ _ hHeld ?_) (⟨hKx.cell c1 (fun h => h), hKx.cell c2 (fun h => h), hKx.cell c3 (fun h => h)⟩)
          clear hK
          try simp only [Act.put, List.setIfInBounds_toArray, List.set_cons_zero, List.set_cons_succ]
          try (replace hr6 := hr6.keepC hcc)
          try (replace hr12 := hr12.keepC hcc)
          try (replace hr17 := hr17.keepC hcc)
          replace hKw := hKx
          clear hKx hcc qk1 hcv hlt1 hb0
          refine onlyL (i := 18) rfl (by kernel_rfl) (fun K hK => ?_)
          refine step_bsK rfl 83 25 4 _ rfl [.slice (some ⟨g0, 0, none⟩) 4 4, .slice (some ⟨g6, 0, none⟩) 4 4, .slice (some ⟨g12, 0, none⟩) 1 1, .slice (some ⟨g17, 0, none⟩) 4 4] Tryd.underlying83 Tryd.bsSl4 rfl (by decide) (by decide) (by simp [Act.eval]) (by simp [Value.cells]) ?_
          intro g18 w18 hg18 hb18 qk18
          clear hg18
          have hKx := hKw.trans qk18
          have hPx := pieces4 hb18 (hr0.keep qk18) (hr6.keep qk18) (hr12.keep qk18) (hr17.keep qk18)
          refine (fun hHeld => hK _ _ hHeld ?_) (⟨hKx.cell c1 (fun h => h), hKx.cell c2 (fun h => h), hKx.cell c3 (fun h => h)⟩)
          clear hK
          try simp only [Act.put, List.setIfInBounds_toArray, List.set_cons_zero, List.set_cons_succ]
          refine onlyL (i := 19) rfl (by kernel_rfl) (fun K hK => ?_)
          go_simp
          refine (HCC.out g18 g0 g6 g12 g17 w18 hPx).mono ?_
          rintro e w19 ⟨a19, c19, rfl, ho19, hk19, hf19⟩
          have hKy := hKx.trans hk19
          have hr19 := Own.row ho19 (areB_wf HLL.out.2.1)
          refine (fun hHeld => hK _ _ hHeld ?_) (⟨hKy.cell c1 (fun h => h), hKy.cell c2 (fun h => h), hKy.cell c3 (fun h => h)⟩)
          clear hK
          try simp only [Act.put, List.setIfInBounds_toArray, List.set_cons_zero, List.set_cons_succ]
          refine onlyL (i := 20) rfl (by kernel_rfl) (fun K hK => ?_)
          go_simp
          refine (sector_walk hr19 (fun e => by rw [e] at ho19; exact ho19.nilS) (by omega)).mono ?_
          rintro e w20 ⟨g20, c20, rfl, ho20, hk20, hf20⟩
          have hKz := hKy.trans hk20
          refine (fun hHeld => hK _ _ hHeld ?_) (⟨hKz.cell c1 (fun h => h), hKz.cell c2 (fun h => h), hKz.cell c3 (fun h => h)⟩)
          clear hK
          try simp only [Act.put, List.setIfInBounds_toArray, List.set_cons_zero, List.set_cons_succ]
          refine takeL (i := 21) (v := _) rfl (by kernel_rfl) (by kernel_rfl) (by kernel_rfl) (fun _ _ _ h => h) (Or.inl ⟨by rfl, by intro w hSw; (try dsimp only at hSw); go_simp; try with_reducible rfl⟩) (by assumption) ?_
          try simp only [Act.put, List.setIfInBounds_toArray, List.set_cons_zero, List.set_cons_succ]
          refine wpAnyH_done (by kernel_rfl) ?_ _
          have HF : Hid (Own w20 5 1 (some ⟨g20, 0, none⟩) c20 128 (byteV HD) ∧ Keeps Nil w w20 ∧ w.heap.size ≤ g20) := Lib.hid ⟨by rw [HLL.out.2.2]; exact ho20, HKD.out.trans hKz, by have := HKD.out.size; have := hKy.size; omega⟩
          clear hHeld hKx hKy hKz hr19 ho19 ho20 hk19 hk20 hf19 hf20 hb18 qk18 hPx
          go_wp2_with fail
          go_ret
          exact ⟨g20, c20, rfl, HF.out.1, HF.out.2.1, HF.out.2.2⟩
    · skip
      go_simp
      refine (HB1.out _).mono ?_
      rintro e w6 ⟨g6, rfl, hr6, qk, hf6⟩
      have hg6v : v0.heap.size ≤ g6 := Nat.le_trans hKw.size hf6
      clear hf6
      refine (fun hHeld => hK _ _ hHeld ?_) (⟨(hKw.trans qk).cell c1 (fun h => h), (hKw.trans qk).cell c2 (fun h => h), (hKw.trans qk).cell c3 (fun h => h)⟩)
      clear hK
      try simp only [Act.put, List.setIfInBounds_toArray, List.set_cons_zero, List.set_cons_succ]
      replace hKw := hKw.trans qk
      replace hr12 := hr12.keep qk
      refine bothL (i := 0) (j := 17) rfl rfl (by kernel_rfl) (fun K hK => ?_) (fun K hK => ?_)
      · skip
        refine step_bsK rfl 25 5 4 _ rfl (byteV magicL) Tryd.underlying25 Tryd.bs8 rfl (by decide) (by decide) (by simp [Act.eval, byteV, magicL]) (by simp [Value.cells, byteV, magicL]) ?_
        intro g0 w0 hg0 hb0 qk
        have hg0v : v0.heap.size ≤ g0 := by have := hKw.size; omega
        clear hg0
        refine (fun hHeld => hK _ _ hHeld ?_) (⟨(hKw.trans qk).cell c1 (fun h => h), (hKw.trans qk).cell c2 (fun h => h), (hKw.trans qk).cell c3 (fun h => h)⟩)
        clear hK
        try simp only [Act.put, List.setIfInBounds_toArray, List.set_cons_zero, List.set_cons_succ]
        replace hKw := hKw.trans qk
        replace hr12 := hr12.keep qk
        replace hr6 := hr6.keep qk
        refine bothL (i := 1) (j := 17) rfl rfl (by kernel_rfl) (fun K hK => ?_) (fun K hK => ?_)
        · skip
          refine step_convBB rfl 25 5 _ rfl Tryd.underlying25 Tryd.underlying5 rfl hb0 ?_
          intro w1 hcv qk1 hlt1
          have hcc := CellsK.of hb0 qk1 hcv
          have hr0 : Row .u8 w1 (some ⟨g0, 0, none⟩) 4 L0 := HLS.out.1.symm ▸ (hb0.row8 (n := 4) magic_bytes rfl (by omega)).keepC hcc
          have hKx : Keeps Nil v0 w1 := hKw.step qk1 (fun i hi => .inr (by rw [show i = g0 from hi]; exact hg0v))
          refine (fun hHeld => hK _ _ hHeld ?_) (⟨hKx.cell c1 (fun h => h), hKx.cell c2 (fun h => h), hKx.cell c3 (fun h => h)⟩)
          clear hK
          try simp only [Act.put, List.setIfInBounds_toArray, List.set_cons_zero, List.set_cons_succ]
          try (replace hr6 := hr6.keepC hcc)
          try (replace hr12 := hr12.keepC hcc)
          try (replace hr17 := hr17.keepC hcc)
          replace hKw := hKx
          clear hKx hcc qk1 hcv hlt1 hb0
          refine onlyL (i := 17) rfl (by kernel_rfl) (fun K hK => ?_)
          go_simp
          refine (HB2.out _).mono ?_
          rintro e w17 ⟨g17, rfl, hr17, qk, hf17⟩
          clear hf17
          refine (fun hHeld => hK _ _ hHeld ?_) (⟨(hKw.trans qk).cell c1 (fun h => h), (hKw.trans qk).cell c2 (fun h => h), (hKw.trans qk).cell c3 (fun h => h)⟩)
          clear hK
          try simp only [Act.put, List.setIfInBounds_toArray, List.set_cons_zero, List.set_cons_succ]
          replace hKw := hKw.trans qk
          replace hr12 := hr12.keep qk
          replace hr6 := hr6.keep qk
          replace hr0 := hr0.keep qk
          refine onlyL (i := 18) rfl (by kernel_rfl) (fun K hK => ?_)
          refine step_bsK rfl 83 25 4 _ rfl [.slice (some ⟨g0, 0, none⟩) 4 4, .slice (some ⟨g6, 0, none⟩) 4 4, .slice (some ⟨g12, 0, none⟩) 1 1, .slice (some ⟨g17, 0, none⟩) 4 4] Tryd.underlying83 Tryd.bsSl4 rfl (by decide) (by decide) (by simp [Act.eval]) (by simp [Value.cells]) ?_
          intro g18 w18 hg18 hb18 qk18
          clear hg18
          have hKx := hKw.trans qk18
          have hPx := pieces4 hb18 (hr0.keep qk18) (hr6.keep qk18) (hr12.keep qk18) (hr17.keep qk18)
          refine (fun hHeld => hK _ _ hHeld ?_) (⟨hKx.cell c1 (fun h => h), hKx.cell c2 (fun h => h), hKx.cell c3 (fun h => h)⟩)
          clear hK
          try simp only [Act.put, List.setIfInBounds_toArray, List.set_cons_zero, List.set_cons_succ]
          refine onlyL (i := 19) rfl (by kernel_rfl) (fun K hK => ?_)
          go_simp
          refine (HCC.out g18 g0 g6 g12 g17 w18 hPx).mono ?_
          rintro e w19 ⟨a19, c19, rfl, ho19, hk19, hf19⟩
          have hKy := hKx.trans hk19
          have hr19 := Own.row ho19 (areB_wf HLL.out.2.1)
          refine (fun hHeld => hK _ _ hHeld ?_) (⟨hKy.cell c1 (fun h => h), hKy.cell c2 (fun h => h), hKy.cell c3 (fun h => h)⟩)
          clear hK
          try simp only [Act.put, List.setIfInBounds_toArray, List.set_cons_zero, List.set_cons_succ]
          refine onlyL (i := 20) rfl (by kernel_rfl) (fun K hK => ?_)
          go_simp
          refine (sector_walk hr19 (fun e => by rw [e] at ho19; exact ho19.nilS) (by omega)).mono ?_
          rintro e w20 ⟨g20, c20, rfl, ho20, hk20, hf20⟩
          have hKz := hKy.trans hk20
          refine (fun hHeld => hK _ _ hHeld ?_) (⟨hKz.cell c1 (fun h => h), hKz.cell c2 (fun h => h), hKz.cell c3 (fun h => h)⟩)
          clear hK
          try simp only [Act.put, List.setIfInBounds_toArray, List.set_cons_zero, List.set_cons_succ]
          refine takeL (i := 21) (v := _) rfl (by kernel_rfl) (by kernel_rfl) (by kernel_rfl) (fun _ _ _ h => h) (Or.inl ⟨by rfl, by intro w hSw; (try dsimp only at hSw); go_simp; try with_reducible rfl⟩) (by assumption) ?_
          try simp only [Act.put, List.setIfInBounds_toArray, List.set_cons_zero, List.set_cons_succ]
          refine wpAnyH_done (by kernel_rfl) ?_ _
          have HF : Hid (Own w20 5 1 (some ⟨g20, 0, none⟩) c20 128 (byteV HD) ∧ Keeps Nil w w20 ∧ w.heap.size ≤ g20) := Lib.hid ⟨by rw [HLL.out.2.2]; exact ho20, HKD.out.trans hKz, by have := HKD.out.size; have := hKy.size; omega⟩
          clear hHeld hKx hKy hKz hr19 ho19 ho20 hk19 hk20 hf19 hf20 hb18 qk18 hPx
          go_wp2_with fail
          go_ret
          exact ⟨g20, c20, rfl, HF.out.1, HF.out.2.1, HF.out.2.2⟩
        · skip
          go_simp
          refine (HB2.out _).mono ?_
          rintro e w17 ⟨g17, rfl, hr17, qk, hf17⟩
          clear hf17
          refine (fun hHeld => hK _ _ hHeld ?_) (⟨(hKw.trans qk).cell c1 (fun h => h), (hKw.trans qk).cell c2 (fun h => h), (hKw.trans qk).cell c3 (fun h => h)⟩)
          clear hK
          try simp only [Act.put, List.setIfInBounds_toArray, List.set_cons_zero, List.set_cons_succ]
          replace hKw := hKw.trans qk
          replace hr12 := hr12.keep qk
          replace hr6 := hr6.keep qk
          replace hb0 := hb0.keep0 qk
          refine onlyL (i := 1) rfl (by kernel_rfl) (fun K hK => ?_)
          refine step_convBB rfl 25 5 _ rfl Tryd.underlying25 Tryd.underlying5 rfl hb0 ?_
          intro w1 hcv qk1 hlt1
          have hcc := CellsK.of hb0 qk1 hcv
          have hr0 : Row .u8 w1 (some ⟨g0, 0, none⟩) 4 L0 := HLS.out.1.symm ▸ (hb0.row8 (n := 4) magic_bytes rfl (by omega)).keepC hcc
          have hKx : Keeps Nil v0 w1 := hKw.step qk1 (fun i hi => .inr (by rw [show i = g0 from hi]; exact hg0v))
          refine (fun hHeld => hK _ _ hHeld ?_) (⟨hKx.cell c1 (fun h => h), hKx.cell c2 (fun h => h), hKx.cell c3 (fun h => h)⟩)
          clear hK
          try simp only [Act.put, List.setIfInBounds_toArray, List.set_cons_zero, List.set_cons_succ]
          try (replace hr6 := hr6.keepC hcc)
          try (replace hr12 := hr12.keepC hcc)
          try (replace hr17 := hr17.keepC hcc)
          replace hKw := hKx
          clear hKx hcc qk1 hcv hlt1 hb0
          refine onlyL (i := 18) rfl (by kernel_rfl) (fun K hK => ?_)
          refine step_bsK rfl 83 25 4 _ rfl [.slice (some ⟨g0, 0, none⟩) 4 4, .slice (some ⟨g6, 0, none⟩) 4 4, .slice (some ⟨g12, 0, none⟩) 1 1, .slice (some ⟨g17, 0, none⟩) 4 4] Tryd.underlying83 Tryd.bsSl4 rfl (by decide) (by decide) (by simp [Act.eval]) (by simp [Value.cells]) ?_
          intro g18 w18 hg18 hb18 qk18
          clear hg18
          have hKx := hKw.trans qk18
          have hPx := pieces4 hb18 (hr0.keep qk18) (hr6.keep qk18) (hr12.keep qk18) (hr17.keep qk18)
          refine (fun hHeld => hK _ _ hHeld ?_) (⟨hKx.cell c1 (fun h => h), hKx.cell c2 (fun h => h), hKx.cell c3 (fun h => h)⟩)
          clear hK
          try simp only [Act.put, List.setIfInBounds_toArray, List.set_cons_zero, List.set_cons_succ]
          refine onlyL (i := 19) rfl (by kernel_rfl) (fun K hK => ?_)
          go_simp
          refine (HCC.out g18 g0 g6 g12 g17 w18 hPx).mono ?_
          rintro e w19 ⟨a19, c19, rfl, ho19, hk19, hf19⟩
          have hKy := hKx.trans hk19
          have hr19 := Own.row ho19 (areB_wf HLL.out.2.1)
          refine (fun hHeld => hK _ _ hHeld ?_) (⟨hKy.cell c1 (fun h => h), hKy.cell c2 (fun h => h), hKy.cell c3 (fun h => h)⟩)
          clear hK
          try simp only [Act.put, List.setIfInBounds_toArray, List.set_cons_zero, List.set_cons_succ]
          refine onlyL (i := 20) rfl (by kernel_rfl) (fun K hK => ?_)
          go_simp
          refine (sector_walk hr19 (fun e => by rw [e] at ho19; exact ho19.nilS) (by omega)).mono ?_
          rintro e w20 ⟨g20, c20, rfl, ho20, hk20, hf20⟩
          have hKz := hKy.trans hk20
          refine (fun hHeld => hK _ _ hHeld ?_) (⟨hKz.cell c1 (fun h => h), hKz.cell c2 (fun h => h), hKz.cell c3 (fun h => h)⟩)
          clear hK
          try simp only [Act.put, List.setIfInBounds_toArray, List.set_cons_zero, List.set_cons_succ]
          refine takeL (i := 21) (v := _) rfl (by kernel_rfl) (by kernel_rfl) (by kernel_rfl) (fun _ _ _ h => h) (Or.inl ⟨by rfl, by intro w hSw; (try dsimp only at hSw); go_simp; try with_reducible rfl⟩) (by assumption) ?_
          try simp only [Act.put, List.setIfInBounds_toArray, List.set_cons_zero, List.set_cons_succ]
          refine wpAnyH_done (by kernel_rfl) ?_ _
          have HF : Hid (Own w20 5 1 (some ⟨g20, 0, none⟩) c20 128 (byteV HD) ∧ Keeps Nil w w20 ∧ w.heap.size ≤ g20) := Lib.hid ⟨by rw [HLL.out.2.2]; exact ho20, HKD.out.trans hKz, by have := HKD.out.size; have := hKy.size; omega⟩
          clear hHeld hKx hKy hKz hr19 ho19 ho20 hk19 hk20 hf19 hf20 hb18 qk18 hPx
          go_wp2_with fail
          go_ret
          exact ⟨g20, c20, rfl, HF.out.1, HF.out.2.1, HF.out.2.2⟩
      · skip
        go_simp
        refine (HB2.out _).mono ?_
        rintro e w17 ⟨g17, rfl, hr17, qk, hf17⟩
        clear hf17
        refine (fun hHeld => hK _ _ hHeld ?_) (⟨(hKw.trans qk).cell c1 (fun h => h), (hKw.trans qk).cell c2 (fun h => h), (hKw.trans qk).cell c3 (fun h => h)⟩)
        clear hK
        try simp only [Act.put, List.setIfInBounds_toArray, List.set_cons_zero, List.set_cons_succ]
        replace hKw := hKw.trans qk
        replace hr12 := hr12.keep qk
        replace hr6 := hr6.keep qk
        refine onlyL (i := 0) rfl (by kernel_rfl) (fun K hK => ?_)
        refine step_bsK rfl 25 5 4 _ rfl (byteV magicL) Tryd.underlying25 Tryd.bs8 rfl (by decide) (by decide) (by simp [Act.eval, byteV, magicL]) (by simp [Value.cells, byteV, magicL]) ?_
        intro g0 w0 hg0 hb0 qk
        have hg0v : v0.heap.size ≤ g0 := by have := hKw.size; omega
        clear hg0
        refine (fun hHeld => hK _ _ hHeld ?_) (⟨(hKw.trans qk).cell c1 (fun h => h), (hKw.trans qk).cell c2 (fun h => h), (hKw.trans qk).cell c3 (fun h => h)⟩)
        clear hK
        try simp only [Act.put, List.setIfInBounds_toArray, List.set_cons_zero, List.set_cons_succ]
        replace hKw := hKw.trans qk
        replace hr12 := hr12.keep qk
        replace hr6 := hr6.keep qk
        replace hr17 := hr17.keep qk
        refine onlyL (i := 1) rfl (by kernel_rfl) (fun K hK => ?_)
        refine step_convBB rfl 25 5 _ rfl Tryd.underlying25 Tryd.underlying5 rfl hb0 ?_
        intro w1 hcv qk1 hlt1
        have hcc := CellsK.of hb0 qk1 hcv
        have hr0 : Row .u8 w1 (some ⟨g0, 0, none⟩) 4 L0 := HLS.out.1.symm ▸ (hb0.row8 (n := 4) magic_bytes rfl (by omega)).keepC hcc
        have hKx : Keeps Nil v0 w1 := hKw.step qk1 (fun i hi => .inr (by rw [show i = g0 from hi]; exact hg0v))
        refine (fun hHeld => hK _ _ hHeld ?_) (⟨hKx.cell c1 (fun h => h), hKx.cell c2 (fun h => h), hKx.cell c3 (fun h => h)⟩)
        clear hK
        try simp only [Act.put, List.setIfInBounds_toArray, List.set_cons_zero, List.set_cons_succ]
        try (replace hr6 := hr6.keepC hcc)
        try (replace hr12 := hr12.keepC hcc)
        try (replace hr17 := hr17.keepC hcc)
        replace hKw := hKx
        clear hKx hcc qk1 hcv hlt1 hb0
        refine onlyL (i := 18) rfl (by kernel_rfl) (fun K hK => ?_)
        refine step_bsK rfl 83 25 4 _ rfl [.slice (some ⟨g0, 0, none⟩) 4 4, .slice (some ⟨g6, 0, none⟩) 4 4, .slice (some ⟨g12, 0, none⟩) 1 1, .slice (some ⟨g17, 0, none⟩) 4 4] Tryd.underlying83 Tryd.bsSl4 rfl (by decide) (by decide) (by simp [Act.eval]) (by simp [Value.cells]) ?_
        intro g18 w18 hg18 hb18 qk18
        clear hg18
        have hKx := hKw.trans qk18
        have hPx := pieces4 hb18 (hr0.keep qk18) (hr6.keep qk18) (hr12.keep qk18) (hr17.keep qk18)
        refine (fun hHeld => hK _ _ hHeld ?_) (⟨hKx.cell c1 (fun h => h), hKx.cell c2 (fun h => h), hKx.cell c3 (fun h => h)⟩)
        clear hK
        try simp only [Act.put, List.setIfInBounds_toArray, List.set_cons_zero, List.set_cons_succ]
        refine onlyL (i := 19) rfl (by kernel_rfl) (fun K hK => ?_)
        go_simp
        refine (HCC.out g18 g0 g6 g12 g17 w18 hPx).mono ?_
        rintro e w19 ⟨a19, c19, rfl, ho19, hk19, hf19⟩
        have hKy := hKx.trans hk19
        have hr19 := Own.row ho19 (areB_wf HLL.out.2.1)
        refine (fun hHeld => hK _ _ hHeld ?_) (⟨hKy.cell c1 (fun h => h), hKy.cell c2 (fun h => h), hKy.cell c3 (fun h => h)⟩)
        clear hK
        try simp only [Act.put, List.setIfInBounds_toArray, List.set_cons_zero, List.set_cons_succ]
        refine onlyL (i := 20) rfl (by kernel_rfl) (fun K hK => ?_)
        go_simp
        refine (sector_walk hr19 (fun e => by rw [e] at ho19; exact ho19.nilS) (by omega)).mono ?_
        rintro e w20 ⟨g20, c20, rfl, ho20, hk20, hf20⟩
        have hKz := hKy.trans hk20
        refine (fun hHeld => hK _ _ hHeld ?_) (⟨hKz.cell c1 (fun h => h), hKz.cell c2 (fun h => h), hKz.cell c3 (fun h => h)⟩)
        clear hK
        try simp only [Act.put, List.setIfInBounds_toArray, List.set_cons_zero, List.set_cons_succ]
        refine takeL (i := 21) (v := _) rfl (by kernel_rfl) (by kernel_rfl) (by kernel_rfl) (fun _ _ _ h => h) (Or.inl ⟨by rfl, by intro w hSw; (try dsimp only at hSw); go_simp; try with_reducible rfl⟩) (by assumption) ?_
        try simp only [Act.put, List.setIfInBounds_toArray, List.set_cons_zero, List.set_cons_succ]
        refine wpAnyH_done (by kernel_rfl) ?_ _
        have HF : Hid (Own w20 5 1 (some ⟨g20, 0, none⟩) c20 128 (byteV HD) ∧ Keeps Nil w w20 ∧ w.heap.size ≤ g20) := Lib.hid ⟨by rw [HLL.out.2.2]; exact ho20, HKD.out.trans hKz, by have := HKD.out.size; have := hKy.size; omega⟩
        clear hHeld hKx hKy hKz hr19 ho19 ho20 hk19 hk20 hf19 hf20 hb18 qk18 hPx
        go_wp2_with fail
        go_ret
        exact ⟨g20, c20, rfl, HF.out.1, HF.out.2.1, HF.out.2.2⟩
end Go.Proofs.YtkefbgkdkmkghaaDoor
