/-
  Package skip's Store: what is kept, a contract for each of its functions over the list of entries.
-/
import Derived.Test.YtokminiendnhoaaKeys
import Derived.Test.YtokminiendnhoaaVars
import Derived.Deep.RegionLaw
import Derived.Lib.SliceRun
namespace Go.Proofs.Ytokminiendnhoaa
set_option linter.unusedSimpArgs false
set_option linter.unusedVariables false
open Go.RowKit

/-- An entry: the other one's key, the message's key, the number. -/
abbrev Ent := List Int × List Int × Int
def entV (e : Ent) : List Value := byteV e.1 ++ (byteV e.2.1 ++ [.int .u32 e.2.2])
def entsV (l : List Ent) : List Value := l.flatMap entV
structure WfE (e : Ent) : Prop where
  l1 : e.1.length = 32
  l2 : e.2.1.length = 32
  b1 : AreB e.1
  b2 : AreB e.2.1
  n0 : 0 ≤ e.2.2
  n1 : e.2.2 < 4294967296
theorem WfE.len {e : Ent} (h : WfE e) : (entV e).length = 65 := by simp [entV, byteV, h.l1, h.l2]
theorem entsV_cons (e : Ent) (l : List Ent) : entsV (e :: l) = entV e ++ entsV l := rfl
theorem entsV_append (l r : List Ent) : entsV (l ++ r) = entsV l ++ entsV r := by simp [entsV]
theorem entsV_length {l : List Ent} (h : ∀ e ∈ l, WfE e) : (entsV l).length = l.length * 65 := by
  induction l with
  | nil => rfl
  | cons e l ih =>
    rw [entsV_cons, List.length_append, (h e (by simp)).len, ih (fun x hx => h x (by simp [hx])), List.length_cons]
    omega
theorem entsV_at {l : List Ent} (h : ∀ e ∈ l, WfE e) (i : Nat) (e : Ent) (hi : l[i]? = some e) (j : Nat) (v : Value) (hv : (entV e)[j]? = some v) : (entsV l)[i * 65 + j]? = some v := by
  induction l generalizing i with
  | nil => simp at hi
  | cons x l ih =>
    have hx := (h x (by simp)).len
    cases i with
    | zero =>
      simp at hi
      subst hi
      rw [entsV_cons, List.getElem?_append_left (by have := (List.getElem?_eq_some_iff.1 hv).1; omega)]
      simpa using hv
    | succ i =>
      simp at hi
      rw [entsV_cons, List.getElem?_append_right (by omega), hx, show (i + 1) * 65 + j - 65 = i * 65 + j by omega]
      exact ih (fun x hx => h x (by simp [hx])) i hi
theorem oneCell_byteV {l : List Int} : ∀ v ∈ byteV l, v.oneCell' = true := fun v hv => by obtain ⟨x, _, rfl⟩ := List.mem_map.1 hv; rfl
theorem oneCell_entV (e : Ent) : ∀ v ∈ entV e, v.oneCell' = true := fun v hv => by
  rcases List.mem_append.1 hv with h | h
  · exact oneCell_byteV v h
  · rcases List.mem_append.1 h with h | h
    · exact oneCell_byteV v h
    · simp at h; subst h; rfl
theorem oneCell_entsV (l : List Ent) : ∀ v ∈ entsV l, v.oneCell' = true := fun v hv => by
  obtain ⟨e, _, h⟩ := List.mem_flatMap.1 hv
  exact oneCell_entV e v h

/-- A store of entries at block g, of type T over elements of type E. -/
structure IsSt (T E : TypeId) (w : World) (g : Nat) (a : Option Addr) (cap : Nat) (l : List Ent) : Prop where
  obj : Blk w g [.slice a l.length cap] T
  arr : Own w E 65 a cap l.length (entsV l)
  ne : ¬ blkOf a g
  wf : ∀ e ∈ l, WfE e
def stOf (g : Nat) (a : Option Addr) : Nat → Prop := fun k => k = g ∨ blkOf a k
section
variable {T E : TypeId} {w w' : World} {g cap : Nat} {a : Option Addr} {l : List Ent}
theorem IsSt.keep {S : Nat → Prop} (h : IsSt T E w g a cap l) (hk : Keeps S w w') (hn : ∀ k, stOf g a k → ¬ S k) : IsSt T E w' g a cap l :=
  ⟨h.obj.keep hk (hn g (.inl rfl)), h.arr.keep hk (fun k hk' => hn k (.inr hk')), h.ne, h.wf⟩
theorem IsSt.keep0 (h : IsSt T E w g a cap l) (hk : Keeps Nil w w') : IsSt T E w' g a cap l := h.keep hk (fun _ _ h => h)
theorem IsSt.lt (h : IsSt T E w g a cap l) : ∀ k, stOf g a k → k < w.heap.size := fun k hk => by
  rcases hk with rfl | hk
  · exact h.obj.lt
  · exact h.arr.lt k hk
/-- The i-th entry's cells. -/
theorem own_ent (h : Own w E 65 a cap l.length (entsV l)) (hw : ∀ e ∈ l, WfE e) {i : Nat} {e : Ent} (hi : l[i]? = some e) : ∃ b, a = some ⟨b, 0, none⟩ ∧ b < w.heap.size ∧ w.rangeAt b (i * 65) (entV e) := by
  have hlt := (List.getElem?_eq_some_iff.1 hi).1
  obtain ⟨b, ha, hb, hr⟩ := h.some (by omega)
  refine ⟨b, ha, hb, fun j v hv => ?_⟩
  have := hr (i * 65 + j) v (entsV_at hw i e hi j v hv)
  simpa using this
end

theorem Try.infoKey : (Try.prog.info? 37).map (·.size) = some 32 := by kernel_rfl
theorem Try.infoEnt : (Try.prog.info? 42).map (·.size) = some 65 := by kernel_rfl
theorem Try.undKey : Try.prog.underlying 37 = some (.array 32 5) := by kernel_rfl
theorem Try.undEnt : ∃ fs, Try.prog.underlying 42 = some (.struct fs) := ⟨_, Try.underlying42⟩
theorem Try.undU8 : Try.prog.underlying 5 = some (.int .u8) := by kernel_rfl
theorem Try.sizeU8 : ∀ w, (sizeOf 5).run Try.prog w = .ok 1 w := fun w => by kernel_rfl
theorem Try.eqlK {l r : List Int} (hl : l.length = 32) (hr : r.length = 32) (bl : AreB l) (br : AreB r) (w : World) : (binOp .eql 37 (keyV l) (keyV r)).run Try.prog w = .ok (.bool (l == r)) w :=
  eqlKey 37 5 32 Try.undKey Try.undU8 Try.sizeU8 hl hr bl br w

theorem splice3 (z A B C : List Value) (hz : z.length = 65) (hA : A.length = 32) (hB : B.length = 32) (hC : C.length = 1) : splice (splice (splice z 0 A) 32 B) 64 C = A ++ (B ++ C) := by
  have e1 : splice z 0 A = A ++ z.drop 32 := by simp [splice, hA]
  have e2 : splice (A ++ z.drop 32) 32 B = A ++ B ++ z.drop 64 := by
    unfold splice
    rw [← hA, List.take_left, List.drop_append, hA]
    simp [hA, hB]
  rw [e1, e2]
  unfold splice
  rw [List.take_append_of_le_length (by simp; omega), List.take_of_length_le (by simp; omega), List.drop_eq_nil_of_le (by simp; omega)]
  simp
theorem Try.builtEnt {e : Ent} (he : WfE e) : Try.prog.built 42 [(0, keyV e.1), (1, keyV e.2.1), (2, .int .u32 e.2.2)] = some (entV e).toArray := by
  have h1 : (byteV e.1).length = 32 := by simp [byteV, he.l1]
  have h2 : (byteV e.2.1).length = 32 := by simp [byteV, he.l2]
  rw [built_struct (zc := List.replicate 64 (.int .u8 0) ++ [.int .u32 0]) (z := .agg (Array.replicate 64 (.int .u8 0) ++ #[.int .u32 0])) (places := [(0, 32), (32, 32), (64, 1)]) (by kernel_rfl) (by kernel_rfl) Try.underlying42 (by kernel_rfl)]
  rw [fill_step (off := 0) (size := 32) (vs := byteV e.1) rfl rfl h1 (by simp), fill_step (off := 32) (size := 32) (vs := byteV e.2.1) rfl rfl h2 (by rw [splice_length _ _ _ (by simp [h1])]; simp), fill_step (off := 64) (size := 1) (vs := [.int .u32 e.2.2]) rfl rfl rfl (by rw [splice_length _ _ _ (by rw [splice_length _ _ _ (by simp [h1])]; simp [h2]), splice_length _ _ _ (by simp [h1])]; simp)]
  rw [splice3 _ _ _ _ (by simp) h1 h2 rfl]
  rfl

/-- Is it that key's, of that number? -/
def isE (dh : List Int) (n : Int) (e : Ent) : Bool := e.1 == dh && e.2.2 == n
set_option maxRecDepth 20000 in
set_option maxHeartbeats 1600000 in
theorem entIs_walk (e : Ent) (he : WfE e) (dh : List Int) (n : Int) (gd gn : Nat) (w : World) (hd : dh.length = 32) (bd : AreB dh) (hgd : Blk w gd (byteV dh) 37) (hgn : Blk w gn [.int .u32 n] 38) :
    Calls Try.prog 32 #[.agg (entV e).toArray, .pointer (some ⟨gd, 0, none⟩), .pointer (some ⟨gn, 0, none⟩)] w fun r w' => r = .returned (.bool (isE dh n e)) ∧ Keeps Nil w w' := by
  have hq := Try.eqlK he.l1 hd he.b1 bd
  have hB := Blk.new w (entV e) 42
  have hk : Keeps Nil w (w.alloc (.cells (entV e).toArray 42)) := (Keeps.refl Nil w).alloc _
  have hgd1 := hgd.keep0 hk
  have hgn1 := hgn.keep0 hk
  have cn := hgn1.cell 0 (v := .int .u32 n) rfl
  have hN : (entV e)[64]? = some (.int .u32 e.2.2) := by
    unfold entV
    rw [List.getElem?_append_right (by simp [byteV, he.l1]), List.getElem?_append_right (by simp [byteV, he.l1, he.l2])]
    simp [byteV, he.l1, he.l2]
  have c64 := hB.cell 64 hN
  have hr0 : (w.alloc (.cells (entV e).toArray 42)).rangeAt w.heap.size 0 (byteV e.1) := hB.rangeAt 0 (fun j v hv => by
    unfold entV
    rw [List.getElem?_append_left (by have := (List.getElem?_eq_some_iff.1 hv).1; omega)]
    simpa using hv)
  have hl1 : (byteV e.1).length = 32 := by simp [byteV, he.l1]
  have hl2 : (byteV dh).length = 32 := by simp [byteV, hd]
  have HX := Lib.hid (And.intro hr0 (And.intro hgd1 (And.intro hl1 hl2)))
  clear hr0 hgd1 hgd hgn hgn1 hN hl1 hl2 hB
  go_enter Try.func32, Try.ntmps32
  go_wp2_with (first | (refine wpl_load_at rfl 37 _ rfl w.heap.size 0 rfl (byteV e.1) HX.out.1 _ Try.undKey rfl (by rw [HX.out.2.2.1]; exact Try.infoKey) ?_) | (refine wpl_load rfl 37 _ rfl gd rfl HX.out.2.1 _ Try.undKey rfl (by rw [HX.out.2.2.2]; exact Try.infoKey) ?_))
  all_goals
    go_ret
    exact ⟨by simp_all [isE], hk⟩

/-- The place of the first that is it; -1: none. -/
def findE (dh : List Int) (n : Int) : List Ent → Nat → Int
  | [], _ => -1
  | e :: l, i => if isE dh n e then (i : Int) else findE dh n l (i + 1)
def placeE (l : List Ent) (dh : List Int) (n : Int) : Int := findE dh n l 0
theorem findE_skip (dh : List Int) (n : Int) : ∀ (l : List Ent) (j i : Nat), (∀ t, t < j → ∀ e, l[t]? = some e → isE dh n e = false) → findE dh n l i = findE dh n (l.drop j) (i + j) := by
  intro l j
  induction j generalizing l with
  | zero => intro i _; rfl
  | succ j ih =>
    intro i h
    cases l with
    | nil => rfl
    | cons e l =>
      have h0 := h 0 (by omega) e rfl
      rw [findE, h0, List.drop_succ_cons, ih l (i + 1) (fun t ht e he => h (t + 1) (by omega) e (by simpa using he))]
      simp
      congr 1
      omega
set_option maxRecDepth 20000 in
set_option maxHeartbeats 1600000 in
theorem indexFunc_walk {w : World} {a : Option Addr} {cap : Nat} {l : List Ent} (ho : Own w 42 65 a cap l.length (entsV l)) (hw : ∀ e ∈ l, WfE e) (dh : List Int) (n : Int) (gd gn : Nat) (hd : dh.length = 32) (bd : AreB dh) (hgd : Blk w gd (byteV dh) 37) (hgn : Blk w gn [.int .u32 n] 38) :
    Calls Try.prog 31 #[.slice a l.length cap, .func (.func 32) #[] #[.pointer (some ⟨gd, 0, none⟩), .pointer (some ⟨gn, 0, none⟩)]] w fun r w' => r = .returned (.int .i64 (placeE l dh n)) ∧ Keeps Nil w w' := by
  have hm := ho.2.2.1
  have hc := ho.2.1
  unfold maxLen at hm
  have hF : ∀ (x : Value) w, (callFunc 32 #[x, .pointer (some ⟨gd, 0, none⟩), .pointer (some ⟨gn, 0, none⟩)]).run Try.prog w = .ok (.enter 32 #[x, .pointer (some ⟨gd, 0, none⟩), .pointer (some ⟨gn, 0, none⟩)]) w := fun _ _ => by kernel_rfl
  obtain ⟨fs, hu⟩ := Try.undEnt
  have HU := Lib.hid hu
  clear hu
  go_enter Try.func31, Try.ntmps31
  go_wp2_with fail
  go_loopw [8] (fun v wr => ∃ j : Nat, j ≤ l.length ∧ v = .int .i64 j ∧ Hid (Keeps Nil w wr) ∧ Hid (∀ t, t < j → ∀ e, l[t]? = some e → isE dh n e = false)) (fun v _ => l.length - (intOf v).toNat)
  case atStart => exact ⟨0, Nat.zero_le _, rfl, Keeps.refl _ _, fun t ht => by omega⟩
  case round =>
    obtain ⟨j, hj, rfl, hk, hall⟩ := hrel
    by_cases hlt : j < l.length
    · obtain ⟨e, he⟩ : ∃ e, l[j]? = some e := ⟨_, List.getElem?_eq_getElem hlt⟩
      have hwe := hw e (List.mem_of_getElem? he)
      obtain ⟨b, rfl, hb, hr⟩ := own_ent (ho.keep0 hk.out) hw he
      have hj0 : (0 : Int) ≤ j := by omega
      have hj1 : (j : Int) < l.length := by omega
      have hlen := hwe.len
      have HX := Lib.hid (And.intro he (And.intro hr hlen))
      have hent := entIs_walk e hwe dh n gd gn wr hd bd (hgd.keep0 hk.out) (hgn.keep0 hk.out)
      have HE := Lib.hid hent
      clear he hr hwe hlen hent ho
      generalize hL : l.length = L at *
      go_wp2_with (refine wpl_load_at rfl 42 _ rfl b (j * 65) rfl (entV e) HX.out.2.1 _ HU.out rfl (by rw [HX.out.2.2]; exact Try.infoEnt) ?_)
      refine HE.out.mono ?_
      rintro r w2 ⟨rfl, hk2⟩
      have hK := hk.out.trans hk2
      by_cases hq : isE dh n e = true
      · rw [hq]
        have hfin : placeE l dh n = (j : Int) := by
          unfold placeE
          rw [findE_skip dh n l j 0 hall.out, List.drop_eq_getElem_cons (by omega)]
          have : l[j]'(by omega) = e := by
            have := HX.out.1
            rw [List.getElem?_eq_getElem (by omega)] at this
            exact Option.some.inj this
          rw [this, findE, hq]
          simp
        have HF := Lib.hid hfin
        clear hfin hq
        go_wp2_with fail
        go_ret
        exact ⟨by rw [HF.out]; rfl, hK⟩
      · have hq' : isE dh n e = false := by simpa using hq
        rw [hq']
        have hall2 : ∀ t, t < j + 1 → ∀ e, l[t]? = some e → isE dh n e = false := fun t ht e' he' => by
          rcases Nat.lt_or_ge t j with h | h
          · exact hall.out t h e' he'
          · obtain rfl : t = j := by omega
            rw [HX.out.1] at he'
            rw [← Option.some.inj he']
            exact hq'
        have HA := Lib.hid hall2
        clear hall2 hq hq'
        go_wp2_with fail
        go_roundw
        case rel => first | exact ⟨j + 1, by omega, by go_num, hK, HA⟩ | ((repeat apply Exists.intro); exact ⟨⟨j + 1, by omega, by go_num, hK, HA⟩, rfl⟩)
        case measure => simp [intOf]; omega
    · obtain rfl : j = l.length := by omega
      have hfin : placeE l dh n = -1 := by
        unfold placeE
        rw [findE_skip dh n l l.length 0 hall.out, List.drop_length]
        rfl
      have HF := Lib.hid hfin
      clear hfin
      go_wp2_with fail
      go_ret
      exact ⟨by rw [HF.out]; rfl, hk.out⟩

theorem place_lt (l : List Ent) (dh : List Int) (n : Int) : placeE l dh n = -1 ∨ ∃ i : Nat, placeE l dh n = i ∧ i < l.length ∧ ∃ e, l[i]? = some e ∧ isE dh n e = true := by
  have : ∀ (l : List Ent) (k : Nat), findE dh n l k = -1 ∨ ∃ i : Nat, findE dh n l k = ((k + i : Nat) : Int) ∧ i < l.length ∧ ∃ e, l[i]? = some e ∧ isE dh n e = true := by
    intro l
    induction l with
    | nil => intro k; exact .inl rfl
    | cons e l ih =>
      intro k
      by_cases h : isE dh n e = true
      · exact .inr ⟨0, by simp [findE, h], by simp, e, rfl, h⟩
      · rcases ih (k + 1) with h1 | ⟨i, h1, h2, e', h3, h4⟩
        · exact .inl (by simp [findE, h, h1])
        · exact .inr ⟨i + 1, by simp [findE, h, h1]; omega, by simp; omega, e', by simpa using h3, h4⟩
  rcases this l 0 with h | ⟨i, h1, h2⟩
  · exact .inl h
  · exact .inr ⟨i, by simpa [placeE] using h1, h2⟩

set_option maxRecDepth 20000 in
set_option maxHeartbeats 800000 in
theorem find0_walk {w : World} {g cap : Nat} {a : Option Addr} {l : List Ent} (h : IsSt 34 42 w g a cap l) (dh : List Int) (n : Int) (hd : dh.length = 32) (bd : AreB dh) :
    Calls Try.prog 29 #[.pointer (some ⟨g, 0, none⟩), keyV dh, .int .u32 n] w fun r w' => r = .returned (.int .i64 (placeE l dh n)) ∧ Keeps Nil w w' := by
  have hmf : ∀ (fn : Fn) (first cap : Array Value) (w : World), (Instr.makeFunc fn first cap).run Try.prog w = .ok (.func fn first cap) w := fun _ _ _ _ => rfl
  have hV := ((Has.nil w).cons (byteV dh) 37 rfl).cons [.int .u32 n] 38 (n := w.heap.size + 1) (by simp [size_alloc'])
  have hk : Keeps Nil w ((w.alloc (.cells (byteV dh).toArray 37)).alloc (.cells #[.int .u32 n] 38)) := ((Keeps.refl Nil w).alloc _).alloc _
  have h1 := h.keep0 hk
  have c0 := h1.obj.cell 0 (v := .slice a l.length cap) rfl
  have HI := Lib.hid (indexFunc_walk h1.arr h.wf dh n w.heap.size (w.heap.size + 1) hd bd (hV.at 1 rfl) (hV.at 0 rfl))
  clear hV h h1
  go_enter Try.func29, Try.ntmps29
  go_wp2_with fail
  refine HI.out.mono ?_
  rintro r w2 ⟨rfl, hk2⟩
  go_wp2_with fail
  go_ret
  exact ⟨rfl, hk.trans hk2⟩

/-- 'clear' of one element. -/
theorem run_clear_one {P : Program} (w : World) (t e ty : TypeId) (z : Value) (ht : P.underlying t = some (.slice e)) (hv : ∀ w, (zeroValue e).run P w = .ok z w) (h1 : ∀ v ∈ z.cells.toList, v.oneCell' = true) (b o c : Nat)
    (hc : ∀ j, j < z.cells.size → (w.cell? ⟨b, o + j, none⟩).isSome = true) (hf : ∀ j, j < z.cells.size → w.frozen? ⟨b, o + j, none⟩ = false) :
    (Builtin.clear_ #[t] ty #[.slice (some ⟨b, o, none⟩) 1 c]).run P w = .ok (.tuple #[]) (w.setCells b o z.cells.toList) := by
  have hzc : Builtin.zeroCells z.cells 1 = z.cells := by
    unfold Builtin.zeroCells
    apply Array.ext
    · simp
    · intro i h1 h2
      simp only [Array.getElem_map, Array.getElem_range]
      rw [Nat.mod_eq_of_lt h2, getElem!_pos z.cells i h2]
  have hst := run_storeCells_cells (P := P) b o z.cells.toList 0 w (by simpa using hc) (by simpa using hf) h1
  simp only [Nat.add_zero] at hst
  simp [Builtin.clear_, run_underlying ht, hv, hzc, hst]
def zeroEnt : Value := .agg (Array.replicate 64 (.int .u8 0) ++ #[.int .u32 0])
theorem Try.zeroEnt (w : World) : (zeroValue 42).run Try.prog w = .ok zeroEnt w := by kernel_rfl
theorem zeroEnt_size : zeroEnt.cells.size = 65 := by kernel_rfl
theorem zeroEnt_len : zeroEnt.cells.toList.length = 65 := by kernel_rfl
theorem zeroEnt_one : (zeroEnt.cells.toList.all fun v => v.oneCell') = true := by kernel_rfl
theorem Try.infoEnt0 : (Try.prog.info? 42).map (fun i => (i.zero.map (·.cells.size), i.size, i.bytes)) = some (some 65, 65, 68) := by kernel_rfl

set_option maxRecDepth 20000 in
set_option maxHeartbeats 800000 in
theorem delete_walk {w : World} {b cap : Nat} {l : List Ent} {sp : List Value} (hb : Blk w b (entsV l ++ sp) 42) (hs : (entsV l ++ sp).length = cap * 65) (hc : l.length ≤ cap) (hm : cap ≤ maxLen) (hw : ∀ e ∈ l, WfE e) (i : Nat) (hi : i < l.length) :
    Calls Try.prog 27 #[.slice (some ⟨b, 0, none⟩) l.length cap, .int .i64 i, .int .i64 ((i : Int) + 1)] w fun r w' => r = .returned (.slice (some ⟨b, 0, none⟩) (l.length - 1) cap) ∧ Own w' 42 65 (some ⟨b, 0, none⟩) cap (l.length - 1) (entsV (l.eraseIdx i)) ∧ Keeps (One b) w w' := by
  have hm' := hm
  unfold maxLen at hm'
  have hlen := entsV_length hw
  have hlt : (entsV (l.take i)).length = i * 65 := by rw [entsV_length (fun e he => hw e (List.mem_of_mem_take he))]; simp; omega
  have hld : (entsV (l.drop (i + 1))).length = (l.length - (i + 1)) * 65 := by rw [entsV_length (fun e he => hw e (List.mem_of_mem_drop he))]; simp
  have hsplit : entsV l = entsV (l.take (i + 1)) ++ entsV (l.drop (i + 1)) := by rw [← entsV_append, List.take_append_drop]
  have hlt1 : (entsV (l.take (i + 1))).length = (i + 1) * 65 := by rw [entsV_length (fun e he => hw e (List.mem_of_mem_take he))]; simp; omega
  have htk : (entsV l ++ sp).take (i * 65) = entsV (l.take i) := by
    have : entsV l = entsV (l.take i) ++ entsV (l.drop i) := by rw [← entsV_append, List.take_append_drop]
    rw [this, List.append_assoc, ← hlt, List.take_left]
  have her : entsV (l.eraseIdx i) = entsV (l.take i) ++ entsV (l.drop (i + 1)) := by rw [List.eraseIdx_eq_take_drop_succ, entsV_append]
  obtain ⟨news, hnews⟩ : ∃ news, news = entsV (l.drop (i + 1)) := ⟨_, rfl⟩
  rw [← hnews] at hld her hsplit
  obtain ⟨A, hA, hsrc⟩ : ∃ A : Addr, (if cap = i + 1 then some (⟨b, 0, none⟩ : Addr) else some ⟨b, (i + 1) * 65, none⟩) = some A ∧ Hid (∀ t u, news[t]? = some u → w.drew.cell? (A.add t) = some u) := by
    by_cases h : cap = i + 1
    · refine ⟨⟨b, 0, none⟩, by simp [h], fun t u hu => ?_⟩
      have h0 : news.length = 0 := by rw [hld]; omega
      rw [List.length_eq_zero_iff.1 h0] at hu
      simp at hu
    · refine ⟨⟨b, (i + 1) * 65, none⟩, by simp [h], fun t u hu => ?_⟩
      rw [Addr.add_lit]
      refine hb.drew.cell _ ?_
      rw [hsplit, List.append_assoc, List.getElem?_append_right (by omega), hlt1, List.getElem?_append_left (by have := (List.getElem?_eq_some_iff.1 hu).1; omega)]
      rw [show (i + 1) * 65 + t - (i + 1) * 65 = t by omega]
      exact hu
  have s2 : Hid (∀ u ∈ news, u.oneCell' = true) := by rw [hnews]; exact oneCell_entsV _
  have hfit : 0 + i * 65 + news.length ≤ (entsV l ++ sp).length := by rw [hld, List.length_append, hlen]; omega
  have s3 : Hid (∀ t, t < news.length → (w.drew.cell? ⟨b, 0 + i * 65 + t, none⟩).isSome = true ∧ w.drew.frozen? ⟨b, 0 + i * 65 + t, none⟩ = false) := fun t ht => hb.drew.there hfit t ht
  obtain ⟨W1, hW1⟩ : ∃ W1, W1 = w.drew.setCells b (0 + i * 65) news := ⟨_, rfl⟩
  have hb1 : Blk W1 b (splice (entsV l ++ sp) (0 + i * 65) news) 42 := by rw [hW1]; exact hb.drew.setCells news _ hfit
  have hk1 : Keeps (One b) w W1 := by rw [hW1]; exact Keeps.setCells news _ ((Keeps.refl (One b) w).drew)
  have hcs : splice (entsV l ++ sp) (0 + i * 65) news = (entsV (l.eraseIdx i)) ++ (entsV l ++ sp).drop (i * 65 + news.length) := by
    unfold splice
    rw [Nat.zero_add, htk, her]
  rw [hcs] at hb1
  have hel : (entsV (l.eraseIdx i)).length = (l.length - 1) * 65 := by rw [her, List.length_append, hlt, hld]; omega
  have hdl : ((entsV l ++ sp).drop (i * 65 + news.length)).length = 65 + sp.length := by rw [List.length_drop, List.length_append, hlen, hld]; omega
  generalize (entsV l ++ sp).drop (i * 65 + news.length) = rest at *
  have hfit2 : (l.length - 1) * 65 + zeroEnt.cells.toList.length ≤ (entsV (l.eraseIdx i) ++ rest).length := by rw [List.length_append, hel, hdl, zeroEnt_len]; omega
  have hsz : zeroEnt.cells.toList.length = zeroEnt.cells.size := Array.length_toList
  have hcl : ∀ ty c, (Builtin.clear_ #[32] ty #[.slice (some ⟨b, (l.length - 1) * 65, none⟩) 1 c]).run Try.prog W1 = .ok (.tuple #[]) (W1.setCells b ((l.length - 1) * 65) zeroEnt.cells.toList) :=
    fun ty c => run_clear_one W1 _ _ ty _ Try.underlying32 Try.zeroEnt (fun v hv => List.all_eq_true.1 zeroEnt_one v hv) b _ c (fun j hj => (hb1.there hfit2 j (by omega)).1) (fun j hj => (hb1.there hfit2 j (by omega)).2)
  have hb2 := hb1.setCells zeroEnt.cells.toList _ hfit2
  have hk2 := Keeps.setCells zeroEnt.cells.toList ((l.length - 1) * 65) hk1
  have hcs2 : splice (entsV (l.eraseIdx i) ++ rest) ((l.length - 1) * 65) zeroEnt.cells.toList = entsV (l.eraseIdx i) ++ (zeroEnt.cells.toList ++ rest.drop zeroEnt.cells.toList.length) := by
    unfold splice
    rw [← hel, List.take_left, List.append_assoc, List.drop_append]
    simp
  rw [hcs2] at hb2
  have hown : Own (W1.setCells b ((l.length - 1) * 65) zeroEnt.cells.toList) 42 65 (some ⟨b, 0, none⟩) cap (l.length - 1) (entsV (l.eraseIdx i)) := by
    refine ⟨hel, by omega, hm, .inr ⟨b, _, rfl, hb2, ?_⟩⟩
    rw [List.length_append, List.length_append, List.length_drop, hel, hdl, zeroEnt_len]
    rw [List.length_append, hlen] at hs
    omega
  have s1 : Hid (news.length = (l.length - (i + 1)) * 65) := hld
  have HF := Lib.hid (And.intro hown hk2)
  have HW := Lib.hid hW1
  have hL1 : l.length - (i + (l.length - (i + 1))) = 1 := by omega
  have hL2 : i + (l.length - (i + 1)) = l.length - 1 := by omega
  have HL := Lib.hid (And.intro hL1 hL2)
  obtain ⟨i0, hi0, hp0⟩ := Option.map_eq_some_iff.1 Try.infoEnt0
  simp only [Prod.mk.injEq] at hp0
  have hz1 := hp0.2.1
  clear hp0
  clear hown hk2 hb2 hcs2 hsz hfit2 hdl hel hcs hk1 hb1 hW1 hfit her htk hlt1 hsplit hlt hlen hb hs hw hnews hld hL1 hL2
  have hne : ((i : Int) == (i : Int) + 1) = false := by rw [beq_eq_false_iff_ne]; omega
  have hi0' : (0 : Int) ≤ i := by omega
  have hi1 : (i : Int) + 1 ≤ l.length := by omega
  have h01 : (0 : Int) ≤ (i : Int) + 1 := by omega
  have hic : i ≤ cap := by omega
  have hiL : i + 1 ≤ l.length := by omega
  have hiL2 : i ≤ l.length := by omega
  have hii : ((i : Int) + 1).toNat = i + 1 := by omega
  generalize hL : l.length = L at *
  generalize zeroEnt.cells.toList = zs at *
  go_enter Try.func27, Try.ntmps27
  go_wp2_with fail
  go_region_law (refine step_append_room rfl (.tmp 22) (.tmp 25) 32 rfl 42 i0 65 Try.underlying32 hi0 hz1 b 0 i cap (by simp [Act.eval, Act.put]) A (L - (i + 1)) (cap - (i + 1)) news (by simp [Act.eval, Act.put]) s1.out hsrc.out s2.out (by omega) s3.out ?_; rw [← HW.out, HL.out.2])
  have hn1 : ¬ cap = L - 1 := by omega
  have hn2 : L - (L - 1) = 1 := by omega
  have hn3 : L - 1 ≤ L := by omega
  go_wp2_with fail
  go_ret
  exact ⟨rfl, HF.out⟩

/-- Without the one that is it. -/
def takeE (l : List Ent) (dh : List Int) (n : Int) : List Ent := if placeE l dh n = -1 then l else l.eraseIdx (placeE l dh n).toNat
def hasE (l : List Ent) (dh : List Int) (n : Int) : Bool := decide (0 ≤ placeE l dh n)
theorem takeE_wf {l : List Ent} (h : ∀ e ∈ l, WfE e) (dh : List Int) (n : Int) : ∀ e ∈ takeE l dh n, WfE e := by
  unfold takeE
  split
  · exact h
  · exact fun e he => h e (List.mem_of_mem_eraseIdx he)
theorem takeE_length (l : List Ent) (dh : List Int) (n : Int) : (takeE l dh n).length ≤ l.length := by
  unfold takeE
  split
  · exact Nat.le_refl _
  · exact List.length_eraseIdx_le _ _
theorem skipBlkOf {b : Nat} : blkOf (some ⟨b, 0, none⟩) = One b := by
  funext k
  exact propext (blkOf_some _ _ _ _)
/-- Behind Delete, stored. -/
theorem IsSt.deleted {T E : TypeId} {w w2 : World} {g b cap : Nat} {l l' : List Ent} (h : IsSt T E w g (some ⟨b, 0, none⟩) cap l) (ho : Own w2 E 65 (some ⟨b, 0, none⟩) cap l'.length (entsV l')) (hk : Keeps (One b) w w2) (hw : ∀ e ∈ l', WfE e) :
    IsSt T E (w2.setCell ⟨g, 0, none⟩ (.slice (some ⟨b, 0, none⟩) l'.length cap)) g (some ⟨b, 0, none⟩) cap l' ∧ Keeps (stOf g (some ⟨b, 0, none⟩)) w (w2.setCell ⟨g, 0, none⟩ (.slice (some ⟨b, 0, none⟩) l'.length cap)) := by
  have hne : g ≠ b := fun e => h.ne ((blkOf_some _ _ _ _).2 e)
  have hb2 := h.obj.keep hk hne
  refine ⟨⟨hb2.set 0 _, ho.keep ((Keeps.refl (One g) w2).setOne 0 _) (fun k hk' e => hne (by rw [← (blkOf_some _ _ _ _).1 hk']; exact e.symm)), h.ne, hw⟩, ?_⟩
  exact (hk.mono (fun i hi => .inr ((blkOf_some _ _ _ _).2 hi))).setCell (p := ⟨g, 0, none⟩) (.inl (.inl rfl)) _

/-- What append left, stored. -/
theorem IsSt.stored {T E : TypeId} {w w1 w2 : World} {g cap cap' : Nat} {a a' : Option Addr} {l l' : List Ent} (h : IsSt T E w g a cap l) (hk1 : Keeps Nil w w1) (ho : Own w2 E 65 a' cap' l'.length (entsV l')) (hk : Keeps (blkOf a) w1 w2) (hf : ∀ k, blkOf a' k → blkOf a k ∨ w.heap.size ≤ k) (hw : ∀ e ∈ l', WfE e) :
    IsSt T E (w2.setCell ⟨g, 0, none⟩ (.slice a' l'.length cap')) g a' cap' l' ∧ Keeps (stOf g a) w (w2.setCell ⟨g, 0, none⟩ (.slice a' l'.length cap')) ∧ ∀ k, stOf g a' k → stOf g a k ∨ w.heap.size ≤ k := by
  have hlt := h.obj.lt
  have hne : ¬ blkOf a' g := fun h' => by
    rcases hf g h' with h'' | h''
    · exact h.ne h''
    · omega
  have hb2 := (h.obj.keep0 hk1).keep hk h.ne
  refine ⟨⟨hb2.set 0 _, ho.keep ((Keeps.refl (One g) w2).setOne 0 _) (fun k hk' e => hne (by rw [← show k = g from e]; exact hk')), hne, hw⟩, ?_, ?_⟩
  · refine (((hk1.nil (S := stOf g a)).step hk (fun i hi => .inl (.inr hi)))).setCell (p := ⟨g, 0, none⟩) (.inl (.inl rfl)) _
  · intro k hk'
    rcases hk' with rfl | hk'
    · exact .inl (.inl rfl)
    · rcases hf k hk' with h' | h'
      · exact .inl (.inr h')
      · exact .inr h'

def TakePost (T E : TypeId) (g : Nat) (a : Option Addr) (cap : Nat) (l : List Ent) (dh : List Int) (n : Int) (w : World) (r : Ending) (w' : World) : Prop :=
  r = .returned (.bool (hasE l dh n)) ∧ IsSt T E w' g a cap (takeE l dh n) ∧ Keeps (stOf g a) w w'
set_option maxRecDepth 20000 in
set_option maxHeartbeats 800000 in
theorem take_walk {w : World} {g cap : Nat} {a : Option Addr} {l : List Ent} (h : IsSt 34 42 w g a cap l) (dh : List Int) (n : Int) (hd : dh.length = 32) (bd : AreB dh) :
    Calls Try.prog 21 #[.pointer (some ⟨g, 0, none⟩), keyV dh, .int .u32 n] w (TakePost 34 42 g a cap l dh n w) := by
  have hk : Keeps Nil w (w.alloc (.cells (byteV dh).toArray 37)) := (Keeps.refl Nil w).alloc _
  have hB := Blk.new w (byteV dh) 37
  have h1 := h.keep0 hk
  have HI := Lib.hid (find0_walk h1 dh n hd bd)
  have hlk : (byteV dh).length = 32 := by simp [byteV, hd]
  have HB := Lib.hid (And.intro hB hlk)
  clear hB hlk
  go_enter Try.func21, Try.ntmps21
  go_wp2_with (refine wpl_load rfl 37 _ rfl w.heap.size rfl HB.out.1 _ Try.undKey rfl (by rw [HB.out.2]; exact Try.infoKey) ?_)
  refine HI.out.mono ?_
  rintro r w2 ⟨rfl, hk2⟩
  have h2 := h1.keep0 hk2
  have hK := hk.trans hk2
  have c0 := h2.obj.cell 0 (v := .slice a l.length cap) rfl
  rcases place_lt l dh n with hp | ⟨i, hp, hi, e, he, hq⟩
  · have hT : takeE l dh n = l := by simp [takeE, hp]
    have hH : hasE l dh n = false := by simp [hasE, hp]
    have HF := Lib.hid (And.intro hT hH)
    clear hT hH
    rw [hp]
    clear hp h h1 HI
    go_wp2_with fail
    go_ret
    exact ⟨by rw [HF.out.2]; rfl, by rw [HF.out.1]; exact h2, hK.nil⟩
  · obtain ⟨hxl, hcap, hmax, h4⟩ := h2.arr
    rcases h4 with ⟨_, h0, _⟩ | ⟨b, sp, rfl, hb, hl⟩
    · omega
    · have hT : takeE l dh n = l.eraseIdx i := by simp [takeE, hp]
      have hH : hasE l dh n = true := by simp [hasE, hp]
      have hlen : (l.eraseIdx i).length = l.length - 1 := by rw [List.length_eraseIdx, if_pos hi]
      have HD := Lib.hid (delete_walk hb hl hcap hmax h2.wf i hi)
      have HF := Lib.hid (And.intro hT (And.intro hH (And.intro hlen h2)))
      have hz := h2.obj.frozen 0
      have hm' := hmax
      unfold maxLen at hm'
      rw [hp]
      clear hT hH hp h h1 HI hlen hb hl hxl h2
      have hw1 : IntKind.i64.wrap ((i : Int) + 1) = (i : Int) + 1 := by rw [IntKind.wrap_i64]; omega
      have hi0 : (0 : Int) ≤ i := by omega
      go_wp2_with fail
      refine HD.out.mono ?_
      rintro r w3 ⟨rfl, ho3, hk3⟩
      obtain ⟨hT, hH, hlen, h2⟩ := HF.out
      rw [← hlen] at ho3
      obtain ⟨hfin, hkf⟩ := h2.deleted ho3 hk3 (fun e he => h2.wf e (List.mem_of_mem_eraseIdx he))
      have hne : g ≠ b := fun e => h2.ne ((blkOf_some _ _ _ _).2 e)
      have hb3 := h2.obj.keep hk3 hne
      have c3 := hb3.cell 0 (v := .slice (some ⟨b, 0, none⟩) l.length cap) rfl
      have z3 := hb3.frozen 0
      rw [hlen] at hfin hkf
      have HG := Lib.hid (And.intro hT (And.intro hH (And.intro hfin hkf)))
      clear hT hH hlen h2 HF ho3 hk3 hfin hkf hb3 HD
      go_wp2_with fail
      go_ret
      obtain ⟨hT, hH, hfin, hkf⟩ := HG.out
      exact ⟨by rw [hH]; rfl, by rw [hT]; exact hfin, hK.nil.trans hkf⟩
end Go.Proofs.Ytokminiendnhoaa
