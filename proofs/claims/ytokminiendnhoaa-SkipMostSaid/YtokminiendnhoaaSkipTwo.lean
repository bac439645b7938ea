/-
  Keys for later, the program's and the document's, side by side; no two of one number.
-/
import Derived.Test.YtokminiendnhoaaSkipSame
namespace Go.Proofs.Ytokminiendnhoaa
set_option linter.unusedSimpArgs false
set_option linter.unusedVariables false
open Go.RowKit

/-- No two of one key and one number. -/
def ApartE (l : List Ent) : Prop := l.Pairwise (fun x y => ¬ (x.1 = y.1 ∧ x.2.2 = y.2.2))
theorem isE_iff {dh : List Int} {n : Int} {e : Ent} : isE dh n e = true ↔ e.1 = dh ∧ e.2.2 = n := by
  unfold isE
  simp
theorem eraseP_none {dh : List Int} {n : Int} : ∀ {l : List Ent}, ApartE l → ∀ e ∈ l.eraseP (isE dh n), isE dh n e = false
  | [], _, e, he => by cases he
  | x :: l, h, e, he => by
    have h' := List.pairwise_cons.1 h
    by_cases hx : isE dh n x = true
    · rw [List.eraseP_cons_of_pos hx] at he
      have h1 := h'.1 e he
      cases hq : isE dh n e with
      | false => rfl
      | true =>
        rw [isE_iff] at hx hq
        exact absurd ⟨hx.1.trans hq.1.symm, hx.2.trans hq.2.symm⟩ h1
    · rw [List.eraseP_cons_of_neg hx] at he
      rcases List.mem_cons.1 he with rfl | he
      · simpa using hx
      · exact eraseP_none h'.2 e he
theorem putE_apart {l : List Ent} (h : ApartE l) (dh : List Int) (n : Int) (k : List Int) : ApartE (putE l dh n k) := by
  have hT : ApartE (takeE l dh n) := by rw [takeE_eraseP]; exact h.sublist List.eraseP_sublist
  have hN : ∀ e ∈ takeE l dh n, isE dh n e = false := by rw [takeE_eraseP]; exact eraseP_none h
  have key : ∀ m : List Ent, ApartE m → (∀ e ∈ m, e ∈ takeE l dh n) → ApartE (m ++ [(dh, k, n)]) := fun m hm hs => by
    unfold ApartE
    rw [List.pairwise_append]
    refine ⟨hm, by simp, fun x hx y hy => ?_⟩
    rw [List.mem_singleton.1 hy]
    intro hq
    have := hN x (hs x hx)
    rw [isE_iff.2 hq] at this
    cases this
  unfold putE
  split
  · exact key _ (hT.sublist (List.eraseIdx_sublist _ _)) (fun e he => List.mem_of_mem_eraseIdx he)
  · exact key _ hT (fun e he => he)
theorem takeE_apart {l : List Ent} (h : ApartE l) (dh : List Int) (n : Int) : ApartE (takeE l dh n) := by
  rw [takeE_eraseP]; exact h.sublist List.eraseP_sublist
theorem load_acc : ∀ (r acc : List Ent), ApartE (acc ++ r) → (acc ++ r).length ≤ 40 → r.foldl (fun acc e => putE acc e.1 e.2.2 e.2.1) acc = acc ++ r
  | [], acc, _, _ => by simp
  | e :: r, acc, h, hl => by
    have h2 := List.pairwise_append.1 h
    have ht : takeE acc e.1 e.2.2 = acc := by
      rw [takeE_eraseP, List.eraseP_of_forall_not]
      intro x hx hq
      exact h2.2.2 x hx e (List.mem_cons_self ..) (isE_iff.1 hq)
    have hp : putE acc e.1 e.2.2 e.2.1 = acc ++ [e] := by
      unfold putE
      rw [ht, if_neg (by rw [List.length_append, List.length_cons] at hl; omega)]
    rw [List.foldl_cons, hp, load_acc r (acc ++ [e]) (by rw [List.append_assoc]; exact h) (by rw [List.append_assoc]; exact hl), List.append_assoc]
    rfl
theorem loadE_id {l : List Ent} (h : ApartE l) (hl : l.length ≤ 40) : loadE l = l := by
  have := load_acc l [] (by simpa using h) (by simpa using hl)
  simpa [loadE] using this
theorem putE_wf {l : List Ent} (h : ∀ e ∈ l, WfE e) {dh k : List Int} {n : Int} (hw : WfE (dh, k, n)) : ∀ e ∈ putE l dh n k, WfE e := fun e he => by
  unfold putE at he
  rcases List.mem_append.1 he with h1 | h1
  · split at h1
    · exact takeE_wf h dh n e (List.mem_of_mem_eraseIdx h1)
    · exact takeE_wf h dh n e h1
  · rw [List.mem_singleton.1 h1]; exact hw

/-- Both, of one list each, made by the law. -/
structure Two2 (w0 w : World) (gs gx : Nat) (a : Option Addr) (c : Nat) (l : List Ent) (a2 : Option Addr) (c2 : Nat) (m : List Ent) : Prop where
  st : IsSt 34 42 w gs a c l
  sk : IsSk w gx a2 c2 m
  keeps : Keeps Nil w0 w
  fara : ∀ k, stOf gs a k → w0.heap.size ≤ k
  farb : ∀ k, stOf gx a2 k → w0.heap.size ≤ k
  apart : ∀ k, stOf gs a k → ¬ stOf gx a2 k
section
variable {w0 w w' : World} {gs gx c c' c2 c2' : Nat} {a a' a2 a2' : Option Addr} {l l' m m' : List Ent}
theorem Two2.nil (h : Two2 w0 w gs gx a c l a2 c2 m) (hk : Keeps Nil w w') : Two2 w0 w' gs gx a c l a2 c2 m := ⟨h.st.keep0 hk, h.sk.keep0 hk, h.keeps.trans hk, h.fara, h.farb, h.apart⟩
theorem Two2.stepA (h : Two2 w0 w gs gx a c l a2 c2 m) (hs : IsSt 34 42 w' gs a' c' l') (hk : Keeps (stOf gs a) w w') (hf : ∀ k, stOf gs a' k → stOf gs a k ∨ w.heap.size ≤ k) : Two2 w0 w' gs gx a' c' l' a2 c2 m :=
  ⟨hs, h.sk.keep hk (fun k h1 h2 => h.apart k h2 h1), h.keeps.step hk (fun k hk' => .inr (h.fara k hk')), fun k hk' => (hf k hk').elim (h.fara k) (fun e => Nat.le_trans h.keeps.size e), h.farb, fun k h1 h2 => (hf k h1).elim (fun e => h.apart k e h2) (fun e => by have := h.sk.lt k h2; omega)⟩
theorem Two2.stepB (h : Two2 w0 w gs gx a c l a2 c2 m) (hs : IsSk w' gx a2' c2' m') (hk : Keeps (One gx) w w') (hf : ∀ k, blkOf a2' k → blkOf a2 k ∨ w.heap.size ≤ k) : Two2 w0 w' gs gx a c l a2' c2' m' :=
  have hf2 : ∀ k, stOf gx a2' k → stOf gx a2 k ∨ w.heap.size ≤ k := fun k hk' => hk'.elim (fun e => .inl (.inl e)) (fun e => (hf k e).imp .inr id)
  ⟨h.st.keep hk (fun k h1 h2 => h.apart k h1 (.inl h2)), hs, h.keeps.step hk (fun k hk' => .inr (h.farb k (.inl hk'))), h.fara, fun k hk' => (hf2 k hk').elim (h.farb k) (fun e => Nat.le_trans h.keeps.size e), fun k h1 h2 => (hf2 k h2).elim (fun e => h.apart k h1 e) (fun e => by have := h.st.lt k h1; omega)⟩
theorem Two2.later (h : Two2 w0 w gs gx a c l a2 c2 m) {g : Nat} (hg : w.heap.size ≤ g) : ¬ stOf gs a g ∧ ¬ stOf gx a2 g := ⟨fun e => by have := h.st.lt g e; omega, fun e => by have := h.sk.lt g e; omega⟩
end
-- The calls, the other one beside them.
section
variable {w0 w : World} {gs gx c c2 : Nat} {a a2 : Option Addr} {l m : List Ent}
theorem two_put (h : Two2 w0 w gs gx a c l a2 c2 m) (hl : l.length ≤ 1000) (dh k : List Int) (n : Int) (hw : WfE (dh, k, n)) :
    Calls Try.prog 17 #[.pointer (some ⟨gs, 0, none⟩), keyV dh, .int .u32 n, keyV k] w fun e w' => ∃ a' c', e = .returned (.tuple #[]) ∧ Two2 w0 w' gs gx a' c' (putE l dh n k) a2 c2 m ∧ Keeps (stOf gs a) w w' ∧ ∀ k, k < w.heap.size → ¬ stOf gs a k → ¬ stOf gs a' k :=
  (put_walk h.st hl dh k n hw).mono (by
    rintro e w' ⟨a', c', he, hs, hk, hf⟩
    exact ⟨a', c', he, h.stepA hs hk hf, hk, fun k h1 h2 h3 => (hf k h3).elim h2 (fun e => by omega)⟩)
theorem two_take (h : Two2 w0 w gs gx a c l a2 c2 m) (dh : List Int) (n : Int) (hd : dh.length = 32) (bd : AreB dh) :
    Calls Try.prog 21 #[.pointer (some ⟨gs, 0, none⟩), keyV dh, .int .u32 n] w fun e w' => e = .returned (.bool (hasE l dh n)) ∧ Two2 w0 w' gs gx a c (takeE l dh n) a2 c2 m ∧ Keeps (stOf gs a) w w' :=
  (take_walk h.st dh n hd bd).mono (by
    rintro e w' ⟨he, hs, hk⟩
    exact ⟨he, h.stepA hs hk (fun k hk => .inl hk), hk⟩)
theorem two_refput (h : Two2 w0 w gs gx a c l a2 c2 m) (hl : m.length ≤ 40) (dh k : List Int) (n : Int) (hw : WfE (dh, k, n)) :
    Calls Try.prog 24 #[.pointer (some ⟨gx, 0, none⟩), keyV dh, .int .u32 n, keyV k] w fun e w' => ∃ a' c', e = .returned (.tuple #[]) ∧ Two2 w0 w' gs gx a c l a' c' (putE m dh n k) ∧ Keeps (One gx) w w' ∧ ∀ k, k < w.heap.size → ¬ stOf gx a2 k → ¬ stOf gx a' k :=
  (refPut_walk h.sk hl dh k n hw).mono (by
    rintro e w' ⟨a', c', he, hs, hk, hf⟩
    exact ⟨a', c', he, h.stepB hs hk hf, hk, fun k h1 h2 h3 => h3.elim (fun e => h2 (.inl e)) (fun e => (hf k e).elim (fun e => h2 (.inr e)) (fun e => by omega))⟩)
theorem two_reftake (h : Two2 w0 w gs gx a c l a2 c2 m) (hl : m.length ≤ 1000) (dh : List Int) (n : Int) (hd : dh.length = 32) (bd : AreB dh) :
    Calls Try.prog 22 #[.pointer (some ⟨gx, 0, none⟩), keyV dh, .int .u32 n] w fun e w' => ∃ a' c', e = .returned (.bool (hasE m dh n)) ∧ Two2 w0 w' gs gx a c l a' c' (takeE m dh n) ∧ Keeps (One gx) w w' ∧ ∀ k, k < w.heap.size → ¬ stOf gx a2 k → ¬ stOf gx a' k :=
  (refTake_walk h.sk hl dh n hd bd).mono (by
    rintro e w' ⟨a', c', he, hs, hk, hf⟩
    exact ⟨a', c', he, h.stepB hs hk hf, hk, fun k h1 h2 h3 => h3.elim (fun e => h2 (.inl e)) (fun e => (hf k e).elim (fun e => h2 (.inr e)) (fun e => by omega))⟩)
/-- What there is, loaded. -/
theorem two_load (h : Two2 w0 w gs gx a c l a2 c2 m) (hA : ApartE l) (hl : l.length ≤ 40) {ar : Option Addr} {cr : Nat} (ho : Own w 42 65 ar cr l.length (entsV l)) (hne : ¬ blkOf ar gs) :
    Calls Try.prog 23 #[.pointer (some ⟨gs, 0, none⟩), .slice ar l.length cr] w fun e w' => ∃ a' c', e = .returned (.tuple #[]) ∧ Two2 w0 w' gs gx a' c' l a2 c2 m ∧ Keeps (stOf gs a) w w' ∧ ∀ k, k < w.heap.size → ¬ stOf gs a k → ¬ stOf gs a' k :=
  (load_walk h.st ho h.st.wf hne (by omega)).mono (by
    rintro e w' ⟨a', c', he, hs, hk, hf⟩
    rw [loadE_id hA hl] at hs
    exact ⟨a', c', he, h.stepA hs hk hf, hk, fun k h1 h2 h3 => (hf k h3).elim h2 (fun e => by omega)⟩)
end
end Go.Proofs.Ytokminiendnhoaa
