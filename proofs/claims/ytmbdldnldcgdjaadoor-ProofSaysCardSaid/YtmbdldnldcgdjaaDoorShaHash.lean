/-
  A digest on its way: what sha.Hash holds.
-/
import Derived.Test.YtmbdldnldcgdjaaDoorShaMix
import Derived.Test.YtmbdldnldcgdjaaDoorBytes
import Derived.Test.YtmbdldnldcgdjaaDoorMid
namespace Go.Proofs.YtmbdldnldcgdjaaDoor
set_option linter.unusedSimpArgs false
set_option linter.unusedVariables false
open Go.RowKit

def shaH0 : List Int := [0x6a09e667, 0xbb67ae85, 0x3c6ef372, 0xa54ff53a, 0x510e527f, 0x9b05688c, 0x1f83d9ab, 0x5be0cd19]
/-- The state behind the first n blocks. -/
def blocks (H l : List Int) : Nat → List Int
  | 0 => H
  | n + 1 => shaBlock (blocks H l n) ((l.drop (64 * n)).take 64)
theorem blocks_succ (H l : List Int) (n : Nat) : blocks H l (n + 1) = shaBlock (blocks H l n) ((l.drop (64 * n)).take 64) := rfl
theorem shaH0_len : shaH0.length = 8 := rfl
theorem shaH0_isW : ∀ x ∈ shaH0, IsW x := by unfold IsW; decide
theorem blocks_len (l : List Int) : ∀ n, (blocks shaH0 l n).length = 8
  | 0 => rfl
  | _ + 1 => shaBlock_len _ _
theorem blocks_isW (l : List Int) : ∀ n, ∀ x ∈ blocks shaH0 l n, IsW x
  | 0 => shaH0_isW
  | _ + 1 => shaBlock_isW _ _
/-- What stands behind the blocks does not count. -/
theorem blocks_append (H l r : List Int) : ∀ n, 64 * n ≤ l.length → blocks H (l ++ r) n = blocks H l n
  | 0, _ => rfl
  | n + 1, h => by
    rw [blocks_succ, blocks_succ, blocks_append H l r n (by omega)]
    congr 1
    rw [List.drop_append_of_le_length (by omega), List.take_append_of_le_length (by rw [List.length_drop]; omega)]
/-- All of its cells. -/
def hashV (H : List Int) (a : Option Addr) (n cap : Nat) (t : Int) : List Value := wordV H ++ [.slice a n cap, .int .u64 t]
theorem hashV_len (H : List Int) (a : Option Addr) (n cap : Nat) (t : Int) (h : H.length = 8) : (hashV H a n cap t).length = 10 := by simp [hashV, wordV, h]
theorem hashV_8 (H : List Int) (a : Option Addr) (n cap : Nat) (t : Int) (h : H.length = 8) : (hashV H a n cap t)[8]? = some (.slice a n cap) := by simp [hashV, wordV, List.getElem?_append, h]
theorem hashV_9 (H : List Int) (a : Option Addr) (n cap : Nat) (t : Int) (h : H.length = 8) : (hashV H a n cap t)[9]? = some (.int .u64 t) := by simp [hashV, wordV, List.getElem?_append, h]
theorem hashV_set8 (H : List Int) (a a' : Option Addr) (n cap n' cap' : Nat) (t : Int) (h : H.length = 8) : (hashV H a n cap t).set 8 (.slice a' n' cap') = hashV H a' n' cap' t := by simp [hashV, wordV, List.set_append, h]
theorem hashV_set9 (H : List Int) (a : Option Addr) (n cap : Nat) (t t' : Int) (h : H.length = 8) : (hashV H a n cap t).set 9 (.int .u64 t') = hashV H a n cap t' := by simp [hashV, wordV, List.set_append, h]
theorem hashV_one (H : List Int) (a : Option Addr) (n cap : Nat) (t : Int) : ∀ v ∈ hashV H a n cap t, v.oneCell' = true := fun v hv => by
  unfold hashV at hv
  rcases List.mem_append.1 hv with hv | hv
  · exact wordV_one H v hv
  · simp only [List.mem_cons, List.not_mem_nil, or_false] at hv
    rcases hv with rfl | rfl <;> rfl
/-- Behind q blocks of l: what is left over. -/
structure HashAt (w : World) (g : Nat) (a : Option Addr) (cap q n : Nat) (l : List Int) (t : Int) : Prop where
  obj : Blk w g (hashV (blocks shaH0 l q) a n cap t) 95
  rest : MidB w 5 a cap n (l.drop (64 * q))
  far : ∀ k, midOf a cap k → k ≠ g
  most : l.length ≤ 1000000
  wf : ∀ x ∈ l, (Lit.int .u8 x).wf = true
  qle : 64 * q ≤ l.length
/-- A digest on its way that has taken l in. -/
def IsHash (w : World) (g : Nat) (a : Option Addr) (cap : Nat) (l : List Int) : Prop := HashAt w g a cap (l.length / 64) (l.length % 64) l l.length
def hashOf (g : Nat) (a : Option Addr) (cap : Nat) : Nat → Prop := fun k => k = g ∨ midOf a cap k
section
variable {w w' : World} {g cap q n : Nat} {a : Option Addr} {l : List Int} {t : Int}
theorem HashAt.keep {S : Nat → Prop} (h : HashAt w g a cap q n l t) (hk : Keeps S w w') (hn : ∀ k, hashOf g a cap k → ¬ S k) : HashAt w' g a cap q n l t :=
  ⟨h.obj.keep hk (hn g (.inl rfl)), h.rest.keep hk (fun k hk' => hn k (.inr hk')), h.far, h.most, h.wf, h.qle⟩
theorem HashAt.keep0 (h : HashAt w g a cap q n l t) (hk : Keeps Nil w w') : HashAt w' g a cap q n l t := h.keep hk (fun _ _ h => h)
theorem HashAt.lt (h : HashAt w g a cap q n l t) : ∀ k, hashOf g a cap k → k < w.heap.size := fun k hk => by
  rcases hk with rfl | hk
  · exact h.obj.lt
  · exact h.rest.lt k hk
end

theorem Tryd.built8h : Tryd.prog.built 69 [(0, .int .u32 1779033703), (1, .int .u32 3144134277), (2, .int .u32 1013904242), (3, .int .u32 2773480762), (4, .int .u32 1359893119), (5, .int .u32 2600822924), (6, .int .u32 528734635), (7, .int .u32 1541459225)] = some (wordV shaH0).toArray := by kernel_rfl
theorem Tryd.builtHash : Tryd.prog.built 95 [(0, .agg (wordV shaH0).toArray)] = some (hashV shaH0 none 0 0 0).toArray := by kernel_rfl
def NewPost (w : World) (e : Ending) (w' : World) : Prop := ∃ g, e = .returned (.pointer (some ⟨g, 0, none⟩)) ∧ IsHash w' g none 0 [] ∧ Keeps Nil w w' ∧ w.heap.size ≤ g
set_option maxRecDepth 20000 in
set_option maxHeartbeats 800000 in
theorem new_walk (w : World) : Calls Tryd.prog 44 #[] w (NewPost w) := by
  have H1 := Lib.hid Tryd.built8h
  have H2 := Lib.hid Tryd.builtHash
  have hb := Blk.new w (hashV shaH0 none 0 0 0) 95
  have hk := (Keeps.refl Nil w).alloc (.cells (hashV shaH0 none 0 0 0).toArray 95)
  have hfin : IsHash (w.alloc (.cells (hashV shaH0 none 0 0 0).toArray 95)) w.heap.size none 0 [] := ⟨hb, MidB.new _ _, fun k hk => (by have := hk.1; omega), by simp, fun x hx => by simp at hx, by simp⟩
  have HF := Lib.hid hfin
  clear hfin hb
  generalize hashV shaH0 none 0 0 0 = V at *
  generalize wordV shaH0 = W at *
  go_enter Tryd.func44, Tryd.ntmps44
  go_wp2_with (first | (refine wpl_build rfl 69 _ rfl W _ H1.out (by simp [Act.eval, Act.put]) ?_) | (refine wpl_build rfl 95 _ rfl V _ H2.out (by simp [Act.eval, Act.put]) ?_))
  go_ret
  exact ⟨_, rfl, HF.out, hk, Nat.le_refl _⟩
end Go.Proofs.YtmbdldnldcgdjaaDoor
