/-
  Chapter 9: DiskKeeps, plain: the sectors' versions are those of the law's own list.
-/
import Derived.Test.YtkefbgkdkmkghaaDoorDiskFuses
namespace Go.Proofs.YtkefbgkdkmkghaaDoor
set_option linter.unusedSimpArgs false
set_option linter.unusedVariables false
open Go.RowKit

/-- The law's list of what each sector may be, beside the disk. -/
structure KeepI (d : Dk) (ms : List (List Int)) (m : Nat) : Prop where
  len : d.vs.length = 5
  mlen : ms.length = 5
  off : d.off = false
  left : d.left = -1
  at_ : ∀ k, k < 5 → d.at_ k = (ms.getD k []).map fillL
  pos : ∀ k, k < 5 → ms.getD k [] ≠ []
  bytes : ∀ k, k < 5 → AreB (ms.getD k [])
  ok : d.Ok m
def may0 : List (List Int) := List.replicate 5 [0]
theorem may0_at {k : Nat} (hk : k < 5) : may0.getD k [] = [0] := by
  unfold may0
  rw [List.getD_eq_getElem?_getD, List.getElem?_replicate, if_pos hk]
  rfl
theorem keepI_zero : KeepI (Dk.new 5) may0 1 := by
  refine ⟨Dk.new_len 5, rfl, rfl, rfl, fun k hk => ?_, fun k hk => by rw [may0_at hk]; simp, fun k hk x hx => ?_, Dk.new_ok (by omega)⟩
  · rw [may0_at hk]
    show (List.replicate 5 [zsec]).getD k [] = [fillL 0]
    rw [List.getD_eq_getElem?_getD, List.getElem?_replicate, if_pos hk]
    rfl
  · rw [may0_at hk] at hx
    rw [List.mem_singleton.1 hx]; omega
theorem getD_set {α : Type} {l : List α} {i j : Nat} {v e : α} (hi : i < l.length) : (l.set i v).getD j e = if i = j then v else l.getD j e := by
  by_cases h : i = j
  · subst h; simp [List.getD, hi]
  · simp [List.getD, List.getElem?_set, h]
theorem KeepI.write {d : Dk} {ms : List (List Int)} {m k : Nat} (h : KeepI d ms m) (hk : k < 5) {b : Int} (hb : 0 ≤ b ∧ b < 256) :
    (d.write k (fillL b)).2 = none ∧ KeepI (d.write k (fillL b)).1 (ms.set k (ms.getD k [] ++ [b])) (m + 1) := by
  have hl := h.len
  have hok := h.ok.write k (fillL_bytes b)
  rw [write_on h.off (by omega) (fillL_len b)] at hok ⊢
  have hoff : (d.put k (fillL b)).goes.off = false := by
    show decide (d.left = 0) = false
    rw [h.left]; rfl
  refine ⟨by rw [hoff]; rfl, by show (d.vs.set k _).length = 5; rw [List.length_set]; exact hl, by rw [List.length_set]; exact h.mlen, hoff, ?_, fun j hj => ?_, fun j hj => ?_, fun j hj => ?_, hok⟩
  · show (if 0 < d.left then d.left - 1 else d.left) = _
    rw [h.left]; rfl
  · show (d.put k (fillL b)).goes.at_ j = _
    rw [goes_at, put_at (by omega), getD_set (by rw [h.mlen]; exact hk)]
    by_cases hjk : k = j
    · rw [if_pos hjk, if_pos hjk, h.at_ k hk, List.map_append]; rfl
    · rw [if_neg hjk, if_neg hjk]; exact h.at_ j hj
  · rw [getD_set (by rw [h.mlen]; exact hk)]
    split
    · simp
    · exact h.pos j hj
  · rw [getD_set (by rw [h.mlen]; exact hk)]
    split
    · exact areB_append (h.bytes k hk) (fun x hx => by rw [List.mem_singleton.1 hx]; exact hb)
    · exact h.bytes j hj
/-- What is there of a list once it is synced. -/
def lastOf (l : List Int) : List Int := l.drop (l.length - 1)
theorem lastOf_map {l : List Int} (h : l ≠ []) : (lastOf l).map fillL = [lastV (l.map fillL)] := by
  unfold lastOf lastV
  rw [List.map_drop]
  have h2 : l.map fillL ≠ [] := by simpa using h
  generalize hg : l.map fillL = r at *
  have hl : l.length = r.length := by rw [← hg, List.length_map]
  rw [hl]
  obtain ⟨q, x, rfl⟩ : ∃ q x, r = q ++ [x] := ⟨r.dropLast, r.getLast h2, (List.dropLast_concat_getLast h2).symm⟩
  rw [List.length_append, List.length_singleton, Nat.add_sub_cancel, List.drop_left]
  simp
theorem lastOf_ne {l : List Int} (h : l ≠ []) : lastOf l ≠ [] := by
  have := List.length_pos_iff.2 h
  unfold lastOf
  intro h2
  have h3 := congrArg List.length h2
  rw [List.length_drop] at h3
  simp at h3
  omega
theorem map_getD {α β : Type} {l : List α} {f : α → β} {k : Nat} {e : α} {e' : β} (h : k < l.length) : (l.map f).getD k e' = f (l.getD k e) := by simp [List.getD, h]
theorem KeepI.sync {d : Dk} {ms : List (List Int)} {m : Nat} (h : KeepI d ms m) (hm : 1 ≤ m) : d.sync.2 = none ∧ KeepI d.sync.1 (ms.map lastOf) m := by
  have hl := h.len
  have hok := h.ok.sync hm
  have hoff : d.goes.off = false := by
    show decide (d.left = 0) = false
    rw [h.left]; rfl
  have hs : d.sync = (d.goes.settle, none) := by
    unfold Dk.sync
    rw [if_neg (by rw [h.off]; simp), if_neg (by rw [hoff]; simp)]
  rw [hs] at hok ⊢
  refine ⟨rfl, by show (d.vs.map _).length = 5; rw [List.length_map]; exact hl, by rw [List.length_map]; exact h.mlen, hoff, ?_, fun k hk => ?_, fun k hk => ?_, fun k hk => ?_, hok⟩
  · show (if 0 < d.left then d.left - 1 else d.left) = _
    rw [h.left]; rfl
  · rw [map_getD (e := []) (by rw [h.mlen]; exact hk), lastOf_map (h.pos k hk), ← h.at_ k hk]
    show (d.vs.map fun l => [lastV l]).getD k [] = _
    rw [map_getD (e := []) (by omega)]
    rfl
  · rw [map_getD (e := []) (by rw [h.mlen]; exact hk)]
    exact lastOf_ne (h.pos k hk)
  · rw [map_getD (e := []) (by rw [h.mlen]; exact hk)]
    exact fun x hx => h.bytes k hk x (List.mem_of_mem_drop hx)
theorem KeepI.crash {d : Dk} {ms : List (List Int)} {m : Nat} (h : KeepI d ms m) (hm : 1 ≤ m) (ks : List Int) :
    (d.crash ks).off = false ∧ (d.crash ks).Ok m ∧ ∀ k : Nat, k < 5 → (d.crash ks).readE k = none ∧ ∃ j, j < (ms.getD k []).length ∧ (d.crash ks).readV k = fillL ((ms.getD k []).getD j 0) := by
  have hl := h.len
  have hok := h.ok.crash ks hm
  have hcl : (crashL d.vs ks).length = d.vs.length := (crashL_len d.vs ks)
  refine ⟨rfl, hok, fun k hk => ?_⟩
  have he : (d.crash ks).readE k = none := by
    unfold Dk.readE
    rw [if_neg (by simp [Dk.crash]), if_neg (by show ¬ ((k : Int) < 0 ∨ ((crashL d.vs ks).length : Int) ≤ k); rw [hcl]; omega)]
  refine ⟨he, ?_⟩
  have hat := h.at_ k hk
  obtain ⟨j, hj, hc⟩ := crashL_mem d.vs ks h.ok.some k (by omega)
  change j < (d.at_ k).length at hj
  change (crashL d.vs ks).getD k [] = [(d.at_ k).getD j []] at hc
  rw [hat, List.length_map] at hj
  rw [hat, map_getD (e := 0) hj] at hc
  refine ⟨j, hj, ?_⟩
  unfold Dk.readV
  rw [he, if_pos rfl, show (k : Int).toNat = k by omega]
  show lastV ((crashL d.vs ks).getD k []) = _
  rw [hc]
  rfl
end Go.Proofs.YtkefbgkdkmkghaaDoor
