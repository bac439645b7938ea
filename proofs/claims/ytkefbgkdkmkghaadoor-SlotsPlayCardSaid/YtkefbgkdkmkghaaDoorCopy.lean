/-
  copy into a block that is known whole. No program in sight but for the model's own.
-/
import Derived.Test.YtkefbgkdkmkghaaDoorOwn
import Derived.Laws.IdiomCopy
namespace Go.Proofs.YtkefbgkdkmkghaaDoor
set_option linter.unusedSimpArgs false
set_option linter.unusedVariables false
open Go.RowKit

/-- copy, as a run. -/
theorem run_copyB {P : Program} {w : World} (dT sT ty e : TypeId) (hu : P.underlying dT = some (.slice e)) (hsz : (P.info? e).map (·.size) = some 1) {g off n cap : Nat} {cs : List Value} {T : TypeId} (hb : Blk w g cs T) (hl : off + n ≤ cs.length)
    {ao : Option Addr} {m c : Nat} {news : List Value} (hs : Src w ao m c 1 news) :
    ∃ w', (Builtin.copy_ #[dT, sT] ty #[.slice (some ⟨g, off, none⟩) n cap, .slice ao m c]).run P w = .ok (goInt (Nat.min m n)) w' ∧ Blk w' g (splice cs off (news.take n)) T ∧ Keeps (One g) w w' := by
  obtain ⟨hnl, h1, hcase⟩ := hs
  rw [Nat.mul_one] at hnl
  have hlen : (news.take n).length = Nat.min m n := by rw [List.length_take, hnl]; exact Nat.min_comm _ _
  by_cases h0 : Nat.min m n = 0
  · refine ⟨w, by rw [run_copy_none (P := P) w dT sT ty e _ _ n cap m c hu hsz h0, h0]; rfl, ?_, Keeps.refl _ _⟩
    have : news.take n = [] := List.eq_nil_of_length_eq_zero (by rw [hlen, h0])
    rw [this]
    simpa [splice] using hb
  · rcases hcase with ⟨_, hm, _⟩ | ⟨ad, rfl, hc⟩
    · exact (h0 (by rw [hm]; exact Nat.min_eq_left (Nat.zero_le _))).elim
    · have hle : (news.take n).length ≤ n := by rw [List.length_take]; exact Nat.min_le_left _ _
      have ht := hb.there (o := off) (n := (news.take n).length) (by omega)
      have hr := run_copy_cells (P := P) w dT sT ty e g off n cap ad m c (news.take n) hu hsz hlen (fun j v hj => hc j v (by
        rw [List.getElem?_take] at hj
        by_cases hjn : j < n
        · rw [if_pos hjn] at hj; exact hj
        · rw [if_neg hjn] at hj; cases hj)) (fun j hj => (ht j hj).1) (fun j hj => (ht j hj).2) (fun v hv => h1 v (List.mem_of_mem_take hv))
      rw [hlen] at hr
      exact ⟨_, hr, hb.setCells _ _ (by omega), Keeps.setCells _ _ (Keeps.refl _ _)⟩

section
variable {P : Program} {ops : Array Oper} {rest : List Oper} {o : Oper} {A : Act} {w : World} {Q : Exit → Act → World → Prop}
/-- copy, a step of the walk. -/
theorem wpl_copy (hgd : o.guard = none) (d s : Operand) (dT sT : TypeId) (ho : o.op = .call { callee := .builtin .copy, args := #[d, s], argTypes := #[dT, sT] })
    (e : TypeId) (hu : P.underlying dT = some (.slice e)) (hsz : (P.info? e).map (·.size) = some 1) (g off n cap : Nat) (hd : A.eval d = .slice (some ⟨g, off, none⟩) n cap) {cs : List Value} {T : TypeId} (hb : Blk w g cs T) (hl : off + n ≤ cs.length)
    (ao : Option Addr) (m c : Nat) (news : List Value) (hx : A.eval s = .slice ao m c) (hs : Src w ao m c 1 news)
    (h : ∀ w', Blk w' g (splice cs off (news.take n)) T → Keeps (One g) w w' → wpList P ops Q rest (A.put o.dst (goInt (Nat.min m n))) w') : wpList P ops Q (o :: rest) A w := by
  obtain ⟨w', hrun, h1, h2⟩ := run_copyB (P := P) dT sT o.type e hu hsz (cap := cap) hb hl hs
  refine wpList_plain hgd fun K hK => ?_
  unfold Oper.wp
  simp [execOp, ho, resolve, invoke, builtin, hd, hx, hrun, Result.andThen]
  exact hK _ _ (h w' h1 h2)
end
end Go.Proofs.YtkefbgkdkmkghaaDoor
