/-
  A binary operation whose run is known, as a step of the walk. No program in sight but for the model's own.
-/
import Derived.Test.YtmbdldnldcgdjaaDoorMany
namespace Go.Proofs.YtmbdldnldcgdjaaDoor
set_option linter.unusedSimpArgs false
set_option linter.unusedVariables false
open Go.RowKit
/-- The same, a step of the walk. -/
theorem wpl_bin {P : Program} {ops : Array Oper} {rest : List Oper} {o : Oper} {a : Act} {w : World} {Q : Exit → Act → World → Prop} (hw : Region.wanted o (yielded ops a.tmps) = true) (op : BinOp) (t : TypeId) (x y : Operand) (t' : TypeId) (ho : o.op = .binOp op t x y t') (vx vy : Value) (hx : a.eval x = vx) (hy : a.eval y = vy)
    (v : Value) (hr : ∀ w, (binOp op t vx vy).run P w = .ok v w) (hg : ∀ w, (eqGuard op t x y vx vy).run P w = .ok () w) (h : wpList P ops Q rest (a.put o.dst v) w) : wpList P ops Q (o :: rest) a w :=
  wpList_go hw fun _ hK => by
    unfold Oper.wp execOp
    simp only [ho, hx, hy, Sem.run_bind, hr, hg, Result.andThen_ok]
    exact hK _ _ h
/-- append where its guard says yes. -/
theorem wpl_appendMW {P : Program} {ops : Array Oper} {rest : List Oper} {o : Oper} {A : Act} {w : World} {Q : Exit → Act → World → Prop} (hw : Region.wanted o (yielded ops A.tmps) = true) (s x : Operand) (t : TypeId) (ho : o.op = .call { callee := .builtin .append, args := #[s, x], argTypes := #[t, t] })
    (e : TypeId) (ht : P.underlying t = some (.slice e)) (hi : (P.info? e).map (fun i => (i.zero.map (·.cells.size), i.size, i.bytes)) = some (some 1, 1, 1))
    (a : Option Addr) (cap n : Nat) (l : List Int) (hs : A.eval s = .slice a n cap) (hown : MidB w e a cap n l)
    (ao : Option Addr) (m c : Nat) (news : List Int) (hx : A.eval x = .slice ao m c) (hsrc : Src w ao m c 1 (byteV news)) (hbytes : n + m ≤ 140737488355328)
    (h : ∀ a' cap' w', MidB w' e a' cap' (n + m) (l ++ news) → Keeps (midOf a cap) w w' → (∀ k, midOf a' cap' k → midOf a cap k ∨ w.heap.size ≤ k) → wpList P ops Q rest (A.put o.dst (.slice a' (n + m) cap')) w') :
    wpList P ops Q (o :: rest) A w := by
  obtain ⟨a', cap', w', hrun, h1, h2, h3, h4⟩ := run_appendM (P := P) w t o.type e ht hi a cap n l hown ao m c news hsrc hbytes
  refine wpList_go hw fun K hK' => ?_
  unfold Oper.wp
  simp [execOp, ho, resolve, invoke, builtin, hs, hx, hrun, Result.andThen]
  exact hK' _ _ (h a' cap' w' h1 h2 h3)
/-- The same inside a region that draws its order. -/
theorem step_appendMW {P : Program} {ops : Array Oper} {o : Oper} {A : Act} {w : World} {K : Act → World → Prop} {Q : Exit → Act → World → Prop} {E : Prop} (hw : Region.wanted o (yielded ops A.tmps) = true) (s x : Operand) (t : TypeId) (ho : o.op = .call { callee := .builtin .append, args := #[s, x], argTypes := #[t, t] })
    (e : TypeId) (ht : P.underlying t = some (.slice e)) (hi : (P.info? e).map (fun i => (i.zero.map (·.cells.size), i.size, i.bytes)) = some (some 1, 1, 1))
    (a : Option Addr) (cap n : Nat) (l : List Int) (hs : A.eval s = .slice a n cap) (hown : MidB w e a cap n l)
    (ao : Option Addr) (m c : Nat) (news : List Int) (hx : A.eval x = .slice ao m c) (hsrc : Src w ao m c 1 (byteV news)) (hbytes : n + m ≤ 140737488355328)
    (h : ∀ a' cap' w', MidB w' e a' cap' (n + m) (l ++ news) → Keeps (midOf a cap) w w' → (∀ k, midOf a' cap' k → midOf a cap k ∨ w.heap.size ≤ k) → K (A.put o.dst (.slice a' (n + m) cap')) w') :
    if Region.wanted o (yielded ops A.tmps) = true then Oper.wp P o A w K Q else E := by
  rw [if_pos hw]
  obtain ⟨a', cap', w', hrun, h1, h2, h3, h4⟩ := run_appendM (P := P) w t o.type e ht hi a cap n l hown ao m c news hsrc hbytes
  unfold Oper.wp
  simp [execOp, ho, resolve, invoke, builtin, hs, hx, hrun, Result.andThen]
  exact h a' cap' w' h1 h2 h3
end Go.Proofs.YtmbdldnldcgdjaaDoor
