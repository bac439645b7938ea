/-
  Two headers by value held against each other.
-/
import Derived.Test.YtdkfhfflhglmaaaDoorHeadFirst
import Derived.Test.YtdkfhfflhglmaaaDoorKeys
namespace Go.Proofs.YtdkfhfflhglmaaaDoor
set_option linter.unusedSimpArgs false
set_option linter.unusedVariables false
open Go.RowKit

theorem Tryd.aggKey (w : World) : (isAgg 74).run Tryd.prog w = .ok true w := by kernel_rfl
theorem Tryd.sizeKey (w : World) : (sizeOf 74).run Tryd.prog w = .ok 32 w := by kernel_rfl
theorem Tryd.aggU32 (w : World) : (isAgg 46).run Tryd.prog w = .ok false w := by kernel_rfl
theorem Tryd.sizeU8 (w : World) : (sizeOf 5).run Tryd.prog w = .ok 1 w := by kernel_rfl
theorem headKey_ex {k : List Int} {pn n : Int} (h : IsHead k pn n) : (headV k pn n).toArray.extract 0 (0 + 32) = (byteV k).toArray := by
  have hk := h.len
  simp [headV, byteV, hk]
theorem IsHead.areB {k : List Int} {pn n : Int} (h : IsHead k pn n) : AreB k := fun x hx => h.byte x hx
theorem Tryd.keyEq {k k' : List Int} {pn n pn' n' : Int} (h : IsHead k pn n) (h' : IsHead k' pn' n') (w : World) (d : Nat) : (Op.equalIn (d + 2) 74 (.agg (byteV k).toArray) (.agg (byteV k').toArray)).run Tryd.prog w = .ok (k == k') w := by
  have := Go.run_equalIn_bytes w d 74 5 32 Tryd.underlying74 Tryd.underlying5 Tryd.sizeU8 (toB k) (toB k') (by simpa [toB] using h.len) (by simpa [toB] using h'.len)
  rw [byteV_toB h.areB, byteV_toB h'.areB, toB_eq h.areB h'.areB] at this
  exact this
theorem Tryd.part0 {k : List Int} {pn n : Int} (h : IsHead k pn n) (w : World) : (part 74 (headV k pn n).toArray 0).run Tryd.prog w = .ok (.agg (byteV k).toArray) w := by
  simp only [part, Sem.run_bind, Tryd.aggKey, Tryd.sizeKey, Result.andThen_ok, if_true, Sem.run_pure, headKey_ex h]
theorem Tryd.part1 {k : List Int} {pn n : Int} (h : IsHead k pn n) (w : World) : (part 46 (headV k pn n).toArray 32).run Tryd.prog w = .ok (.int .u32 pn) w := by
  have := headV_pn k pn n h.len
  simp [part, Tryd.aggU32, this]
theorem Tryd.part2 {k : List Int} {pn n : Int} (h : IsHead k pn n) (w : World) : (part 46 (headV k pn n).toArray 33).run Tryd.prog w = .ok (.int .u32 n) w := by
  have := headV_n k pn n h.len
  simp [part, Tryd.aggU32, this]
theorem Tryd.numEq (d : Nat) (a b : Int) (w : World) : (Op.equalIn (d + 1) 46 (.int .u32 a) (.int .u32 b)).run Tryd.prog w = .ok (a == b) w := run_equalIn_int w d _ .u32 .u32 a b Tryd.underlying46
theorem fields_eq {P : Program} (D : Nat) (f0 f1 f2 : Field) (m0 : ¬ f0.name = "_") (m1 : ¬ f1.name = "_") (m2 : ¬ f2.name = "_") (xs ys : Array Value) (w : World) (a0 b0 a1 b1 a2 b2 : Value) (r0 r1 r2 : Bool)
    (p0 : (part f0.type xs f0.offset).run P w = .ok a0 w) (q0 : (part f0.type ys f0.offset).run P w = .ok b0 w) (e0 : (Op.equalIn D f0.type a0 b0).run P w = .ok r0 w)
    (p1 : (part f1.type xs f1.offset).run P w = .ok a1 w) (q1 : (part f1.type ys f1.offset).run P w = .ok b1 w) (e1 : (Op.equalIn D f1.type a1 b1).run P w = .ok r1 w)
    (p2 : (part f2.type xs f2.offset).run P w = .ok a2 w) (q2 : (part f2.type ys f2.offset).run P w = .ok b2 w) (e2 : (Op.equalIn D f2.type a2 b2).run P w = .ok r2 w) :
    (Op.eqFields D xs ys [f0, f1, f2]).run P w = .ok (r0 && (r1 && r2)) w := by
  cases r0 <;> cases r1 <;> cases r2 <;> simp [Op.eqFields, m0, m1, m2, p0, q0, e0, p1, q1, e1, p2, q2, e2]
theorem Tryd.headFields : ∃ f0 f1 f2 : Field, Tryd.prog.fieldsOf 76 = #[f0, f1, f2] ∧ (¬ f0.name = "_" ∧ f0.type = 74 ∧ f0.offset = 0) ∧ (¬ f1.name = "_" ∧ f1.type = 46 ∧ f1.offset = 32) ∧ (¬ f2.name = "_" ∧ f2.type = 46 ∧ f2.offset = 33) := by
  have hf' : (Tryd.prog.fieldsOf 76).toList.map (fun f : Field => (f.name, f.type, f.offset)) = [("DH", 74, 0), ("PN", 46, 32), ("N", 46, 33)] := by kernel_rfl
  generalize Tryd.prog.fieldsOf 76 = fs at hf'
  obtain ⟨fl⟩ := fs
  have hlen : fl.length = 3 := by simpa using congrArg List.length hf'
  obtain ⟨f0, f1, f2, rfl⟩ : ∃ f0 f1 f2, fl = [f0, f1, f2] := by
    match fl, hlen with
    | [a, b, c], _ => exact ⟨a, b, c, rfl⟩
  simp only [List.map_cons, List.map_nil, List.cons.injEq, Prod.mk.injEq, and_true] at hf'
  obtain ⟨⟨m0, t0, o0⟩, ⟨m1, t1, o1⟩, ⟨m2, t2, o2⟩⟩ := hf'
  exact ⟨f0, f1, f2, rfl, ⟨by rw [m0]; decide, t0, o0⟩, ⟨by rw [m1]; decide, t1, o1⟩, ⟨by rw [m2]; decide, t2, o2⟩⟩
theorem Tryd.headHeld : Tryd.prog.stoodInHeld 76 = false := by kernel_rfl
theorem Tryd.headUnd : Tryd.prog.underlying 76 = some (.struct (Tryd.prog.fieldsOf 76)) := by kernel_rfl
theorem Tryd.eqlHead {k k' : List Int} {pn n pn' n' : Int} (h : IsHead k pn n) (h' : IsHead k' pn' n') (w : World) :
    (binOp .eql 76 (.agg (headV k pn n).toArray) (.agg (headV k' pn' n').toArray)).run Tryd.prog w = .ok (.bool (k == k' && (pn == pn' && n == n'))) w := by
  obtain ⟨f0, f1, f2, hf, ⟨m0, t0, o0⟩, ⟨m1, t1, o1⟩, ⟨m2, t2, o2⟩⟩ := Tryd.headFields
  have hE : ∀ D, (Op.equalIn (D + 3) 76 (.agg (headV k pn n).toArray) (.agg (headV k' pn' n').toArray)).run Tryd.prog w = .ok (k == k' && (pn == pn' && n == n')) w := fun D => by
    rw [run_equalIn_agg w (D + 2) _ _ _ Tryd.headUnd Tryd.headHeld, hf]
    exact fields_eq (D + 2) f0 f1 f2 m0 m1 m2 _ _ w _ _ _ _ _ _ _ _ _ (by rw [t0, o0]; exact Tryd.part0 h w) (by rw [t0, o0]; exact Tryd.part0 h' w) (by rw [t0]; exact Tryd.keyEq h h' w D)
      (by rw [t1, o1]; exact Tryd.part1 h w) (by rw [t1, o1]; exact Tryd.part1 h' w) (by rw [t1]; exact Tryd.numEq (D + 1) _ _ w)
      (by rw [t2, o2]; exact Tryd.part2 h w) (by rw [t2, o2]; exact Tryd.part2 h' w) (by rw [t2]; exact Tryd.numEq (D + 1) _ _ w)
  rw [run_eql_struct, show (10000 : Nat) = 9997 + 3 from rfl, hE 9997]
  rfl
end Go.Proofs.YtdkfhfflhglmaaaDoor
