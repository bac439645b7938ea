/-
  Chapter 3's first examples; digests held against each other.
-/
import Derived.Test.YtnkahfpinkgimaaShaAll
namespace Go.Proofs.Ytnkahfpinkgimaa
open Go.RowKit

/-- A slice literal of one element inside a region that draws its order, where its guard says yes. -/
theorem step_bsOneW {P : Program} {ops : Array Oper} {o : Oper} {a : Act} {w : World} {K : Act → World → Prop} {Q : Exit → Act → World → Prop} {E : Prop} (hw : Region.wanted o (yielded ops a.tmps) = true) (t e : TypeId) (parts : Array (Nat × Operand)) (ho : o.op = .buildSlice t 1 parts)
    (v : Value) (hv : v.cells = #[v]) (hu : P.underlying t = some (.slice e)) (hi : (P.info? e).map (fun i => (i.zero.map (·.cells.size), i.size)) = some (some 1, 1))
    (hparts : (parts.map fun (i, x) => (i, a.eval x)).toList = [(0, v)])
    (h : K (a.put o.dst (.slice (some ⟨w.heap.size, 0, none⟩) 1 1)) (w.alloc (.cells [v].toArray e))) : if Region.wanted o (yielded ops a.tmps) = true then Oper.wp P o a w K Q else E := by
  rw [if_pos hw]
  obtain ⟨ie, hie, hs⟩ := Option.map_eq_some_iff.1 hi
  simp only [Prod.mk.injEq] at hs
  obtain ⟨hz, hs1⟩ := hs
  obtain ⟨z, hz1, hz2⟩ := Option.map_eq_some_iff.1 hz
  refine wp_buildSlice t e 1 parts ho [v].toArray ie z hu hie hz1 (by rw [hs1]; omega) (by rw [hs1]; omega) ?_ h
  rw [hparts, hs1]
  have := Great.fill_whole (s := 1) (by omega) [v] ((Array.range (1 * 1)).map (z.cells[· % z.cells.size]!)) (by intro x hx; simp at hx; rw [hx, hv]; rfl) (by simp)
  simp only [List.zipIdx_cons, List.zipIdx_nil, List.map_cons, List.map_nil, List.flatMap_cons, List.flatMap_nil, List.append_nil, hv] at this
  simpa using this

def TrueS (w : World) (e : Ending) (w' : World) : Prop := e = .returned (.bool true) ∧ Keeps Nil w w'
theorem digest_nil : (digest []).getD 0 0 = 227 ∧ (digest []).getD 1 0 = 176 ∧ (digest []).getD 31 0 = 85 := by decide +kernel
theorem byteV_at (l : List Int) (i : Nat) (h : i < l.length) {x : Int} (hx : l.getD i 0 = x) : (byteV l)[i]? = some (.int .u8 x) := by
  subst hx; simp [byteV, List.getD, h]
theorem Try.sizeU8S (w : World) : (sizeOf 5).run Try.prog w = .ok 1 w := by kernel_rfl
theorem Try.eqlDig {l r : List Int} (hl : l.length = 32) (hr : r.length = 32) (bl : AreB l) (br : AreB r) (w : World) : (binOp .eql 26 (.agg (byteV l).toArray) (.agg (byteV r).toArray)).run Try.prog w = .ok (.bool (l == r)) w :=
  eqlKey 26 5 32 Try.undH Try.underlying5 Try.sizeU8S hl hr bl br w
theorem Try.eqlDigSame (l : List Int) (w : World) : (binOp .eql 26 (.agg (byteV (digest l)).toArray) (.agg (byteV (digest l)).toArray)).run Try.prog w = .ok (.bool true) w := by
  rw [Try.eqlDig (digest_len l) (digest_len l) (digest_bytes l) (digest_bytes l)]; simp
theorem Try.neqDig {l r : List Int} (hl : l.length = 32) (hr : r.length = 32) (bl : AreB l) (br : AreB r) (w : World) : (binOp .neq 26 (.agg (byteV l).toArray) (.agg (byteV r).toArray)).run Try.prog w = .ok (.bool (l != r)) w :=
  neqKey 26 5 32 Try.undH Try.underlying5 Try.sizeU8S hl hr bl br w
set_option maxRecDepth 20000 in
set_option maxHeartbeats 800000 in
theorem shafirst_walk (w : World) : Calls Try.prog 7 #[] w (TrueS w) := by
  have hd := digest_nil
  have hl := digest_len []
  have hzv := Try.zeroH32
  have hzz : (byteV z32).length = 32 := by rw [byteV_len, z32_len]
  have HS := Lib.hid (shaSum_walk (cap := 0) (ManyB.nil w) (by simp))
  simp only [List.flatten_nil] at HS
  have h1 := byteV_one (digest [])
  have c0 := byteV_at (digest []) 0 (by rw [hl]; omega) hd.1
  have c1 := byteV_at (digest []) 1 (by rw [hl]; omega) hd.2.1
  have c31 := byteV_at (digest []) 31 (by rw [hl]; omega) hd.2.2
  have hl32 : (byteV (digest [])).length = 32 := by rw [byteV_len, hl]
  have HL := Lib.hid (And.intro hl32 (And.intro hzz (And.intro c0 (And.intro c1 c31))))
  clear hd hl hzz c0 c1 c31 hl32
  generalize byteV (digest []) = D at *
  generalize byteV z32 = Z at *
  go_enter Try.func7, Try.ntmps7
  go_wp2_with fail
  refine HS.out.mono ?_
  rintro e w1 ⟨rfl, hk1⟩
  have hb := Blk.new w1 Z 26
  have hka := (Keeps.refl Nil w1).alloc (.cells Z.toArray 26)
  go_wp2_with (refine wpl_store rfl 26 _ _ rfl w1.heap.size rfl D rfl hb (by rw [HL.out.1, HL.out.2.1]) (by rw [HL.out.1]; exact Try.infoH) h1 ?_)
  intro w2 hb2 hk2 hs2
  have d0 := hb2.cell 0 HL.out.2.2.1
  have d1 := hb2.cell 1 HL.out.2.2.2.1
  have d31 := hb2.cell 31 HL.out.2.2.2.2
  have hK : Keeps Nil w w2 := (hk1.trans hka).step hk2 (fun i hi => .inr (by rw [show i = w1.heap.size from hi]; exact hk1.size))
  go_wp2_with fail
  go_ret
  exact ⟨by first | rfl | simp, hK⟩
end Go.Proofs.Ytnkahfpinkgimaa
