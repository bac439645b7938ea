/-
  What a row's list of api's errors gives the walks ('Errs'), and a world for the witness: the one that the door's own run leaves.
-/
import Derived.Test.YtkefbgkdkmkghaaDoorRows
import Derived.Test.YtkefbgkdkmkghaaDoorSee
import Derived.MakeChecks
import Derived.LaidSub
import Derived.LaidLaws
import Derived.RowKitTokens
import Derived.ChangeVars
import Derived.JoinedOf
namespace Go.Proofs.YtkefbgkdkmkghaaDoor
set_option linter.unusedSimpArgs false
set_option linter.unusedVariables false
open Go.ChangeShapes Go.WideShapes Go.RowKit

set_option maxRecDepth 100000
theorem Tryd.errorStar : "*" ++ "errors.errorString" = "*errors.errorString" := by decide
theorem Tryd.rowErr (u : TypeId) (h : Tryd.prog.typeName? 3 u = some "*errors.errorString") : u = 114 :=
  typeName_ptr_named (nm := "errors.errorString") (by rw [Tryd.errorStar]; kernel_rfl) (by kernel_rfl) (by decide) u (by rw [Tryd.errorStar]; exact h)
theorem Tryd.cellsErrStr : Tryd.prog.cellsOf 130 = 1 := by kernel_rfl
theorem Tryd.cellsStr : Tryd.prog.cellsOf 9 = 1 := by kernel_rfl

/-- How an error of api reads. -/
def errD (text : List UInt8) : DataW Unit := .iface "*errors.errorString" (.ptr (.agg [.lit (.string text)]))

/-- One listed error: its variable, its block, its text. -/
theorem err_of_laid {l : List (String × DataW Unit)} {W : World} (h : laidMetH Tryd.prog l W) {n : String} {text : List UInt8} {g : Nat}
    (hl : (l.filter fun x => x.1 == n) = [(n, errD text)]) (hg0 : Tryd.prog.globalNamed n = some g) (ht0 : (Tryd.prog.globals[g]?).map (·.type) = some 28) :
    ∃ (a : Addr) (s : ByteArray), W.cell? ⟨g, 0, none⟩ = some (.iface 114 (.pointer (some a))) ∧ W.cell? a = some (.string s) ∧ s.data.toList = text ∧ (∃ c t, W.heap[a.block]? = some (.cells c t (0, 0))) ∧ (∃ c t, W.heap[g]? = some (.cells c t (0, 0))) := by
  have h1 := h.filter (fun x => x.1 == n)
  rw [hl, MakeChecks.laidMetH_plain _ _ _ (by rfl)] at h1
  obtain ⟨ps, ⟨g', t, cs, f, p, q, hg, ht, hv, hd, hq, e⟩, _, hrows⟩ := h1
  obtain rfl := Option.some.inj (hg0.symm.trans hg)
  obtain rfl := Option.some.inj (ht0.symm.trans ht)
  have hq' : q = [] := hq
  subst hq'
  subst e
  obtain ⟨c⟩ := cs
  have ok : ∀ u v, c = [.iface u v] → Value.okWide Tryd.prog W .any 0 u v := fun u v e => by
    subst e
    exact (hrows g 0 (by simp [MemPlace.row])).2 u v (by simpa using World.var?_cell hg hv 0)
  obtain ⟨a, s, rfl, hc, hs, hz, rfl⟩ := errorString_of_trod Tryd.underlying28 Tryd.rowErr Tryd.underlying114 Tryd.underlying130 rfl rfl Tryd.underlying9 Tryd.cellsErrStr Tryd.cellsStr hd ok
  exact ⟨a, s, by simpa using World.var?_cell hg hv 0, hc, hs, (hrows a.block a.off (by simp [MemPlace.row])).1, (hrows g 0 (by simp [MemPlace.row])).1⟩

/-- api's errors' names, and their texts. -/
def errNames : List String := ["courier/api.ErrOff", "courier/api.ErrRange", "courier/api.ErrShort", "courier/api.ErrTrail", "courier/api.ErrForm", "courier/api.ErrPanic", "courier/api.ErrFull", "courier/api.ErrStore", "courier/api.ErrTag", "courier/api.ErrGap", "courier/api.ErrOld", "courier/api.ErrKey", "courier/api.ErrRoot", "courier/api.ErrNone", "courier/api.ErrOpen", "courier/api.ErrDigest", "courier/api.ErrState", "courier/api.ErrLimit", "courier/api.ErrClosed"]
def errTexts : List (List UInt8) := [[116, 104, 101, 114, 101, 32, 105, 115, 32, 110, 111, 32, 112, 111, 119, 101, 114], [97, 32, 110, 117, 109, 98, 101, 114, 32, 111, 117, 116, 32, 111, 102, 32, 105, 116, 115, 32, 114, 97, 110, 103, 101], [98, 121, 116, 101, 115, 32, 116, 104, 97, 116, 32, 101, 110, 100, 32, 116, 111, 111, 32, 101, 97, 114, 108, 121], [98, 121, 116, 101, 115, 32, 98, 101, 104, 105, 110, 100, 32, 116, 104, 101, 32, 101, 110, 100], [110, 111, 116, 32, 97, 115, 32, 105, 116, 32, 115, 104, 111, 117, 108, 100, 32, 98, 101], [115, 111, 109, 101, 116, 104, 105, 110, 103, 32, 119, 101, 110, 116, 32, 119, 114, 111, 110, 103], [116, 104, 101, 114, 101, 32, 105, 115, 32, 110, 111, 32, 114, 111, 111, 109], [97, 32, 115, 116, 111, 114, 101, 32, 116, 104, 97, 116, 32, 99, 97, 110, 39, 116, 32, 98, 101], [110, 111, 116, 32, 115, 101, 97, 108, 101, 100, 32, 98, 121, 32, 116, 104, 97, 116, 32, 107, 101, 121], [116, 111, 111, 32, 109, 97, 110, 121, 32, 97, 114, 101, 32, 109, 105, 115, 115, 105, 110, 103], [116, 104, 97, 116, 32, 119, 97, 115, 32, 116, 104, 101, 114, 101, 32, 97, 108, 114, 101, 97, 100, 121], [110, 111, 32, 107, 101, 121, 32, 121, 101, 116], [97, 110, 111, 116, 104, 101, 114, 32, 114, 111, 111, 116], [116, 104, 101, 114, 101, 32, 105, 115, 32, 110, 111, 110, 101], [105, 116, 32, 105, 115, 32, 116, 104, 101, 114, 101, 32, 97, 108, 114, 101, 97, 100, 121], [97, 110, 111, 116, 104, 101, 114, 32, 100, 105, 103, 101, 115, 116], [110, 111, 116, 32, 110, 111, 119], [109, 111, 114, 101, 32, 116, 104, 97, 110, 32, 109, 97, 121, 32, 98, 101], [99, 108, 111, 115, 101, 100]]
theorem errTexts_inj : ((List.range 19).all fun j => (List.range 19).all fun k => errTexts.getD j [] != errTexts.getD k [] || j == k) = true := by kernel_rfl
theorem errTexts_one {j k : Nat} (hj : j < 19) (hk : k < 19) (h : errTexts.getD j [] = errTexts.getD k []) : j = k := by
  have := List.all_eq_true.1 (List.all_eq_true.1 errTexts_inj j (List.mem_range.2 hj)) k (List.mem_range.2 hk)
  rw [h] at this
  simpa using this
theorem errNames_at : ((List.range 19).all fun k => Tryd.prog.globalNamed (errNames.getD k "") == some (gnums.getD k 0) && (Tryd.prog.globals[gnums.getD k 0]?).map (·.type) == some 28) = true := by kernel_rfl
theorem errName {k : Nat} (hk : k < 19) : Tryd.prog.globalNamed (errNames.getD k "") = some (gnums.getD k 0) ∧ (Tryd.prog.globals[gnums.getD k 0]?).map (·.type) = some 28 := by
  have := List.all_eq_true.1 errNames_at k (List.mem_range.2 hk)
  simpa using this

/-- The k-th error, where a row lists it. -/
theorem errk_of_laid {l : List (String × DataW Unit)} {W : World} (h : laidMetH Tryd.prog l W) {k : Nat} (hk : k < 19) (hl : (l.filter fun x => x.1 == errNames.getD k "") = [(errNames.getD k "", errD (errTexts.getD k []))]) :
    ∃ (a : Addr) (s : ByteArray), W.cell? ⟨gnums.getD k 0, 0, none⟩ = some (.iface 114 (.pointer (some a))) ∧ W.cell? a = some (.string s) ∧ s.data.toList = errTexts.getD k [] ∧ (∃ c t, W.heap[a.block]? = some (.cells c t (0, 0))) ∧ (∃ c t, W.heap[gnums.getD k 0]? = some (.cells c t (0, 0))) :=
  err_of_laid h hl (errName hk).1 (errName hk).2

/-- All of api's errors, as the whole list gives them. -/
theorem errs_of_laid {l : List (String × DataW Unit)} {W : World} (h : laidMetH Tryd.prog l W) (hl : ∀ k, k < 19 → (l.filter fun x => x.1 == errNames.getD k "") = [(errNames.getD k "", errD (errTexts.getD k []))]) :
    ∃ p, Errs W p := by
  have H : ∀ k, ∃ a : Addr, k < 19 → ∃ s : ByteArray, W.cell? ⟨gnums.getD k 0, 0, none⟩ = some (.iface 114 (.pointer (some a))) ∧ W.cell? a = some (.string s) ∧ s.data.toList = errTexts.getD k [] ∧ (∃ c t, W.heap[a.block]? = some (.cells c t (0, 0))) := fun k => by
    by_cases hk : k < 19
    · obtain ⟨a, s, h1, h2, h3, h4, _⟩ := errk_of_laid h hk (hl k hk)
      exact ⟨a, fun _ => ⟨s, h1, h2, h3, h4⟩⟩
    · exact ⟨⟨0, 0, none⟩, fun h => absurd h hk⟩
  obtain ⟨p, hp⟩ := Classical.axiomOfChoice H
  refine ⟨p, fun k hk => ?_, fun j k hj hk e => ?_, fun k hk => ?_⟩
  · obtain ⟨_, h1, _⟩ := hp k hk
    exact h1
  · obtain ⟨s, _, h1, h2, _⟩ := hp j hj
    obtain ⟨s', _, h1', h2', _⟩ := hp k hk
    rw [e] at h1
    have := h1.symm.trans h1'
    injection this with this
    injection this with this
    subst this
    exact errTexts_one hj hk (h2.symm.trans h2')
  · obtain ⟨_, _, _, _, h4⟩ := hp k hk
    exact h4

/-- The whole list, as the rows give it: the datum of each name. -/
def all19 : List (String × DataW Unit) := [("courier/api.ErrOff", Rows.laid_courier_api_ErrOff), ("courier/api.ErrRange", Rows.laid_courier_api_ErrRange), ("courier/api.ErrShort", Rows.laid_courier_api_ErrShort), ("courier/api.ErrTrail", Rows.laid_courier_api_ErrTrail), ("courier/api.ErrForm", Rows.laid_courier_api_ErrForm), ("courier/api.ErrPanic", Rows.laid_courier_api_ErrPanic), ("courier/api.ErrFull", Rows.laid_courier_api_ErrFull), ("courier/api.ErrStore", Rows.laid_courier_api_ErrStore), ("courier/api.ErrTag", Rows.laid_courier_api_ErrTag), ("courier/api.ErrGap", Rows.laid_courier_api_ErrGap), ("courier/api.ErrOld", Rows.laid_courier_api_ErrOld), ("courier/api.ErrKey", Rows.laid_courier_api_ErrKey), ("courier/api.ErrRoot", Rows.laid_courier_api_ErrRoot), ("courier/api.ErrNone", Rows.laid_courier_api_ErrNone), ("courier/api.ErrOpen", Rows.laid_courier_api_ErrOpen), ("courier/api.ErrDigest", Rows.laid_courier_api_ErrDigest), ("courier/api.ErrState", Rows.laid_courier_api_ErrState), ("courier/api.ErrLimit", Rows.laid_courier_api_ErrLimit), ("courier/api.ErrClosed", Rows.laid_courier_api_ErrClosed)]
theorem all19_one (k : Nat) (hk : k < 19) : (all19.filter fun x => x.1 == errNames.getD k "") = [(errNames.getD k "", errD (errTexts.getD k []))] :=
  match k, hk with
  | 0, _ => by kernel_rfl
  | 1, _ => by kernel_rfl
  | 2, _ => by kernel_rfl
  | 3, _ => by kernel_rfl
  | 4, _ => by kernel_rfl
  | 5, _ => by kernel_rfl
  | 6, _ => by kernel_rfl
  | 7, _ => by kernel_rfl
  | 8, _ => by kernel_rfl
  | 9, _ => by kernel_rfl
  | 10, _ => by kernel_rfl
  | 11, _ => by kernel_rfl
  | 12, _ => by kernel_rfl
  | 13, _ => by kernel_rfl
  | 14, _ => by kernel_rfl
  | 15, _ => by kernel_rfl
  | 16, _ => by kernel_rfl
  | 17, _ => by kernel_rfl
  | 18, _ => by kernel_rfl
  | n + 19, h => absurd h (by omega)
end Go.Proofs.YtkefbgkdkmkghaaDoor
