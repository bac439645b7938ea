/-
  head.Read.
-/
import Derived.Test.YtdkfhfflhglmaaaDoorHeadRead
namespace Go.Proofs.YtdkfhfflhglmaaaDoor
set_option linter.unusedSimpArgs false
set_option linter.unusedVariables false
open Go.RowKit

def zk : List Int := List.replicate 32 0
theorem zk_len : zk.length = 32 := by simp [zk]
def zeroH : List Value := headV zk 0 0
theorem Tryd.zeroHead (w : World) : (zeroValue 76).run Tryd.prog w = .ok (.agg zeroH.toArray) w := by kernel_rfl
theorem Tryd.builtHead0 : Tryd.prog.built 76 [] = some zeroH.toArray := by kernel_rfl
theorem Tryd.infoHead : (Tryd.prog.info? 76).map (·.size) = some 34 := by kernel_rfl
theorem headV_len (k : List Int) (pn n : Int) (h : k.length = 32) : (headV k pn n).length = 34 := by simp [headV, h]
theorem headV_one (k : List Int) (pn n : Int) : ∀ v ∈ headV k pn n, v.oneCell' = true := fun v hv => by
  unfold headV at hv
  rcases List.mem_append.1 hv with hv | hv
  · obtain ⟨x, _, rfl⟩ := List.mem_map.1 hv; rfl
  · simp only [List.mem_cons, List.not_mem_nil, or_false] at hv
    rcases hv with rfl | rfl <;> rfl

/-- What Read tells, by how many bytes there are. -/
def readC (n : Nat) : Int := if n = 40 then 0 else if n < 40 then 103 else 104
def readP (n : Nat) : Bool := decide (n ≠ 40)
def readQ (n : Nat) : Int := if n = 40 then 0 else if n < 40 then headQ n else 40
/-- The header that Read hands back. -/
def readH (l : List Int) : List Value := if l.length = 40 then headV (l.take 32) (num4 l 32) (num4 l 36) else zeroH
def HeadPost (p : Nat → Addr) (l : List Int) (w : World) (e : Ending) (w' : World) : Prop :=
  ∃ v, e = .returned (.tuple #[.agg (readH l).toArray, v]) ∧ IsErr w' p v (readC l.length) (readP l.length) (readQ l.length) ∧ FreshAt w v ∧ Keeps Nil w w'

set_option maxRecDepth 20000 in
set_option maxHeartbeats 3200000 in
theorem headRead_walk {w : World} {p : Nat → Addr} (hE : Errs w p) {a : Option Addr} {len capb : Nat} {l : List Int} (hrow : Row .u8 w a len l) (hnil : a = none → capb = 0 ∧ len = 0) (hlen : len ≤ 100000) :
    Calls Tryd.prog 60 #[.slice a len capb] w (HeadPost p l w) := by
  have hmf : ∀ (fn : Fn) (first cap : Array Value) (w : World), (Instr.makeFunc fn first cap).run Tryd.prog w = .ok (.func fn first cap) w := fun _ _ _ _ => rfl
  have hl := hrow.llen
  have hHA := ((Has.nil w).cons zeroH 76 rfl).cons zeroH 76 (n := w.heap.size + 1) (by rw [size_alloc'])
  have hkA : Keeps Nil w ((w.alloc (.cells zeroH.toArray 76)).alloc (.cells zeroH.toArray 76)) := ((Keeps.refl Nil w).alloc _).alloc _
  have hszA : ((w.alloc (.cells zeroH.toArray 76)).alloc (.cells zeroH.toArray 76)).heap.size = w.heap.size + 2 := by rw [size_alloc', size_alloc']
  have hzv := Tryd.zeroHead
  have HZ := Lib.hid (show zeroH = headV zk 0 0 from rfl)
  have HB0 := Lib.hid Tryd.builtHead0
  have hz34 : zeroH.length = 34 := headV_len zk 0 0 zk_len
  have hz1 : ∀ v ∈ zeroH, v.oneCell' = true := headV_one zk 0 0
  have HRH := Lib.hid (show readH l = if l.length = 40 then headV (l.take 32) (num4 l 32) (num4 l 36) else zeroH from rfl)
  generalize hzz : zeroH = zc at *
  go_enter Tryd.func60, Tryd.ntmps60
  go_wp2_with fail
  generalize ((w.alloc (.cells zc.toArray 76)).alloc (.cells zc.toArray 76)) = wA at *
  clear hzz
  generalize hgh : w.heap.size + 1 = gh at *
  have hrowA := hrow.keep hkA
  refine (codeRead_walk 92 #[.pointer (some ⟨gh, 0, none⟩)] wA (fun _ _ => by kernel_rfl) hE.two hkA hrowA hnil hlen (S := One gh) (fun k hk => by rw [show k = gh from hk]; omega) (R := fun _ => HeadR gh l)
    (fun c w5 gr ar cr h5 hc1 hc2 hold hne hrd => ?_)).mono ?_
  · have hgr := hold gr (.inl rfl)
    have hb := (hHA.at 0 (g := gh) rfl).keep0 h5
    rw [HZ.out] at hb
    exact headIn_walk hE (hkA.trans h5) (by omega) zk_len hb hrd (by omega) (by omega) (fun h => by have := hold _ h; omega)
  rintro e w6 ⟨o, v, c, w7, rfl, hI, hfr, hR, hup, hk6, hc6⟩
  have hk6w : Keeps Nil w w6 := hkA.step hk6 (fun i hi => .inr (by rw [show i = gh from hi]; omega))
  have hB6 := (hHA.at 1 (g := w.heap.size) rfl).keep hk6 (fun h => by have : w.heap.size = gh := h; omega)
  have hfr6 : FreshAt w v := fun b hb => by have := hfr b hb; omega
  unfold HeadR at hR
  by_cases h40 : l.length = 40
  · rw [if_pos (by omega)] at hR
    obtain ⟨rfl, hb7⟩ := hR
    have hb6 := hb7.keep hup (fun hi => by have := hi.1; omega)
    obtain rfl := hI.none (by simp [outC, h40])
    have hH := HRH.out
    rw [if_pos h40] at hH
    have h34 : (headV (l.take 32) (num4 l 32) (num4 l 36)).length = 34 := headV_len _ _ _ (by simp; omega)
    have h1c := headV_one (l.take 32) (num4 l 32) (num4 l 36)
    rw [← hH] at h34 h1c hb6
    have HI := Lib.hid hI
    clear hI hup hk6 hHA hkA hrowA hrow hb7 HZ HRH hH hE
    go_wp2_with (first | (refine wpl_load rfl 76 _ rfl gh rfl hb6 _ Tryd.underlying76 rfl (by rw [h34]; exact Tryd.infoHead) ?_) | (refine wpl_store rfl 76 _ _ rfl w.heap.size rfl (readH l) rfl hB6 (by rw [h34, hz34]) (by rw [h34]; exact Tryd.infoHead) h1c ?_))
    intro w8 hb8 hk8 hs8
    go_wp2_with fail
    refine ret_blk_tmp Tryd.results60 w.heap.size rfl hb8 _ Tryd.underlying76 rfl (by rw [h34]; exact Tryd.infoHead) rfl rfl ⟨.nilIface, rfl, ?_, freshAt_nil _, hk6w.step hk8 (fun i hi => .inr (by rw [show i = w.heap.size from hi]; exact Nat.le_refl _))⟩
    exact .inl ⟨rfl, by simp [readC, h40], by simp [readP, h40], by simp [readQ, h40]⟩
  · have hH := HRH.out
    rw [if_neg h40] at hH
    have hI2 : IsErr w6 p v (readC l.length) (readP l.length) (readQ l.length) := by
      by_cases hlt : l.length < 40
      · rw [if_neg (by omega)] at hR
        obtain rfl := hR
        have e1 : readC l.length = 103 := by simp [readC, h40, hlt]
        have e2 : readP l.length = true := by simp [readP, h40]
        have e3 : readQ l.length = headQ l.length := by simp [readQ, h40, hlt]
        rw [e1, e2, e3]; exact hI
      · rw [if_pos (by omega)] at hR
        obtain ⟨rfl, _⟩ := hR
        have hgt : 40 < l.length := by omega
        have e1 : readC l.length = 104 := by simp [readC, h40, hlt]
        have e2 : readP l.length = true := by simp [readP, h40]
        have e3 : readQ l.length = 40 := by simp [readQ, h40, hlt]
        rw [e1, e2, e3]
        have g1 : outC l.length (.done 40) = 104 := by simp [outC, hgt]
        have g2 : outP l.length (.done 40) = true := by simp [outP, hgt]
        have g3 : outQ l.length (.done 40) = 40 := by simp [outQ, hgt]
        rw [g1, g2, g3] at hI
        exact hI
    obtain ⟨tv, xv, rfl⟩ := hI2.some (by unfold readC; rw [if_neg h40]; split <;> decide)
    have HI := Lib.hid hI2
    have HH := Lib.hid hH
    clear hI hI2 hR hup hk6 hHA hkA hrowA hrow HZ HRH hH hE
    go_wp2_with (first | (refine wpl_build rfl 76 _ rfl zc _ HB0.out (by first | rfl | simp [Act.eval]) ?_) | (refine wpl_store rfl 76 _ _ rfl w.heap.size rfl zc rfl hB6 rfl (by rw [hz34]; exact Tryd.infoHead) hz1 ?_))
    intro w8 hb8 hk8 hs8
    go_wp2_with fail
    refine ret_blk_tmp Tryd.results60 w.heap.size rfl hb8 _ Tryd.underlying76 rfl (by rw [hz34]; exact Tryd.infoHead) rfl rfl ⟨.iface tv xv, ?_, ?_, hfr6, hk6w.step hk8 (fun i hi => .inr (by rw [show i = w.heap.size from hi]; exact Nat.le_refl _))⟩
    · rw [HH.out]; rfl
    · exact HI.out.keepS hk8 (fun bb hbb e => by have h1 := hfr bb hbb; have h2 : bb = w.heap.size := e; omega)
end Go.Proofs.YtdkfhfflhglmaaaDoor
