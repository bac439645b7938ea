/-
  The law ShaVectors.
-/
import Derived.Test.YtnkahfpinkgimaaShaHex
namespace Go.Proofs.Ytnkahfpinkgimaa
open Go.RowKit

def txt0 : List UInt8 := [97, 98, 99]
def txt1 : List UInt8 := [97, 98, 99, 100, 98, 99, 100, 101, 99, 100, 101, 102, 100, 101, 102, 103, 101, 102, 103, 104, 102, 103, 104, 105, 103, 104, 105, 106, 104, 105, 106, 107, 105, 106, 107, 108, 106, 107, 108, 109, 107, 108, 109, 110, 108, 109, 110, 111, 109, 110, 111, 112, 110, 111, 112, 113]
def wnt0 : List UInt8 := [98, 97, 55, 56, 49, 54, 98, 102, 56, 102, 48, 49, 99, 102, 101, 97, 52, 49, 52, 49, 52, 48, 100, 101, 53, 100, 97, 101, 50, 50, 50, 51, 98, 48, 48, 51, 54, 49, 97, 51, 57, 54, 49, 55, 55, 97, 57, 99, 98, 52, 49, 48, 102, 102, 54, 49, 102, 50, 48, 48, 49, 53, 97, 100]
def wnt1 : List UInt8 := [50, 52, 56, 100, 54, 97, 54, 49, 100, 50, 48, 54, 51, 56, 98, 56, 101, 53, 99, 48, 50, 54, 57, 51, 48, 99, 51, 101, 54, 48, 51, 57, 97, 51, 51, 99, 101, 52, 53, 57, 54, 52, 102, 102, 50, 49, 54, 55, 102, 54, 101, 99, 101, 100, 100, 52, 49, 57, 100, 98, 48, 54, 99, 49]
def wnt2 : List UInt8 := [101, 51, 98, 48, 99, 52, 52, 50, 57, 56, 102, 99, 49, 99, 49, 52, 57, 97, 102, 98, 102, 52, 99, 56, 57, 57, 54, 102, 98, 57, 50, 52, 50, 55, 97, 101, 52, 49, 101, 52, 54, 52, 57, 98, 57, 51, 52, 99, 97, 52, 57, 53, 57, 57, 49, 98, 55, 56, 53, 50, 98, 56, 53, 53]
def ofU (l : List UInt8) : List Int := l.map fun b => (b.toNat : Int)
theorem vec0 : hexL (digest (ofU txt0)) = wnt0 := by decide +kernel
theorem vec1 : hexL (digest (ofU txt1)) = wnt1 := by decide +kernel
theorem vec2 : hexL (digest (ofU [])) = wnt2 := by decide +kernel

/-- The world where the digest is asked for. -/
theorem vec_world (w1 : World) (T Wn : List Value) (sp : Array Value) (bs : List Int) (cp k : Nat) (sv : Value) (hbs : ∀ x ∈ bs, (Lit.int .u8 x).wf = true) (hl : bs.length ≤ 1000) (hk : Wn[k]? = some sv) :
    ∀ wS, wS = ((((w1.alloc (.cells T.toArray 9)).alloc (.cells Wn.toArray 9)).alloc (.cells ((byteV bs).toArray ++ sp) 5)).alloc (.cells [.slice (some ⟨w1.heap.size + 1 + 1, 0, none⟩) bs.length cp].toArray 22)).drew →
    ManyB wS (some ⟨w1.heap.size + 1 + 1 + 1, 0, none⟩) 1 [bs] ∧ wS.cell? ⟨w1.heap.size + 1, k, none⟩ = some sv ∧ Keeps Nil w1 wS := fun wS h => by
  rw [show (byteV bs).toArray ++ sp = (byteV bs ++ sp.toList).toArray by simp] at h
  generalize sp.toList = sp at *
  have s1 : (w1.alloc (.cells T.toArray 9)).heap.size = w1.heap.size + 1 := Array.size_push _
  have b2 := Blk.new (w1.alloc (.cells T.toArray 9)) Wn 9
  have k1 := (Keeps.refl Nil w1).alloc (.cells T.toArray 9)
  have k2 := k1.alloc (.cells Wn.toArray 9)
  have s2 : ((w1.alloc (.cells T.toArray 9)).alloc (.cells Wn.toArray 9)).heap.size = w1.heap.size + 1 + 1 := by rw [size_alloc', s1]
  rw [s1] at b2
  generalize (w1.alloc (.cells T.toArray 9)).alloc (.cells Wn.toArray 9) = w2 at *
  have b3 := Blk.new w2 (byteV bs ++ sp) 5
  have q3 := (Keeps.refl Nil w2).alloc (.cells (byteV bs ++ sp).toArray 5)
  have s3 : (w2.alloc (.cells (byteV bs ++ sp).toArray 5)).heap.size = w1.heap.size + 1 + 1 + 1 := by rw [size_alloc', s2]
  rw [s2] at b3
  have b23 := b2.keep0 q3
  have k3 := k2.trans q3
  generalize w2.alloc (.cells (byteV bs ++ sp).toArray 5) = w3 at *
  have b4 := Blk.new w3 [.slice (some ⟨w1.heap.size + 1 + 1, 0, none⟩) bs.length cp] 22
  have q4 := (Keeps.refl Nil w3).alloc (.cells [.slice (some ⟨w1.heap.size + 1 + 1, 0, none⟩) bs.length cp].toArray 22)
  rw [s3] at b4
  have q5 := q4.drew
  subst h
  have b34 := b3.keep0 q5
  refine ⟨ManyB.one (b4.keep0 ((Keeps.refl Nil _).drew)) ⟨rfl, by omega, fun h0 => ⟨_, 0, rfl, b34.lt, fun i hi => ?_⟩, hbs⟩ (fun h => by cases h), (b23.keep0 q5).cell k hk, k3.trans q5⟩
  rw [Nat.zero_add]
  exact b34.cell i (by rw [List.getElem?_append_left (by rw [byteV_len]; exact hi)]; exact byteV_at bs i hi rfl)

theorem vec_world0 (w1 : World) (T Wn : List Value) (k : Nat) (sv : Value) (hk : Wn[k]? = some sv) :
    ∀ wS, wS = (((w1.alloc (.cells T.toArray 9)).alloc (.cells Wn.toArray 9)).alloc (.cells [.slice none 0 0].toArray 22)) →
    ManyB wS (some ⟨w1.heap.size + 1 + 1, 0, none⟩) 1 [[]] ∧ wS.cell? ⟨w1.heap.size + 1, k, none⟩ = some sv ∧ Keeps Nil w1 wS := fun wS h => by
  have s1 : (w1.alloc (.cells T.toArray 9)).heap.size = w1.heap.size + 1 := Array.size_push _
  have b2 := Blk.new (w1.alloc (.cells T.toArray 9)) Wn 9
  have k2 := ((Keeps.refl Nil w1).alloc (.cells T.toArray 9)).alloc (.cells Wn.toArray 9)
  have s2 : ((w1.alloc (.cells T.toArray 9)).alloc (.cells Wn.toArray 9)).heap.size = w1.heap.size + 1 + 1 := by rw [size_alloc', s1]
  rw [s1] at b2
  generalize (w1.alloc (.cells T.toArray 9)).alloc (.cells Wn.toArray 9) = w2 at *
  have b4 := Blk.new w2 [.slice none 0 0] 22
  have q4 := (Keeps.refl Nil w2).alloc (.cells [.slice none 0 0].toArray 22)
  rw [s2] at b4
  subst h
  exact ⟨ManyB.one b4 (row_none _) (fun _ => ⟨rfl, rfl⟩), (b2.keep0 q4).cell k hk, k2.trans q4⟩

set_option maxRecDepth 20000 in
set_option maxHeartbeats 3200000 in
theorem shaVectors_walk (n : Int) (w : World) (w0 : (Lit.int .i64 n).wf = true) :
    Calls Try.prog 4 #[.int .i64 n] w (TrueS w) := by
  have hn := i64_wf w0
  clear w0
  have hzv := Try.zeroH32
  have HZZ := Lib.hid (show (byteV z32).length = 32 by rw [byteV_len, z32_len])
  generalize byteV z32 = ZZ at *
  go_enter Try.func4, Try.ntmps4
  go_wp2_with fail
  refine (shafirst_walk w).mono ?_
  rintro e w1 ⟨rfl, hk1⟩
  go_wp2_with fail
  refine (number_walk n 3 _ hn.1 hn.2 (by omega) (by omega)).mono ?_
  rintro e w2 ⟨rfl, rfl⟩
  have HWW := Lib.hid (vec_world w1 [.string ⟨txt0.toArray⟩, .string ⟨txt1.toArray⟩, .string ⟨#[]⟩] [.string ⟨wnt0.toArray⟩, .string ⟨wnt1.toArray⟩, .string ⟨wnt2.toArray⟩])
  have h3 : n % 3 = 0 ∨ n % 3 = 1 ∨ n % 3 = 2 := by omega
  rcases h3 with h3 | h3 | h3
  · rw [h3]
    clear h3 hn
    go_wp2_with fail
    generalize hwS : World.drew _ = wS at *
    obtain ⟨hM, hwant, hkS⟩ := HWW.out (Builtin.zeroCells #[Value.int IntKind.u8 0] ((Question.appendCap 3 0 5).cut (w1.tape w1.drawn (Question.appendCap 3 0 5)) - 3)) [97, 98, 99] ((Question.appendCap 3 0 5).cut (w1.tape w1.drawn (Question.appendCap 3 0 5))) 0 (.string ⟨wnt0.toArray⟩) (by decide) (by decide) rfl wS (by subst hwS; simp [byteV, txt0, txt1, wnt0, wnt1, wnt2])
    have hxd := vec0
    have hdb := byteV_one (digest (ofU txt0))
    have hdl : (byteV (digest (ofU txt0))).length = 32 := by rw [byteV_len, digest_len]
    have hdr := digest_bytes (ofU txt0)
    have hde := digest_len (ofU txt0)
    refine (shaSum_walk hM (by decide)).mono ?_
    rintro e w3 ⟨rfl, hk3⟩
    rw [show ([[97, 98, 99]] : List (List Int)).flatten = ofU txt0 from rfl]
    have hK3 := hk1.trans (hkS.trans hk3)
    have hwt := hk3.cell hwant (fun h => h)
    generalize digest (ofU txt0) = D at *
    have hb := Blk.new w3 ZZ 26
    have hka := (Keeps.refl Nil w3).alloc (.cells ZZ.toArray 26)
    clear hM hwant hkS hk3 hwS
    go_wp2_with (refine wpl_store rfl 26 _ _ rfl w3.heap.size rfl (byteV D) rfl hb (by rw [hdl, HZZ.out]) (by rw [hdl]; exact Try.infoH) hdb ?_)
    intro w4 hb4 hk4 _
    have hk34 : Keeps Nil w3 w4 := hka.step hk4 (fun i hi => .inr (by rw [show i = w3.heap.size from hi]; exact Nat.le_refl _))
    have hwt4 := hk34.cell hwt (fun h => h)
    have hK4 := hK3.trans hk34
    clear hb hka hk4 hk34 hwt hK3
    generalize w3.heap.size = g8 at *
    have hrow : Row .u8 w4.drew (some ⟨g8, 0, none⟩) 32 D := ⟨hde, by omega, fun _ => ⟨g8, 0, rfl, hb4.lt, fun i hi => by rw [Nat.zero_add]; exact hb4.cell i (byteV_at D i (by omega) rfl)⟩, fun x hx => wf_u8 (hdr x hx).1 (hdr x hx).2⟩
    have hhx := hex_walk (cap := 32) hrow (by omega)
    rw [show hexB D = ⟨wnt0.toArray⟩ by unfold hexB; rw [hxd]] at hhx
    have HHX := Lib.hid hhx
    clear hhx hrow hb4 hdb hdl hdr hde hxd
    go_wp2_with fail
    refine wp_region_held_drew (S := fun w' => w'.cell? ⟨w1.heap.size + 1, 0, none⟩ = some (.string ⟨wnt0.toArray⟩)) (by kernel_rfl) hwt4 (fun hHeld => ?_)
    have hkd : Keeps Nil w4 w4.drew := (Keeps.refl Nil w4).drew
    refine takeL (i := 0) (v := _) rfl (by kernel_rfl) (by kernel_rfl) (by kernel_rfl) (fun _ _ _ h => h) (Or.inl ⟨by rfl, by intro w hSw; (try dsimp only at hSw); go_simp; try with_reducible rfl⟩) (by assumption) ?_
    try simp only [Act.put, List.setIfInBounds_toArray, List.set_cons_zero, List.set_cons_succ]
    refine takeL (i := 1) (v := _) rfl (by kernel_rfl) (by kernel_rfl) (by kernel_rfl) (fun _ _ _ h => h) (Or.inl ⟨by rfl, by intro w hSw; (try dsimp only at hSw); go_simp; try with_reducible rfl⟩) (by assumption) ?_
    try simp only [Act.put, List.setIfInBounds_toArray, List.set_cons_zero, List.set_cons_succ]
    refine takeL (i := 2) (v := _) rfl (by kernel_rfl) (by kernel_rfl) (by kernel_rfl) (fun _ _ _ h => h) (Or.inl ⟨by rfl, by intro w hSw; (try dsimp only at hSw); go_simp; try with_reducible rfl⟩) (by assumption) ?_
    try simp only [Act.put, List.setIfInBounds_toArray, List.set_cons_zero, List.set_cons_succ]
    refine takeL (i := 4) (v := _) rfl (by kernel_rfl) (by kernel_rfl) (by kernel_rfl) (fun _ _ _ h => h) (Or.inl ⟨by rfl, by intro w hSw; (try dsimp only at hSw); go_simp; try with_reducible rfl⟩) (by assumption) ?_
    try simp only [Act.put, List.setIfInBounds_toArray, List.set_cons_zero, List.set_cons_succ]
    refine takeL (i := 5) (v := _) rfl (by kernel_rfl) (by kernel_rfl) (by kernel_rfl) (fun _ _ _ h => h) (Or.inl ⟨by rfl, by intro w hSw; (try dsimp only at hSw); go_simp; try with_reducible rfl⟩) (by assumption) ?_
    try simp only [Act.put, List.setIfInBounds_toArray, List.set_cons_zero, List.set_cons_succ]
    refine takeL (i := 6) (v := _) rfl (by kernel_rfl) (by kernel_rfl) (by kernel_rfl) (fun _ _ _ h => h) (Or.inl ⟨by rfl, by intro w hSw; (try dsimp only at hSw); go_simp; try with_reducible rfl⟩) (by assumption) ?_
    try simp only [Act.put, List.setIfInBounds_toArray, List.set_cons_zero, List.set_cons_succ]
    refine takeL (i := 7) (v := _) rfl (by kernel_rfl) (by kernel_rfl) (by kernel_rfl) (fun _ _ _ h => h) (Or.inl ⟨by rfl, by intro w hSw; (try dsimp only at hSw); go_simp; try with_reducible rfl⟩) (by assumption) ?_
    try simp only [Act.put, List.setIfInBounds_toArray, List.set_cons_zero, List.set_cons_succ]
    refine onlyL (i := 3) rfl (by kernel_rfl) (fun K hK => ?_)
    go_simp
    refine HHX.out.mono ?_
    rintro e w5 ⟨rfl, hk5⟩
    refine (fun hHeld => hK _ _ hHeld ?_) (hk5.cell (hkd.cell hwt4 (fun h => h)) (fun h => h))
    clear hK
    try simp only [Act.put, List.setIfInBounds_toArray, List.set_cons_zero, List.set_cons_succ]
    refine takeL (i := 8) (v := _) rfl (by kernel_rfl) (by kernel_rfl) (by kernel_rfl) (fun _ _ _ h => h) (Or.inl ⟨by rfl, by intro w hSw; (try dsimp only at hSw); go_simp; try with_reducible rfl⟩) (by assumption) ?_
    try simp only [Act.put, List.setIfInBounds_toArray, List.set_cons_zero, List.set_cons_succ]
    refine takeL (i := 9) (v := _) rfl (by kernel_rfl) (by kernel_rfl) (by kernel_rfl) (fun _ _ _ h => h) (Or.inl ⟨by rfl, by intro w hSw; (try dsimp only at hSw); go_simp; try with_reducible rfl⟩) (by assumption) ?_
    try simp only [Act.put, List.setIfInBounds_toArray, List.set_cons_zero, List.set_cons_succ]
    refine takeL (i := 10) (v := _) rfl (by kernel_rfl) (by kernel_rfl) (by kernel_rfl) (fun _ _ _ h => h) (Or.inl ⟨by rfl, by intro w hSw; (try dsimp only at hSw); go_simp; try with_reducible rfl⟩) (by assumption) ?_
    try simp only [Act.put, List.setIfInBounds_toArray, List.set_cons_zero, List.set_cons_succ]
    refine wpAnyH_done (by kernel_rfl) ?_ _
    go_wp2_with fail
    go_ret
    exact ⟨by first | rfl | simp, hK4.trans (hkd.trans hk5)⟩
  · rw [h3]
    clear h3 hn
    go_wp2_with fail
    generalize hwS : World.drew _ = wS at *
    obtain ⟨hM, hwant, hkS⟩ := HWW.out (Builtin.zeroCells #[Value.int IntKind.u8 0] ((Question.appendCap 56 0 5).cut (w1.tape w1.drawn (Question.appendCap 56 0 5)) - 56)) [97, 98, 99, 100, 98, 99, 100, 101, 99, 100, 101, 102, 100, 101, 102, 103, 101, 102, 103, 104, 102, 103, 104, 105, 103, 104, 105, 106, 104, 105, 106, 107, 105, 106, 107, 108, 106, 107, 108, 109, 107, 108, 109, 110, 108, 109, 110, 111, 109, 110, 111, 112, 110, 111, 112, 113] ((Question.appendCap 56 0 5).cut (w1.tape w1.drawn (Question.appendCap 56 0 5))) 1 (.string ⟨wnt1.toArray⟩) (by decide) (by decide) rfl wS (by subst hwS; simp [byteV, txt0, txt1, wnt0, wnt1, wnt2])
    have hxd := vec1
    have hdb := byteV_one (digest (ofU txt1))
    have hdl : (byteV (digest (ofU txt1))).length = 32 := by rw [byteV_len, digest_len]
    have hdr := digest_bytes (ofU txt1)
    have hde := digest_len (ofU txt1)
    refine (shaSum_walk hM (by decide)).mono ?_
    rintro e w3 ⟨rfl, hk3⟩
    rw [show ([[97, 98, 99, 100, 98, 99, 100, 101, 99, 100, 101, 102, 100, 101, 102, 103, 101, 102, 103, 104, 102, 103, 104, 105, 103, 104, 105, 106, 104, 105, 106, 107, 105, 106, 107, 108, 106, 107, 108, 109, 107, 108, 109, 110, 108, 109, 110, 111, 109, 110, 111, 112, 110, 111, 112, 113]] : List (List Int)).flatten = ofU txt1 from rfl]
    have hK3 := hk1.trans (hkS.trans hk3)
    have hwt := hk3.cell hwant (fun h => h)
    generalize digest (ofU txt1) = D at *
    have hb := Blk.new w3 ZZ 26
    have hka := (Keeps.refl Nil w3).alloc (.cells ZZ.toArray 26)
    clear hM hwant hkS hk3 hwS
    go_wp2_with (refine wpl_store rfl 26 _ _ rfl w3.heap.size rfl (byteV D) rfl hb (by rw [hdl, HZZ.out]) (by rw [hdl]; exact Try.infoH) hdb ?_)
    intro w4 hb4 hk4 _
    have hk34 : Keeps Nil w3 w4 := hka.step hk4 (fun i hi => .inr (by rw [show i = w3.heap.size from hi]; exact Nat.le_refl _))
    have hwt4 := hk34.cell hwt (fun h => h)
    have hK4 := hK3.trans hk34
    clear hb hka hk4 hk34 hwt hK3
    generalize w3.heap.size = g8 at *
    have hrow : Row .u8 w4.drew (some ⟨g8, 0, none⟩) 32 D := ⟨hde, by omega, fun _ => ⟨g8, 0, rfl, hb4.lt, fun i hi => by rw [Nat.zero_add]; exact hb4.cell i (byteV_at D i (by omega) rfl)⟩, fun x hx => wf_u8 (hdr x hx).1 (hdr x hx).2⟩
    have hhx := hex_walk (cap := 32) hrow (by omega)
    rw [show hexB D = ⟨wnt1.toArray⟩ by unfold hexB; rw [hxd]] at hhx
    have HHX := Lib.hid hhx
    clear hhx hrow hb4 hdb hdl hdr hde hxd
    go_wp2_with fail
    refine wp_region_held_drew (S := fun w' => w'.cell? ⟨w1.heap.size + 1, 1, none⟩ = some (.string ⟨wnt1.toArray⟩)) (by kernel_rfl) hwt4 (fun hHeld => ?_)
    have hkd : Keeps Nil w4 w4.drew := (Keeps.refl Nil w4).drew
    refine takeL (i := 0) (v := _) rfl (by kernel_rfl) (by kernel_rfl) (by kernel_rfl) (fun _ _ _ h => h) (Or.inl ⟨by rfl, by intro w hSw; (try dsimp only at hSw); go_simp; try with_reducible rfl⟩) (by assumption) ?_
    try simp only [Act.put, List.setIfInBounds_toArray, List.set_cons_zero, List.set_cons_succ]
    refine takeL (i := 1) (v := _) rfl (by kernel_rfl) (by kernel_rfl) (by kernel_rfl) (fun _ _ _ h => h) (Or.inl ⟨by rfl, by intro w hSw; (try dsimp only at hSw); go_simp; try with_reducible rfl⟩) (by assumption) ?_
    try simp only [Act.put, List.setIfInBounds_toArray, List.set_cons_zero, List.set_cons_succ]
    refine takeL (i := 2) (v := _) rfl (by kernel_rfl) (by kernel_rfl) (by kernel_rfl) (fun _ _ _ h => h) (Or.inl ⟨by rfl, by intro w hSw; (try dsimp only at hSw); go_simp; try with_reducible rfl⟩) (by assumption) ?_
    try simp only [Act.put, List.setIfInBounds_toArray, List.set_cons_zero, List.set_cons_succ]
    refine takeL (i := 4) (v := _) rfl (by kernel_rfl) (by kernel_rfl) (by kernel_rfl) (fun _ _ _ h => h) (Or.inl ⟨by rfl, by intro w hSw; (try dsimp only at hSw); go_simp; try with_reducible rfl⟩) (by assumption) ?_
    try simp only [Act.put, List.setIfInBounds_toArray, List.set_cons_zero, List.set_cons_succ]
    refine takeL (i := 5) (v := _) rfl (by kernel_rfl) (by kernel_rfl) (by kernel_rfl) (fun _ _ _ h => h) (Or.inl ⟨by rfl, by intro w hSw; (try dsimp only at hSw); go_simp; try with_reducible rfl⟩) (by assumption) ?_
    try simp only [Act.put, List.setIfInBounds_toArray, List.set_cons_zero, List.set_cons_succ]
    refine takeL (i := 6) (v := _) rfl (by kernel_rfl) (by kernel_rfl) (by kernel_rfl) (fun _ _ _ h => h) (Or.inl ⟨by rfl, by intro w hSw; (try dsimp only at hSw); go_simp; try with_reducible rfl⟩) (by assumption) ?_
    try simp only [Act.put, List.setIfInBounds_toArray, List.set_cons_zero, List.set_cons_succ]
    refine takeL (i := 7) (v := _) rfl (by kernel_rfl) (by kernel_rfl) (by kernel_rfl) (fun _ _ _ h => h) (Or.inl ⟨by rfl, by intro w hSw; (try dsimp only at hSw); go_simp; try with_reducible rfl⟩) (by assumption) ?_
    try simp only [Act.put, List.setIfInBounds_toArray, List.set_cons_zero, List.set_cons_succ]
    refine onlyL (i := 3) rfl (by kernel_rfl) (fun K hK => ?_)
    go_simp
    refine HHX.out.mono ?_
    rintro e w5 ⟨rfl, hk5⟩
    refine (fun hHeld => hK _ _ hHeld ?_) (hk5.cell (hkd.cell hwt4 (fun h => h)) (fun h => h))
    clear hK
    try simp only [Act.put, List.setIfInBounds_toArray, List.set_cons_zero, List.set_cons_succ]
    refine takeL (i := 8) (v := _) rfl (by kernel_rfl) (by kernel_rfl) (by kernel_rfl) (fun _ _ _ h => h) (Or.inl ⟨by rfl, by intro w hSw; (try dsimp only at hSw); go_simp; try with_reducible rfl⟩) (by assumption) ?_
    try simp only [Act.put, List.setIfInBounds_toArray, List.set_cons_zero, List.set_cons_succ]
    refine takeL (i := 9) (v := _) rfl (by kernel_rfl) (by kernel_rfl) (by kernel_rfl) (fun _ _ _ h => h) (Or.inl ⟨by rfl, by intro w hSw; (try dsimp only at hSw); go_simp; try with_reducible rfl⟩) (by assumption) ?_
    try simp only [Act.put, List.setIfInBounds_toArray, List.set_cons_zero, List.set_cons_succ]
    refine takeL (i := 10) (v := _) rfl (by kernel_rfl) (by kernel_rfl) (by kernel_rfl) (fun _ _ _ h => h) (Or.inl ⟨by rfl, by intro w hSw; (try dsimp only at hSw); go_simp; try with_reducible rfl⟩) (by assumption) ?_
    try simp only [Act.put, List.setIfInBounds_toArray, List.set_cons_zero, List.set_cons_succ]
    refine wpAnyH_done (by kernel_rfl) ?_ _
    go_wp2_with fail
    go_ret
    exact ⟨by first | rfl | simp, hK4.trans (hkd.trans hk5)⟩
  · rw [h3]
    clear h3 hn
    go_wp2_with fail
    generalize hwS : World.alloc (World.alloc (World.alloc _ _) _) _ = wS at *
    obtain ⟨hM, hwant, hkS⟩ := vec_world0 w1 [.string ⟨txt0.toArray⟩, .string ⟨txt1.toArray⟩, .string ⟨#[]⟩] [.string ⟨wnt0.toArray⟩, .string ⟨wnt1.toArray⟩, .string ⟨wnt2.toArray⟩] 2 (.string ⟨wnt2.toArray⟩) rfl wS (by subst hwS; simp [txt0, txt1, wnt0, wnt1, wnt2])
    have hxd := vec2
    have hdb := byteV_one (digest (ofU []))
    have hdl : (byteV (digest (ofU []))).length = 32 := by rw [byteV_len, digest_len]
    have hdr := digest_bytes (ofU [])
    have hde := digest_len (ofU [])
    refine (shaSum_walk hM (by decide)).mono ?_
    rintro e w3 ⟨rfl, hk3⟩
    rw [show ([[]] : List (List Int)).flatten = ofU [] from rfl]
    have hK3 := hk1.trans (hkS.trans hk3)
    have hwt := hk3.cell hwant (fun h => h)
    generalize digest (ofU []) = D at *
    have hb := Blk.new w3 ZZ 26
    have hka := (Keeps.refl Nil w3).alloc (.cells ZZ.toArray 26)
    clear hM hwant hkS hk3 hwS
    go_wp2_with (refine wpl_store rfl 26 _ _ rfl w3.heap.size rfl (byteV D) rfl hb (by rw [hdl, HZZ.out]) (by rw [hdl]; exact Try.infoH) hdb ?_)
    intro w4 hb4 hk4 _
    have hk34 : Keeps Nil w3 w4 := hka.step hk4 (fun i hi => .inr (by rw [show i = w3.heap.size from hi]; exact Nat.le_refl _))
    have hwt4 := hk34.cell hwt (fun h => h)
    have hK4 := hK3.trans hk34
    clear hb hka hk4 hk34 hwt hK3
    generalize w3.heap.size = g8 at *
    have hrow : Row .u8 w4.drew (some ⟨g8, 0, none⟩) 32 D := ⟨hde, by omega, fun _ => ⟨g8, 0, rfl, hb4.lt, fun i hi => by rw [Nat.zero_add]; exact hb4.cell i (byteV_at D i (by omega) rfl)⟩, fun x hx => wf_u8 (hdr x hx).1 (hdr x hx).2⟩
    have hhx := hex_walk (cap := 32) hrow (by omega)
    rw [show hexB D = ⟨wnt2.toArray⟩ by unfold hexB; rw [hxd]] at hhx
    have HHX := Lib.hid hhx
    clear hhx hrow hb4 hdb hdl hdr hde hxd
    go_wp2_with fail
    refine wp_region_held_drew (S := fun w' => w'.cell? ⟨w1.heap.size + 1, 2, none⟩ = some (.string ⟨wnt2.toArray⟩)) (by kernel_rfl) hwt4 (fun hHeld => ?_)
    have hkd : Keeps Nil w4 w4.drew := (Keeps.refl Nil w4).drew
    refine takeL (i := 0) (v := _) rfl (by kernel_rfl) (by kernel_rfl) (by kernel_rfl) (fun _ _ _ h => h) (Or.inl ⟨by rfl, by intro w hSw; (try dsimp only at hSw); go_simp; try with_reducible rfl⟩) (by assumption) ?_
    try simp only [Act.put, List.setIfInBounds_toArray, List.set_cons_zero, List.set_cons_succ]
    refine takeL (i := 1) (v := _) rfl (by kernel_rfl) (by kernel_rfl) (by kernel_rfl) (fun _ _ _ h => h) (Or.inl ⟨by rfl, by intro w hSw; (try dsimp only at hSw); go_simp; try with_reducible rfl⟩) (by assumption) ?_
    try simp only [Act.put, List.setIfInBounds_toArray, List.set_cons_zero, List.set_cons_succ]
    refine takeL (i := 2) (v := _) rfl (by kernel_rfl) (by kernel_rfl) (by kernel_rfl) (fun _ _ _ h => h) (Or.inl ⟨by rfl, by intro w hSw; (try dsimp only at hSw); go_simp; try with_reducible rfl⟩) (by assumption) ?_
    try simp only [Act.put, List.setIfInBounds_toArray, List.set_cons_zero, List.set_cons_succ]
    refine takeL (i := 4) (v := _) rfl (by kernel_rfl) (by kernel_rfl) (by kernel_rfl) (fun _ _ _ h => h) (Or.inl ⟨by rfl, by intro w hSw; (try dsimp only at hSw); go_simp; try with_reducible rfl⟩) (by assumption) ?_
    try simp only [Act.put, List.setIfInBounds_toArray, List.set_cons_zero, List.set_cons_succ]
    refine takeL (i := 5) (v := _) rfl (by kernel_rfl) (by kernel_rfl) (by kernel_rfl) (fun _ _ _ h => h) (Or.inl ⟨by rfl, by intro w hSw; (try dsimp only at hSw); go_simp; try with_reducible rfl⟩) (by assumption) ?_
    try simp only [Act.put, List.setIfInBounds_toArray, List.set_cons_zero, List.set_cons_succ]
    refine takeL (i := 6) (v := _) rfl (by kernel_rfl) (by kernel_rfl) (by kernel_rfl) (fun _ _ _ h => h) (Or.inl ⟨by rfl, by intro w hSw; (try dsimp only at hSw); go_simp; try with_reducible rfl⟩) (by assumption) ?_
    try simp only [Act.put, List.setIfInBounds_toArray, List.set_cons_zero, List.set_cons_succ]
    refine takeL (i := 7) (v := _) rfl (by kernel_rfl) (by kernel_rfl) (by kernel_rfl) (fun _ _ _ h => h) (Or.inl ⟨by rfl, by intro w hSw; (try dsimp only at hSw); go_simp; try with_reducible rfl⟩) (by assumption) ?_
    try simp only [Act.put, List.setIfInBounds_toArray, List.set_cons_zero, List.set_cons_succ]
    refine onlyL (i := 3) rfl (by kernel_rfl) (fun K hK => ?_)
    go_simp
    refine HHX.out.mono ?_
    rintro e w5 ⟨rfl, hk5⟩
    refine (fun hHeld => hK _ _ hHeld ?_) (hk5.cell (hkd.cell hwt4 (fun h => h)) (fun h => h))
    clear hK
    try simp only [Act.put, List.setIfInBounds_toArray, List.set_cons_zero, List.set_cons_succ]
    refine takeL (i := 8) (v := _) rfl (by kernel_rfl) (by kernel_rfl) (by kernel_rfl) (fun _ _ _ h => h) (Or.inl ⟨by rfl, by intro w hSw; (try dsimp only at hSw); go_simp; try with_reducible rfl⟩) (by assumption) ?_
    try simp only [Act.put, List.setIfInBounds_toArray, List.set_cons_zero, List.set_cons_succ]
    refine takeL (i := 9) (v := _) rfl (by kernel_rfl) (by kernel_rfl) (by kernel_rfl) (fun _ _ _ h => h) (Or.inl ⟨by rfl, by intro w hSw; (try dsimp only at hSw); go_simp; try with_reducible rfl⟩) (by assumption) ?_
    try simp only [Act.put, List.setIfInBounds_toArray, List.set_cons_zero, List.set_cons_succ]
    refine takeL (i := 10) (v := _) rfl (by kernel_rfl) (by kernel_rfl) (by kernel_rfl) (fun _ _ _ h => h) (Or.inl ⟨by rfl, by intro w hSw; (try dsimp only at hSw); go_simp; try with_reducible rfl⟩) (by assumption) ?_
    try simp only [Act.put, List.setIfInBounds_toArray, List.set_cons_zero, List.set_cons_succ]
    refine wpAnyH_done (by kernel_rfl) ?_ _
    go_wp2_with fail
    go_ret
    exact ⟨by first | rfl | simp, hK4.trans (hkd.trans hk5)⟩
end Go.Proofs.Ytnkahfpinkgimaa
