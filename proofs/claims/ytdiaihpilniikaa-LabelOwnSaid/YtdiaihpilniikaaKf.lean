/- A label's bytes: Encode. -/
import Derived.Test.YtdiaihpilniikaaKe
namespace Go.Proofs.Ytdiaihpilniikaa
open Go.RowKit Go.Maps

set_option maxRecDepth 100000 in
set_option maxHeartbeats 4000000 in
/-- A label that may not be: no bytes, and its error. -/
theorem encode_bad (l : Lab) (hl : l.Wf) (hm : l.may ≠ 0) (w : World) : Calls Try.prog 15 #[labV l] w fun e w' => e = .returned (.tuple #[.slice none 0 0, .int .i64 l.may]) ∧ Below w.heap.size w w' := by
  have HC := Lib.hid (fun w => check_any l hl w)
  obtain ⟨a0, a1, a2, a3, a4, a5, a6, a7, hst⟩ := lab_eight hl.st
  obtain ⟨c, hc⟩ : ∃ c, c = l.may := ⟨_, rfl⟩
  rw [← hc] at HC hm ⊢
  have hne : (c != 0) = true := by simp [hm]
  have hce : (c == 0) = false := by simp [hm]
  have HL : Hid (labCells l = #[B8 a0, B8 a1, B8 a2, B8 a3, B8 a4, B8 a5, B8 a6, B8 a7, .int .i64 l.k, .int .i64 l.m, .int .i64 l.b, .int .i64 l.i, .int .i64 l.e]) := Lib.hid (by unfold labCells; rw [hst]; rfl)
  unfold labV at HC ⊢
  rw [HL.out] at HC ⊢
  unfold B8 at HC ⊢
  clear hc hm hl
  go_enter Try.func15, Try.ntmps15
  go_wp2_with (go_at_call 27; refine (HC.out _).mono ?_; rintro e w1 ⟨rfl, hb1⟩; have HB1 := Lib.hid hb1; clear hb1)
  go_ret2
  exact ⟨rfl, ((Below.refl _ w).alloc (Nat.le_refl _) _).trans (HB1.out.mono (by rw [alloc_size]; omega))⟩
theorem reads_pre {w : World} {g B n : Nat} {t : TypeId} {cs : Array Value} {xs : List Value} (h : Blk w g t cs) (hB : g < B) (hx : cs.toList.take n = xs) (hn : n ≤ cs.size) : Reads w B 1 (some ⟨g, 0, none⟩) n xs := by
  subst hx
  refine ⟨by rw [List.length_take, Array.length_toList]; omega, fun _ => ⟨_, rfl, hB, fun j u hu => ?_⟩⟩
  rw [add_plain, Nat.zero_add, h.cell]
  rw [List.getElem?_take] at hu
  split at hu
  · rw [← hu, Array.getElem?_toList]
  · cases hu
theorem reads_blk_pre {w : World} {g B n : Nat} {t : TypeId} {vs : List Value} {xs : List Value} (h : ∃ r, Blk w g t (xs ++ r).toArray ∧ xs.length = n) (hB : g < B) (_hv : vs = xs) : Reads w B 1 (some ⟨g, 0, none⟩) n xs := by
  obtain ⟨r, h, hl⟩ := h
  exact reads_pre h hB (by subst hl; simp) (by simp; omega)
theorem u8_of {n : Int} (h0 : 0 ≤ n) (h1 : n ≤ 255) : ∃ u : UInt8, n = (u.toNat : Int) := ⟨UInt8.ofNat n.toNat, (u8_back h0 h1).symm⟩
set_option maxRecDepth 100000 in
set_option maxHeartbeats 8000000 in
theorem encode_ok (l : Lab) (hl : l.Wf) (hm : l.may = 0) (w : World) : Calls Try.prog 15 #[labV l] w fun e w' => ∃ u, e = .returned (.tuple #[u, .int .i64 0]) ∧ w'.ownsRow w.heap.size 5 1 u 31 (l.bytes.map B8) ∧ Below w.heap.size w w' := by
  have HC := Lib.hid (fun w => check_any l hl w)
  obtain ⟨a0, a1, a2, a3, a4, a5, a6, a7, hst⟩ := lab_eight hl.st
  have hf := may_fits hm
  obtain ⟨ku, hku⟩ := u8_of (n := l.k) (by omega) (by omega)
  obtain ⟨mu, hmu⟩ := u8_of (n := l.m) (by omega) (by omega)
  obtain ⟨iu, hiu⟩ := u8_of (n := l.i) (by omega) (by omega)
  obtain ⟨bn, hbn⟩ : ∃ n : Nat, l.b = (n : Int) := ⟨l.b.toNat, by omega⟩
  obtain ⟨en, hen⟩ : ∃ n : Nat, l.e = (n : Int) := ⟨l.e.toNat, by omega⟩
  rw [hm] at HC
  have HL : Hid (labCells l = #[.int .u8 (a0.toNat : Int), .int .u8 (a1.toNat : Int), .int .u8 (a2.toNat : Int), .int .u8 (a3.toNat : Int), .int .u8 (a4.toNat : Int), .int .u8 (a5.toNat : Int), .int .u8 (a6.toNat : Int), .int .u8 (a7.toNat : Int), .int .i64 (ku.toNat : Int), .int .i64 (mu.toNat : Int), .int .i64 (bn : Int), .int .i64 (iu.toNat : Int), .int .i64 (en : Int)]) := Lib.hid (by unfold labCells; rw [hst, hku, hmu, hiu, hbn, hen]; rfl)
  have HH : Hid (l.head = [67, 82, 78, 1, a0, a1, a2, a3, a4, a5, a6, a7, ku, mu] ++ leN bn 4 ++ [iu] ++ leN en 8) := Lib.hid (by
    unfold Lab.head labMagic
    rw [hst, hku, hmu, hiu, hbn, hen]
    simp only [Int.toNat_natCast, UInt8.ofNat_toNat]
    rfl)
  have HBL : Hid (l.bytes = l.head ++ leN (crcSum l.head) 4) := Lib.hid rfl
  have HEL : Hid (l.head.length = 27) := Lib.hid (l.head_length hl.st)
  unfold labV at HC ⊢
  rw [HL.out] at HC ⊢
  have ck : (ku.toNat : Int) % 256 = (ku.toNat : Int) := by have := ku.toNat_lt; omega
  have cm : (mu.toNat : Int) % 256 = (mu.toNat : Int) := by have := mu.toNat_lt; omega
  have ci : (iu.toNat : Int) % 256 = (iu.toNat : Int) := by have := iu.toNat_lt; omega
  have cb : (bn : Int) % 4294967296 = (bn : Int) := by omega
  have ce : (en : Int) % 18446744073709551616 = (en : Int) := by omega
  have HBN : Hid (bn < 4294967296 ∧ en < 18446744073709551616) := Lib.hid (by omega)
  clear hl hf hku hmu hiu hbn hen hst hm
  obtain ⟨i5, hi5, hz0, hz1, hz2⟩ := info_parts byteInfo
  go_enter Try.func15, Try.ntmps15
  go_wp2_with (first
    | (go_at_call 27; refine (HC.out _).mono ?_; rintro e w1 ⟨rfl, hb1⟩; have HB1 := Lib.hid hb1; clear hb1)
    | (go_at_call 28; refine (magic_any _).mono ?_; rintro e w2 ⟨rfl, hb2⟩; have HB2 := Lib.hid hb2; clear hb2))
  refine wp_world fun X hX => ?_
  have HG : Hid (Blk X w2.heap.size 56 #[.int .u8 67, .int .u8 82, .int .u8 78, .int .u8 1]) := Lib.hid (by rw [hX]; exact Blk.new _ _ _)
  have g0 := HG.out.cell 0
  have g1 := HG.out.cell 1
  have g2 := HG.out.cell 2
  have g3 := HG.out.cell 3
  have gl := HG.out.lt
  have h12 := HB1.out.size
  have h13 := HB2.out.size
  rw [alloc_size] at h12
  have HLB : Hid (Blk X w.heap.size 26 #[.int .u8 (a0.toNat : Int), .int .u8 (a1.toNat : Int), .int .u8 (a2.toNat : Int), .int .u8 (a3.toNat : Int), .int .u8 (a4.toNat : Int), .int .u8 (a5.toNat : Int), .int .u8 (a6.toNat : Int), .int .u8 (a7.toNat : Int), .int .i64 (ku.toNat : Int), .int .i64 (mu.toNat : Int), .int .i64 (bn : Int), .int .i64 (iu.toNat : Int), .int .i64 (en : Int)]) := Lib.hid (by
    rw [hX]
    exact (((Blk.new w _ _).below HB1.out (by rw [alloc_size]; omega)).below HB2.out (by omega)).alloc _)
  have HWX : Hid (Below w.heap.size w X) := Lib.hid (by
    rw [hX]
    exact (((((Below.refl _ w).alloc (Nat.le_refl _) _).trans (HB1.out.mono (by rw [alloc_size]; omega))).trans (HB2.out.mono (by omega))).alloc (by omega) _))
  obtain ⟨y0, y1, y2, y3, y4, y5, y6, y7, y8, y9, y10, y11, y12⟩ : X.cell? ⟨w.heap.size, 0, none⟩ = some (.int .u8 (a0.toNat : Int)) ∧ X.cell? ⟨w.heap.size, 1, none⟩ = some (.int .u8 (a1.toNat : Int)) ∧ X.cell? ⟨w.heap.size, 2, none⟩ = some (.int .u8 (a2.toNat : Int)) ∧ X.cell? ⟨w.heap.size, 3, none⟩ = some (.int .u8 (a3.toNat : Int)) ∧ X.cell? ⟨w.heap.size, 4, none⟩ = some (.int .u8 (a4.toNat : Int)) ∧ X.cell? ⟨w.heap.size, 5, none⟩ = some (.int .u8 (a5.toNat : Int)) ∧ X.cell? ⟨w.heap.size, 6, none⟩ = some (.int .u8 (a6.toNat : Int)) ∧ X.cell? ⟨w.heap.size, 7, none⟩ = some (.int .u8 (a7.toNat : Int)) ∧ X.cell? ⟨w.heap.size, 8, none⟩ = some (.int .i64 (ku.toNat : Int)) ∧ X.cell? ⟨w.heap.size, 9, none⟩ = some (.int .i64 (mu.toNat : Int)) ∧ X.cell? ⟨w.heap.size, 10, none⟩ = some (.int .i64 (bn : Int)) ∧ X.cell? ⟨w.heap.size, 11, none⟩ = some (.int .i64 (iu.toNat : Int)) ∧ X.cell? ⟨w.heap.size, 12, none⟩ = some (.int .i64 (en : Int)) := ⟨HLB.out.cell 0, HLB.out.cell 1, HLB.out.cell 2, HLB.out.cell 3, HLB.out.cell 4, HLB.out.cell 5, HLB.out.cell 6, HLB.out.cell 7, HLB.out.cell 8, HLB.out.cell 9, HLB.out.cell 10, HLB.out.cell 11, HLB.out.cell 12⟩
  have hwx : w.heap.size < X.heap.size := HLB.out.lt
  clear hX
  have hmk : ∀ W : World, (Instr.makeSlice 33 (.int .i64 0) (.int .i64 31)).run Try.prog W = .ok (.slice (some ⟨W.heap.size, 0, none⟩) 0 31) (W.alloc (.cells #[.int .u8 0, .int .u8 0, .int .u8 0, .int .u8 0, .int .u8 0, .int .u8 0, .int .u8 0, .int .u8 0, .int .u8 0, .int .u8 0, .int .u8 0, .int .u8 0, .int .u8 0, .int .u8 0, .int .u8 0, .int .u8 0, .int .u8 0, .int .u8 0, .int .u8 0, .int .u8 0, .int .u8 0, .int .u8 0, .int .u8 0, .int .u8 0, .int .u8 0, .int .u8 0, .int .u8 0, .int .u8 0, .int .u8 0, .int .u8 0, .int .u8 0] 5)) := fun _ => by kernel_rfl
  go_region
  go_wp2_with fail
  have HO0 := Lib.hid HWX.out.size
  refine (put32_any _ 14 31 [67, 82, 78, 1, a0, a1, a2, a3, a4, a5, a6, a7, ku, mu] bn _ (X.heap.size + 1) (reads_blk_pre (t := 5) (vs := _) ⟨List.replicate 17 (.int .u8 0), ((Blk.new X _ _).alloc _).drew, rfl⟩ (by omega) rfl) HBN.out.1 (by omega)).mono ?_
  rintro e w3 ⟨u3, rfl, ho3, hb3⟩
  obtain ⟨e3, c3, rfl, _⟩ := own_shape ho3
  have HO3 : Hid (w3.ownsRow X.heap.size 5 1 (.slice e3 18 c3) 18 (([67, 82, 78, 1, a0, a1, a2, a3, a4, a5, a6, a7, ku, mu] ++ leN bn 4).map B8)) := Lib.hid (ownsRow_base_a ho3 (by show X.heap.size ≤ (World.alloc (World.alloc X _) _).heap.size; simp only [alloc_size]; omega))
  have HB3 : Hid (Below X.heap.size X w3) := Lib.hid (Below.trans (below_drew1 (((Below.refl _ X).alloc (Nat.le_refl _) _).alloc (by rw [alloc_size]; omega) _)) (hb3.mono (by show X.heap.size ≤ (World.alloc (World.alloc X _) _).heap.size; simp only [alloc_size]; omega)))
  have h3 := HB3.out.size
  have y11' : w3.cell? ⟨w.heap.size, 11, none⟩ = some (.int .i64 (iu.toNat : Int)) := (HB3.out.cell (p := ⟨w.heap.size, 11, none⟩) hwx).trans y11
  have HY12 := Lib.hid y12
  clear ho3 hb3 y0 y1 y2 y3 y4 y5 y6 y7 y8 y9 y10 y11 y12 g0 g1 g2 g3
  go_wp2_with (at_builtin; go_loud (refine wpList_append_any _ rfl _ _ 33 rfl X.heap.size 5 i5 _ 1 1 Try.underlying33 hi5 hz0 hz1 hz2 rfl (by omega) (.slice e3 18 c3) 18 _ rfl (HO3.out.alloc _) (w3.heap.size + 1) (some ⟨w3.heap.size, 0, none⟩) 1 1 [.int .u8 (iu.toNat : Int)] rfl (reads_blk (t := 5) (blk_last _ _ _ _ rfl) (by omega) rfl) (by intro u hu; simp at hu; subst hu; rfl) (by decide) (by decide) (by rw [alloc_size]; omega) ?_); intro v4 w4 hown4 hg4 hat4; obtain ⟨e4, c4, hv4, _⟩ := own_shape hown4; subst hv4; have HO4 := Lib.hid hown4; have HB4 := Lib.hid ((HB3.out.alloc h3 _).grown hg4 (by rw [alloc_size]; omega) (fun i hi => (HO3.out.lt i hi).1)); have y12' : w4.cell? ⟨w.heap.size, 12, none⟩ = some (.int .i64 (en : Int)) := (HB4.out.cell (p := ⟨w.heap.size, 12, none⟩) hwx).trans HY12.out; clear hown4 hg4 hat4)
  have h4 := HB4.out.size
  have HR4 : Hid (Reads w4 w4.heap.size 1 e4 19 (([67, 82, 78, 1, a0, a1, a2, a3, a4, a5, a6, a7, ku, mu] ++ leN bn 4 ++ [iu]).map B8)) := Lib.hid (by
    have := Reads.of_own HO4.out
    rw [List.map_append]
    exact this)
  refine (put64_any e4 19 c4 _ en w4 _ HR4.out HBN.out.2 (by omega)).mono ?_
  rintro e w5 ⟨u5, rfl, ho5, hb5⟩
  obtain ⟨e5, c5, rfl, _⟩ := own_shape ho5
  rw [← HH.out] at ho5
  have HO5 := Lib.hid ho5
  have HB5 : Hid (Below X.heap.size X w5) := Lib.hid (HB4.out.trans (hb5.mono h4))
  have h5 := hb5.size
  clear ho5 hb5 y11' y12'
  go_wp2_with fail
  refine (sum_any e5 27 c5 l.head w5 _ (Reads.of_own HO5.out) (Nat.le_refl _) (by omega)).mono ?_
  rintro e w6 ⟨rfl, hb6⟩
  have HO6 := Lib.hid (ownsRow_below HO5.out hb6)
  have HB6 : Hid (Below X.heap.size X w6) := Lib.hid (HB5.out.trans (hb6.mono HB5.out.size))
  have h6 := hb6.size
  have HCL := Lib.hid (crcSum_lt l.head)
  obtain ⟨q, hq⟩ : ∃ q, q = crcSum l.head := ⟨_, rfl⟩
  rw [← hq] at HCL HBL ⊢
  clear hb6 hq
  go_wp2_with fail
  refine (put32_any e5 27 c5 l.head q w6 _ (Reads.of_own HO6.out) HCL.out (by omega)).mono ?_
  rintro e w7 ⟨u7, rfl, ho7, hb7⟩
  rw [← HBL.out] at ho7
  obtain ⟨e7, c7, rfl, _⟩ := own_shape ho7
  have HO7 : Hid (w7.ownsRow w.heap.size 5 1 (.slice e7 31 c7) 31 (l.bytes.map B8)) := Lib.hid (ownsRow_base_a ho7 (by have := HB6.out.size; omega))
  have HB7 : Hid (Below w.heap.size w w7) := Lib.hid (HWX.out.trans ((HB6.out.trans (hb7.mono HB6.out.size)).mono (by omega)))
  clear ho7 hb7
  go_wp2
  go_ret2
  exact ⟨_, rfl, HO7.out, HB7.out⟩
end Go.Proofs.Ytdiaihpilniikaa
