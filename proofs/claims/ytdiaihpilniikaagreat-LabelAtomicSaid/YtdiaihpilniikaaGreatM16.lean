/- A label's bytes: Encode.; What bytes say: Parse, where the length or the beginning is wrong.; What bytes say: Parse, where length and beginning are right. -/
import Derived.Test.YtdiaihpilniikaaGreatM15
import Derived.Test.YtdiaihpilniikaaGreatM14
import Derived.Stop.BytesEq
import Derived.Laws.StructEq
import Derived.Deep.RegionHeld3
import Derived.Deep.DeepCutAuto
namespace Go.Proofs.YtdiaihpilniikaaGreat
open Go.RowKit Go.Maps

set_option maxRecDepth 100000 in
set_option maxHeartbeats 4000000 in
/-- A label that may not be: no bytes, and its error. -/
theorem encode_bad (l : Lab) (hl : l.Wf) (hm : l.may ≠ 0) (w : World) : Calls Tryz.prog 30 #[labV l] w fun e w' => e = .returned (.tuple #[.slice none 0 0, .int .i64 l.may]) ∧ Below w.heap.size w w' := by
  have HC := Lib.hid (fun w => check_any l hl w)
  obtain ⟨a0, a1, a2, a3, a4, a5, a6, a7, hst⟩ := lab_eight hl.st
  obtain ⟨c, hc⟩ : ∃ c, c = l.may := ⟨_, rfl⟩
  rw [← hc] at HC hm ⊢
  have hne : (c != 0) = true := by simp [hm]
  have hce : (c == 0) = false := by simp [hm]
  have HL : Hid (labCells l = #[B8 a0, B8 a1, B8 a2, B8 a3, B8 a4, B8 a5, B8 a6, B8 a7, .int .i64 l.k, .int .i64 l.m, .int .i64 l.b, .int .i64 l.i, .int .i64 l.e]) := Lib.hid (by unfold labCells; rw [hst]; rfl)
  unfold labV at HC ⊢
  rw [HL.out] at HC ⊢
  unfold B8 at HC ⊢
  clear hc hm hl
  go_enter Tryz.func30, Tryz.ntmps30
  go_wp2_with (go_at_call 53; refine (HC.out _).mono ?_; rintro e w1 ⟨rfl, hb1⟩; have HB1 := Lib.hid hb1; clear hb1)
  go_ret2
  exact ⟨rfl, ((Below.refl _ w).alloc (Nat.le_refl _) _).trans (HB1.out.mono (by rw [alloc_size]; omega))⟩
theorem reads_pre {w : World} {g B n : Nat} {t : TypeId} {cs : Array Value} {xs : List Value} (h : Blk w g t cs) (hB : g < B) (hx : cs.toList.take n = xs) (hn : n ≤ cs.size) : Reads w B 1 (some ⟨g, 0, none⟩) n xs := by
  subst hx
  refine ⟨by rw [List.length_take, Array.length_toList]; omega, fun _ => ⟨_, rfl, hB, fun j u hu => ?_⟩⟩
  rw [add_plain, Nat.zero_add, h.cell]
  rw [List.getElem?_take] at hu
  split at hu
  · rw [← hu, Array.getElem?_toList]
  · cases hu
theorem reads_blk_pre {w : World} {g B n : Nat} {t : TypeId} {vs : List Value} {xs : List Value} (h : ∃ r, Blk w g t (xs ++ r).toArray ∧ xs.length = n) (hB : g < B) (_hv : vs = xs) : Reads w B 1 (some ⟨g, 0, none⟩) n xs := by
  obtain ⟨r, h, hl⟩ := h
  exact reads_pre h hB (by subst hl; simp) (by simp; omega)
theorem u8_of {n : Int} (h0 : 0 ≤ n) (h1 : n ≤ 255) : ∃ u : UInt8, n = (u.toNat : Int) := ⟨UInt8.ofNat n.toNat, (u8_back h0 h1).symm⟩
set_option maxRecDepth 100000 in
set_option maxHeartbeats 8000000 in
theorem encode_ok (l : Lab) (hl : l.Wf) (hm : l.may = 0) (w : World) : Calls Tryz.prog 30 #[labV l] w fun e w' => ∃ u, e = .returned (.tuple #[u, .int .i64 0]) ∧ w'.ownsRow w.heap.size 5 1 u 31 (l.bytes.map B8) ∧ Below w.heap.size w w' := by
  have HC := Lib.hid (fun w => check_any l hl w)
  obtain ⟨a0, a1, a2, a3, a4, a5, a6, a7, hst⟩ := lab_eight hl.st
  have hf := may_fits hm
  obtain ⟨ku, hku⟩ := u8_of (n := l.k) (by omega) (by omega)
  obtain ⟨mu, hmu⟩ := u8_of (n := l.m) (by omega) (by omega)
  obtain ⟨iu, hiu⟩ := u8_of (n := l.i) (by omega) (by omega)
  obtain ⟨bn, hbn⟩ : ∃ n : Nat, l.b = (n : Int) := ⟨l.b.toNat, by omega⟩
  obtain ⟨en, hen⟩ : ∃ n : Nat, l.e = (n : Int) := ⟨l.e.toNat, by omega⟩
  rw [hm] at HC
  have HL : Hid (labCells l = #[.int .u8 (a0.toNat : Int), .int .u8 (a1.toNat : Int), .int .u8 (a2.toNat : Int), .int .u8 (a3.toNat : Int), .int .u8 (a4.toNat : Int), .int .u8 (a5.toNat : Int), .int .u8 (a6.toNat : Int), .int .u8 (a7.toNat : Int), .int .i64 (ku.toNat : Int), .int .i64 (mu.toNat : Int), .int .i64 (bn : Int), .int .i64 (iu.toNat : Int), .int .i64 (en : Int)]) := Lib.hid (by unfold labCells; rw [hst, hku, hmu, hiu, hbn, hen]; rfl)
  have HH : Hid (l.head = [67, 82, 78, 1, a0, a1, a2, a3, a4, a5, a6, a7, ku, mu] ++ leN bn 4 ++ [iu] ++ leN en 8) := Lib.hid (by
    unfold Lab.head labMagic
    rw [hst, hku, hmu, hiu, hbn, hen]
    simp only [Int.toNat_natCast, UInt8.ofNat_toNat]
    rfl)
  have HBL : Hid (l.bytes = l.head ++ leN (crcSum l.head) 4) := Lib.hid rfl
  have HEL : Hid (l.head.length = 27) := Lib.hid (l.head_length hl.st)
  unfold labV at HC ⊢
  rw [HL.out] at HC ⊢
  have ck : (ku.toNat : Int) % 256 = (ku.toNat : Int) := by have := ku.toNat_lt; omega
  have cm : (mu.toNat : Int) % 256 = (mu.toNat : Int) := by have := mu.toNat_lt; omega
  have ci : (iu.toNat : Int) % 256 = (iu.toNat : Int) := by have := iu.toNat_lt; omega
  have cb : (bn : Int) % 4294967296 = (bn : Int) := by omega
  have ce : (en : Int) % 18446744073709551616 = (en : Int) := by omega
  have HBN : Hid (bn < 4294967296 ∧ en < 18446744073709551616) := Lib.hid (by omega)
  clear hl hf hku hmu hiu hbn hen hst hm
  obtain ⟨i5, hi5, hz0, hz1, hz2⟩ := info_parts byteInfo
  go_enter Tryz.func30, Tryz.ntmps30
  go_wp2_with (first
    | (go_at_call 53; refine (HC.out _).mono ?_; rintro e w1 ⟨rfl, hb1⟩; have HB1 := Lib.hid hb1; clear hb1)
    | (go_at_call 54; refine (magic_any _).mono ?_; rintro e w2 ⟨rfl, hb2⟩; have HB2 := Lib.hid hb2; clear hb2))
  refine wp_world fun X hX => ?_
  have HG : Hid (Blk X w2.heap.size 108 #[.int .u8 67, .int .u8 82, .int .u8 78, .int .u8 1]) := Lib.hid (by rw [hX]; exact Blk.new _ _ _)
  have g0 := HG.out.cell 0
  have g1 := HG.out.cell 1
  have g2 := HG.out.cell 2
  have g3 := HG.out.cell 3
  have gl := HG.out.lt
  have h12 := HB1.out.size
  have h13 := HB2.out.size
  rw [alloc_size] at h12
  have HLB : Hid (Blk X w.heap.size 27 #[.int .u8 (a0.toNat : Int), .int .u8 (a1.toNat : Int), .int .u8 (a2.toNat : Int), .int .u8 (a3.toNat : Int), .int .u8 (a4.toNat : Int), .int .u8 (a5.toNat : Int), .int .u8 (a6.toNat : Int), .int .u8 (a7.toNat : Int), .int .i64 (ku.toNat : Int), .int .i64 (mu.toNat : Int), .int .i64 (bn : Int), .int .i64 (iu.toNat : Int), .int .i64 (en : Int)]) := Lib.hid (by
    rw [hX]
    exact (((Blk.new w _ _).below HB1.out (by rw [alloc_size]; omega)).below HB2.out (by omega)).alloc _)
  have HWX : Hid (Below w.heap.size w X) := Lib.hid (by
    rw [hX]
    exact (((((Below.refl _ w).alloc (Nat.le_refl _) _).trans (HB1.out.mono (by rw [alloc_size]; omega))).trans (HB2.out.mono (by omega))).alloc (by omega) _))
  obtain ⟨y0, y1, y2, y3, y4, y5, y6, y7, y8, y9, y10, y11, y12⟩ : X.cell? ⟨w.heap.size, 0, none⟩ = some (.int .u8 (a0.toNat : Int)) ∧ X.cell? ⟨w.heap.size, 1, none⟩ = some (.int .u8 (a1.toNat : Int)) ∧ X.cell? ⟨w.heap.size, 2, none⟩ = some (.int .u8 (a2.toNat : Int)) ∧ X.cell? ⟨w.heap.size, 3, none⟩ = some (.int .u8 (a3.toNat : Int)) ∧ X.cell? ⟨w.heap.size, 4, none⟩ = some (.int .u8 (a4.toNat : Int)) ∧ X.cell? ⟨w.heap.size, 5, none⟩ = some (.int .u8 (a5.toNat : Int)) ∧ X.cell? ⟨w.heap.size, 6, none⟩ = some (.int .u8 (a6.toNat : Int)) ∧ X.cell? ⟨w.heap.size, 7, none⟩ = some (.int .u8 (a7.toNat : Int)) ∧ X.cell? ⟨w.heap.size, 8, none⟩ = some (.int .i64 (ku.toNat : Int)) ∧ X.cell? ⟨w.heap.size, 9, none⟩ = some (.int .i64 (mu.toNat : Int)) ∧ X.cell? ⟨w.heap.size, 10, none⟩ = some (.int .i64 (bn : Int)) ∧ X.cell? ⟨w.heap.size, 11, none⟩ = some (.int .i64 (iu.toNat : Int)) ∧ X.cell? ⟨w.heap.size, 12, none⟩ = some (.int .i64 (en : Int)) := ⟨HLB.out.cell 0, HLB.out.cell 1, HLB.out.cell 2, HLB.out.cell 3, HLB.out.cell 4, HLB.out.cell 5, HLB.out.cell 6, HLB.out.cell 7, HLB.out.cell 8, HLB.out.cell 9, HLB.out.cell 10, HLB.out.cell 11, HLB.out.cell 12⟩
  have hwx : w.heap.size < X.heap.size := HLB.out.lt
  clear hX
  have hmk : ∀ W : World, (Instr.makeSlice 22 (.int .i64 0) (.int .i64 31)).run Tryz.prog W = .ok (.slice (some ⟨W.heap.size, 0, none⟩) 0 31) (W.alloc (.cells #[.int .u8 0, .int .u8 0, .int .u8 0, .int .u8 0, .int .u8 0, .int .u8 0, .int .u8 0, .int .u8 0, .int .u8 0, .int .u8 0, .int .u8 0, .int .u8 0, .int .u8 0, .int .u8 0, .int .u8 0, .int .u8 0, .int .u8 0, .int .u8 0, .int .u8 0, .int .u8 0, .int .u8 0, .int .u8 0, .int .u8 0, .int .u8 0, .int .u8 0, .int .u8 0, .int .u8 0, .int .u8 0, .int .u8 0, .int .u8 0, .int .u8 0] 5)) := fun _ => by kernel_rfl
  go_region
  go_wp2_with fail
  have HO0 := Lib.hid HWX.out.size
  refine (put32_any _ 14 31 [67, 82, 78, 1, a0, a1, a2, a3, a4, a5, a6, a7, ku, mu] bn _ (X.heap.size + 1) (reads_blk_pre (t := 5) (vs := _) ⟨List.replicate 17 (.int .u8 0), ((Blk.new X _ _).alloc _).drew, rfl⟩ (by omega) rfl) HBN.out.1 (by omega)).mono ?_
  rintro e w3 ⟨u3, rfl, ho3, hb3⟩
  obtain ⟨e3, c3, rfl, _⟩ := own_shape ho3
  have HO3 : Hid (w3.ownsRow X.heap.size 5 1 (.slice e3 18 c3) 18 (([67, 82, 78, 1, a0, a1, a2, a3, a4, a5, a6, a7, ku, mu] ++ leN bn 4).map B8)) := Lib.hid (ownsRow_base_a ho3 (by show X.heap.size ≤ (World.alloc (World.alloc X _) _).heap.size; simp only [alloc_size]; omega))
  have HB3 : Hid (Below X.heap.size X w3) := Lib.hid (Below.trans (below_drew1 (((Below.refl _ X).alloc (Nat.le_refl _) _).alloc (by rw [alloc_size]; omega) _)) (hb3.mono (by show X.heap.size ≤ (World.alloc (World.alloc X _) _).heap.size; simp only [alloc_size]; omega)))
  have h3 := HB3.out.size
  have y11' : w3.cell? ⟨w.heap.size, 11, none⟩ = some (.int .i64 (iu.toNat : Int)) := (HB3.out.cell (p := ⟨w.heap.size, 11, none⟩) hwx).trans y11
  have HY12 := Lib.hid y12
  clear ho3 hb3 y0 y1 y2 y3 y4 y5 y6 y7 y8 y9 y10 y11 y12 g0 g1 g2 g3
  go_wp2_with (at_builtin; go_loud (refine wpList_append_any _ rfl _ _ 22 rfl X.heap.size 5 i5 _ 1 1 Tryz.underlying22 hi5 hz0 hz1 hz2 rfl (by omega) (.slice e3 18 c3) 18 _ rfl (HO3.out.alloc _) (w3.heap.size + 1) (some ⟨w3.heap.size, 0, none⟩) 1 1 [.int .u8 (iu.toNat : Int)] rfl (reads_blk (t := 5) (blk_last _ _ _ _ rfl) (by omega) rfl) (by intro u hu; simp at hu; subst hu; rfl) (by decide) (by decide) (by rw [alloc_size]; omega) ?_); intro v4 w4 hown4 hg4 hat4; obtain ⟨e4, c4, hv4, _⟩ := own_shape hown4; subst hv4; have HO4 := Lib.hid hown4; have HB4 := Lib.hid ((HB3.out.alloc h3 _).grown hg4 (by rw [alloc_size]; omega) (fun i hi => (HO3.out.lt i hi).1)); have y12' : w4.cell? ⟨w.heap.size, 12, none⟩ = some (.int .i64 (en : Int)) := (HB4.out.cell (p := ⟨w.heap.size, 12, none⟩) hwx).trans HY12.out; clear hown4 hg4 hat4)
  have h4 := HB4.out.size
  have HR4 : Hid (Reads w4 w4.heap.size 1 e4 19 (([67, 82, 78, 1, a0, a1, a2, a3, a4, a5, a6, a7, ku, mu] ++ leN bn 4 ++ [iu]).map B8)) := Lib.hid (by
    have := Reads.of_own HO4.out
    rw [List.map_append]
    exact this)
  refine (put64_any e4 19 c4 _ en w4 _ HR4.out HBN.out.2 (by omega)).mono ?_
  rintro e w5 ⟨u5, rfl, ho5, hb5⟩
  obtain ⟨e5, c5, rfl, _⟩ := own_shape ho5
  rw [← HH.out] at ho5
  have HO5 := Lib.hid ho5
  have HB5 : Hid (Below X.heap.size X w5) := Lib.hid (HB4.out.trans (hb5.mono h4))
  have h5 := hb5.size
  clear ho5 hb5 y11' y12'
  go_wp2_with fail
  refine (sum_any e5 27 c5 l.head w5 _ (Reads.of_own HO5.out) (Nat.le_refl _) (by omega)).mono ?_
  rintro e w6 ⟨rfl, hb6⟩
  have HO6 := Lib.hid (ownsRow_below HO5.out hb6)
  have HB6 : Hid (Below X.heap.size X w6) := Lib.hid (HB5.out.trans (hb6.mono HB5.out.size))
  have h6 := hb6.size
  have HCL := Lib.hid (crcSum_lt l.head)
  obtain ⟨q, hq⟩ : ∃ q, q = crcSum l.head := ⟨_, rfl⟩
  rw [← hq] at HCL HBL ⊢
  clear hb6 hq
  go_wp2_with fail
  refine (put32_any e5 27 c5 l.head q w6 _ (Reads.of_own HO6.out) HCL.out (by omega)).mono ?_
  rintro e w7 ⟨u7, rfl, ho7, hb7⟩
  rw [← HBL.out] at ho7
  obtain ⟨e7, c7, rfl, _⟩ := own_shape ho7
  have HO7 : Hid (w7.ownsRow w.heap.size 5 1 (.slice e7 31 c7) 31 (l.bytes.map B8)) := Lib.hid (ownsRow_base_a ho7 (by have := HB6.out.size; omega))
  have HB7 : Hid (Below w.heap.size w w7) := Lib.hid (HWX.out.trans ((HB6.out.trans (hb7.mono HB6.out.size)).mono (by omega)))
  clear ho7 hb7
  go_wp2
  go_ret2
  exact ⟨_, rfl, HO7.out, HB7.out⟩
end Go.Proofs.YtdiaihpilniikaaGreat
namespace Go.Proofs.YtdiaihpilniikaaGreat
open Go.RowKit Go.Maps

theorem magic_neq (a b c d : UInt8) (W : World) : (binOp .neq 108 (.agg #[.int .u8 (a.toNat : Int), .int .u8 (b.toNat : Int), .int .u8 (c.toNat : Int), .int .u8 (d.toNat : Int)]) (.agg #[.int .u8 67, .int .u8 82, .int .u8 78, .int .u8 1])).run Tryz.prog W = .ok (.bool (!([a, b, c, d] == labMagic))) W := by
  rw [run_neq_struct]
  have h := run_equalIn_bytes (P := Tryz.prog) W 9998 108 5 4 Tryz.underlying108 Tryz.underlying5 (fun w => by kernel_rfl) [a, b, c, d] labMagic rfl rfl
  exact congrArg (fun r => Result.andThen r _) h

/-- The error of what is no label. -/
def zeroLab : Value := .agg #[.int .u8 0, .int .u8 0, .int .u8 0, .int .u8 0, .int .u8 0, .int .u8 0, .int .u8 0, .int .u8 0, .int .i64 0, .int .i64 0, .int .i64 0, .int .i64 0, .int .i64 0]
set_option maxRecDepth 100000 in
set_option maxHeartbeats 4000000 in
theorem parse_short (A : Option Addr) (n c : Nat) (w : World) (hn : n ≠ 31) : Calls Tryz.prog 32 #[.slice A n c] w fun e w' => e = .returned (.tuple #[labV Lab.zero, .int .i64 150]) ∧ Below w.heap.size w w' := by
  have hne : ((n : Int) != 31) = true := by simp; omega
  have hZ : labV Lab.zero = .agg #[.int .u8 0, .int .u8 0, .int .u8 0, .int .u8 0, .int .u8 0, .int .u8 0, .int .u8 0, .int .u8 0, .int .i64 0, .int .i64 0, .int .i64 0, .int .i64 0, .int .i64 0] := rfl
  rw [hZ]
  clear hZ hn
  go_enter Tryz.func32, Tryz.ntmps32
  go_wp2_with fail
  go_quiet (fail)
  go_wp2
  refine bodyPost_ret (v := .tuple #[.agg #[.int .u8 0, .int .u8 0, .int .u8 0, .int .u8 0, .int .u8 0, .int .u8 0, .int .u8 0, .int .u8 0, .int .i64 0, .int .i64 0, .int .i64 0, .int .i64 0, .int .i64 0], .int .i64 150]) (by simp only [results, Tryz.results32]; go_simp) rfl ⟨rfl, ?_⟩
  repeat (first | with_reducible exact Below.refl _ _ | with_reducible refine Below.setCell ?_ (by simp) _ | with_reducible refine below_drewN ?_ _ | with_reducible refine below_drew1 ?_ | with_reducible refine Below.alloc ?_ (by simp) _)
theorem reads_drop {w : World} {B g n j : Nat} {xs : List Value} (h : Reads w B 1 (some ⟨g, 0, none⟩) n xs) (hj : j < n) : Reads w B 1 (some ⟨g, j, none⟩) (n - j) (xs.drop j) := by
  refine ⟨by rw [List.length_drop, h.1]; omega, fun _ => ⟨_, rfl, ?_, fun i u hu => ?_⟩⟩
  · obtain ⟨ad, e, hb, _⟩ := h.2 (by omega)
    injection e with e; subst e; exact hb
  · obtain ⟨ad, e, hb, hc⟩ := h.2 (by omega)
    injection e with e; subst e
    rw [List.getElem?_drop] at hu
    have := hc (j + i) u hu
    rw [add_plain, Nat.zero_add] at this
    rw [add_plain]; exact this
theorem reads_cells {w : World} {B g n : Nat} {xs : List Value} (h : Reads w B 1 (some ⟨g, 0, none⟩) n xs) {j : Nat} {u : Value} (hu : xs[j]? = some u) : w.cell? ⟨g, j, none⟩ = some u ∧ g < B := by
  have hj : j < n := by have := (List.getElem?_eq_some_iff.1 hu).1; rw [h.1] at this; omega
  obtain ⟨ad, e, hb, hc⟩ := h.2 (by omega)
  injection e with e; subst e
  have := hc j u hu
  rw [add_plain, Nat.zero_add] at this
  exact ⟨this, hb⟩
theorem array4 (a : Addr) (c : Nat) (W : World) : (Instr.arrayAt 108 (.slice (some a) 4 c)).run Tryz.prog W = .ok (.pointer (some a)) W := by kernel_rfl
theorem array8 (a : Addr) (c : Nat) (W : World) : (Instr.arrayAt 23 (.slice (some a) 8 c)).run Tryz.prog W = .ok (.pointer (some a)) W := by kernel_rfl
set_option maxRecDepth 100000 in
set_option maxHeartbeats 4000000 in
theorem parse_magic (g c : Nat) (bs : List UInt8) (w : World) (B : Nat) (hx : Reads w B 1 (some ⟨g, 0, none⟩) 31 (bs.map B8)) (hB : B ≤ w.heap.size) (hc : 31 ≤ c) (hM : bs.take 4 ≠ labMagic) : Calls Tryz.prog 32 #[.slice (some ⟨g, 0, none⟩) 31 c] w fun e w' => e = .returned (.tuple #[labV Lab.zero, .int .i64 150]) ∧ Below w.heap.size w w' := by
  have hl : bs.length = 31 := by have := hx.1; simpa using this
  obtain ⟨x0, x1, x2, x3, t, rfl⟩ : ∃ x0 x1 x2 x3 t, bs = x0 :: x1 :: x2 :: x3 :: t := by
    match bs, hl with
    | x0 :: x1 :: x2 :: x3 :: t, _ => exact ⟨x0, x1, x2, x3, t, rfl⟩
  have hne : (!([x0, x1, x2, x3] == labMagic)) = true := by
    have : ([x0, x1, x2, x3] == labMagic) = false := by
      rw [beq_eq_false_iff_ne]; exact hM
    rw [this]; rfl
  have HQ := Lib.hid (magic_neq x0 x1 x2 x3)
  rw [hne] at HQ
  have hgB := (reads_cells hx (j := 0) rfl).2
  have hgl : g < w.heap.size := by omega
  have HCE : Hid (∀ V : World, V.heap[g]? = w.heap[g]? → V.cell? ⟨g, 0, none⟩ = some (.int .u8 (x0.toNat : Int)) ∧ V.cell? ⟨g, 1, none⟩ = some (.int .u8 (x1.toNat : Int)) ∧ V.cell? ⟨g, 2, none⟩ = some (.int .u8 (x2.toNat : Int)) ∧ V.cell? ⟨g, 3, none⟩ = some (.int .u8 (x3.toNat : Int))) := Lib.hid fun V hV => ⟨(World.cell?_of_block hV).trans (reads_cells hx (j := 0) rfl).1, (World.cell?_of_block hV).trans (reads_cells hx (j := 1) rfl).1, (World.cell?_of_block hV).trans (reads_cells hx (j := 2) rfl).1, (World.cell?_of_block hV).trans (reads_cells hx (j := 3) rfl).1⟩
  have hZ : labV Lab.zero = .agg #[.int .u8 0, .int .u8 0, .int .u8 0, .int .u8 0, .int .u8 0, .int .u8 0, .int .u8 0, .int .u8 0, .int .i64 0, .int .i64 0, .int .i64 0, .int .i64 0, .int .i64 0] := rfl
  have hq := HQ.out
  have hgd : Tryz.prog.eqGuardType Tryz.prog.depth 108 = false := by kernel_rfl
  have hc4 : (4 : Int) ≤ (c : Int) := by omega
  have ha4 := array4 ⟨g, 0, none⟩ c
  rw [hZ]
  clear hZ hM hx hl hgB
  go_enter Tryz.func32, Tryz.ntmps32
  go_wp2_with fail
  have e0 : (w.alloc (.cells #[.int .u8 0, .int .u8 0, .int .u8 0, .int .u8 0, .int .u8 0, .int .u8 0, .int .u8 0, .int .u8 0, .int .i64 0, .int .i64 0, .int .i64 0, .int .i64 0, .int .i64 0] 27)).heap[g]? = w.heap[g]? := Below.heap_alloc w _ g hgl
  go_region_held3 (fun w' => w'.cell? ⟨g, 0, none⟩ = some (.int .u8 (x0.toNat : Int)) ∧ w'.cell? ⟨g, 1, none⟩ = some (.int .u8 (x1.toNat : Int)) ∧ w'.cell? ⟨g, 2, none⟩ = some (.int .u8 (x2.toNat : Int)) ∧ w'.cell? ⟨g, 3, none⟩ = some (.int .u8 (x3.toNat : Int))) (first | exact HCE.out _ (by first | with_reducible assumption | exact e0) | go_keep)
    (first
      | (go_at_call 54; refine (magic_any _).mono ?_; rintro e w1 ⟨rfl, hb1⟩; have e1 : w1.heap[g]? = w.heap[g]? := (hb1.block g (by show g < (World.alloc w _).heap.size; rw [alloc_size]; omega)).trans e0; have HB1 : Hid (Below w.heap.size w w1) := Lib.hid (Below.trans (below_drew1 ((Below.refl _ w).alloc (Nat.le_refl _) _)) (hb1.mono (by show w.heap.size ≤ (World.alloc w _).heap.size; rw [alloc_size]; omega))); have k1 : Blk w1 w.heap.size 27 #[.int .u8 0, .int .u8 0, .int .u8 0, .int .u8 0, .int .u8 0, .int .u8 0, .int .u8 0, .int .u8 0, .int .i64 0, .int .i64 0, .int .i64 0, .int .i64 0, .int .i64 0] := ((Blk.new w _ _).drew).below hb1 (by show w.heap.size < (World.alloc w _).heap.size; rw [alloc_size]; omega); have y0 : w1.cell? ⟨w.heap.size, 0, none⟩ = some (.int .u8 0) := k1.cell 0; have y1 : w1.cell? ⟨w.heap.size, 1, none⟩ = some (.int .u8 0) := k1.cell 1; have y2 : w1.cell? ⟨w.heap.size, 2, none⟩ = some (.int .u8 0) := k1.cell 2; have y3 : w1.cell? ⟨w.heap.size, 3, none⟩ = some (.int .u8 0) := k1.cell 3; have y4 : w1.cell? ⟨w.heap.size, 4, none⟩ = some (.int .u8 0) := k1.cell 4; have y5 : w1.cell? ⟨w.heap.size, 5, none⟩ = some (.int .u8 0) := k1.cell 5; have y6 : w1.cell? ⟨w.heap.size, 6, none⟩ = some (.int .u8 0) := k1.cell 6; have y7 : w1.cell? ⟨w.heap.size, 7, none⟩ = some (.int .u8 0) := k1.cell 7; have y8 : w1.cell? ⟨w.heap.size, 8, none⟩ = some (.int .i64 0) := k1.cell 8; have y9 : w1.cell? ⟨w.heap.size, 9, none⟩ = some (.int .i64 0) := k1.cell 9; have y10 : w1.cell? ⟨w.heap.size, 10, none⟩ = some (.int .i64 0) := k1.cell 10; have y11 : w1.cell? ⟨w.heap.size, 11, none⟩ = some (.int .i64 0) := k1.cell 11; have y12 : w1.cell? ⟨w.heap.size, 12, none⟩ = some (.int .i64 0) := k1.cell 12; have yf := k1.frozen; clear hb1 k1))
  all_goals
    try go_wp2
    refine bodyPost_ret (v := .tuple #[.agg #[.int .u8 0, .int .u8 0, .int .u8 0, .int .u8 0, .int .u8 0, .int .u8 0, .int .u8 0, .int .u8 0, .int .i64 0, .int .i64 0, .int .i64 0, .int .i64 0, .int .i64 0], .int .i64 150]) (by simp only [results, Tryz.results32]; go_simp) rfl ⟨rfl, ?_⟩
    repeat (first | with_reducible exact HB1.out | with_reducible refine Below.setCell ?_ (by simp) _ | with_reducible refine below_drewN ?_ _ | with_reducible refine below_drew1 ?_ | with_reducible refine Below.alloc ?_ (by simp) _)
end Go.Proofs.YtdiaihpilniikaaGreat
namespace Go.Proofs.YtdiaihpilniikaaGreat
open Go.RowKit Go.Maps

theorem reads_take {w : World} {B g n j : Nat} {xs : List Value} (h : Reads w B 1 (some ⟨g, 0, none⟩) n xs) (hj : j ≤ n) : Reads w B 1 (some ⟨g, 0, none⟩) j (xs.take j) := by
  refine ⟨by rw [List.length_take, h.1]; omega, fun h0 => ?_⟩
  obtain ⟨ad, e, hb, hc⟩ := h.2 (by omega)
  refine ⟨ad, e, hb, fun i u hu => hc i u ?_⟩
  rw [List.getElem?_take] at hu
  split at hu
  · exact hu
  · cases hu
theorem Reads.up {w : World} {B B' size n : Nat} {A : Option Addr} {xs : List Value} (h : Reads w B size A n xs) (hB : B ≤ B') : Reads w B' size A n xs :=
  ⟨h.1, fun hn => by obtain ⟨ad, e, hb, hc⟩ := h.2 hn; exact ⟨ad, e, by omega, hc⟩⟩
/-- The parts of 31 bytes, as a reader behind the beginning sees them. -/
theorem lab_of_parts {bs : List UInt8} (h : bs.length = 31) : Lab.of bs = ⟨((bs.drop 4).drop 0).take 8, (unle (((bs.drop 4).drop 8).take 1) : Int), (unle (((bs.drop 4).drop 9).take 1) : Int), (unle (((bs.drop 4).drop 10).take 4) : Int), (unle (((bs.drop 4).drop 14).take 1) : Int), (unle (((bs.drop 4).drop 15).take 8) : Int)⟩ ∧ bs.drop 27 = ((bs.drop 4).drop 23).take 4 := by
  match bs, h with
  | [b0, b1, b2, b3, b4, b5, b6, b7, b8, b9, b10, b11, b12, b13, b14, b15, b16, b17, b18, b19, b20, b21, b22, b23, b24, b25, b26, b27, b28, b29, b30], _ => exact ⟨rfl, rfl⟩
theorem unle_bd (l : List UInt8) (p m : Nat) : unle ((l.drop p).take m) < 256 ^ m := Nat.lt_of_lt_of_le (unle_lt _) (Nat.pow_le_pow_right (by decide) (by rw [List.length_take]; omega))
theorem wrap_u32 (q : Nat) (h : q < 4294967296) : wrap64 (q : Int) = (q : Int) := IntWalk.wrap64_in _ (by omega)

set_option maxRecDepth 100000 in
set_option maxHeartbeats 20000000 in
theorem parse_right (g c : Nat) (bs : List UInt8) (w : World) (B : Nat) (hx : Reads w B 1 (some ⟨g, 0, none⟩) 31 (bs.map B8)) (hB : B ≤ w.heap.size) (hc : 31 ≤ c) (hM : bs.take 4 = labMagic) : Calls Tryz.prog 32 #[.slice (some ⟨g, 0, none⟩) 31 c] w fun e w' => e = .returned (.tuple #[labV (Lab.parse bs).1, .int .i64 (Lab.parse bs).2]) ∧ Below w.heap.size w w' := by
  have hl : bs.length = 31 := by have := hx.1; simpa using this
  have HX := Lib.hid hx
  have HL := Lib.hid hl
  have HMG := Lib.hid hM
  have HQ := Lib.hid (magic_neq 67 82 78 1)
  rw [show (!([67, 82, 78, 1] == labMagic)) = false from rfl] at HQ
  have hgl : g < w.heap.size := by
    have := (reads_cells hx (j := 0) (u := B8 bs[0]) (by rw [List.getElem?_map, List.getElem?_eq_getElem (by omega)]; rfl)).2
    omega
  have hmag : ∀ j (x : UInt8), labMagic[j]? = some x → w.cell? ⟨g, j, none⟩ = some (B8 x) := fun j x hj => (reads_cells hx (j := j) (by
    rw [← hM, List.getElem?_take] at hj
    split at hj
    · rw [List.getElem?_map, hj]; rfl
    · cases hj)).1
  have HCE : Hid (∀ V : World, V.heap[g]? = w.heap[g]? → V.cell? ⟨g, 0, none⟩ = some (.int .u8 67) ∧ V.cell? ⟨g, 1, none⟩ = some (.int .u8 82) ∧ V.cell? ⟨g, 2, none⟩ = some (.int .u8 78) ∧ V.cell? ⟨g, 3, none⟩ = some (.int .u8 1)) := Lib.hid fun V hV => ⟨(World.cell?_of_block hV).trans (hmag 0 67 rfl), (World.cell?_of_block hV).trans (hmag 1 82 rfl), (World.cell?_of_block hV).trans (hmag 2 78 rfl), (World.cell?_of_block hV).trans (hmag 3 1 rfl)⟩
  have hq : ∀ W : World, (binOp .neq 108 (.agg #[.int .u8 67, .int .u8 82, .int .u8 78, .int .u8 1]) (.agg #[.int .u8 67, .int .u8 82, .int .u8 78, .int .u8 1])).run Tryz.prog W = .ok (.bool false) W := HQ.out
  have hgd : Tryz.prog.eqGuardType Tryz.prog.depth 108 = false := by kernel_rfl
  have hc4 : (4 : Int) ≤ (c : Int) := by omega
  have hc27 : (27 : Int) ≤ (c : Int) := by omega
  have ha4 := array4 ⟨g, 0, none⟩ c
  have HPT := Lib.hid (lab_of_parts hl)
  have HB0 := Lib.hid hB
  clear hM hx hl hmag hB
  go_enter Tryz.func32, Tryz.ntmps32
  go_upto_region 1 with fail
  go_cut [18] (fun s18 wx => s18 = .bool false ∧ Blk wx w.heap.size 27 #[.int .u8 0, .int .u8 0, .int .u8 0, .int .u8 0, .int .u8 0, .int .u8 0, .int .u8 0, .int .u8 0, .int .i64 0, .int .i64 0, .int .i64 0, .int .i64 0, .int .i64 0] ∧ Below w.heap.size w wx)
  case first =>
    have e0 : (w.alloc (.cells #[.int .u8 0, .int .u8 0, .int .u8 0, .int .u8 0, .int .u8 0, .int .u8 0, .int .u8 0, .int .u8 0, .int .i64 0, .int .i64 0, .int .i64 0, .int .i64 0, .int .i64 0] 27)).heap[g]? = w.heap[g]? := Below.heap_alloc w _ g hgl
    go_region_held3 (fun w' => w'.cell? ⟨g, 0, none⟩ = some (.int .u8 67) ∧ w'.cell? ⟨g, 1, none⟩ = some (.int .u8 82) ∧ w'.cell? ⟨g, 2, none⟩ = some (.int .u8 78) ∧ w'.cell? ⟨g, 3, none⟩ = some (.int .u8 1)) (first | exact HCE.out _ (by first | with_reducible assumption | exact e0) | go_keep)
      (first
        | (go_at_call 54; refine (magic_any _).mono ?_; rintro e w1 ⟨rfl, hb1⟩; have e1 : w1.heap[g]? = w.heap[g]? := (hb1.block g (by show g < (World.alloc w _).heap.size; rw [alloc_size]; omega)).trans e0; have HB1 : Hid (Below w.heap.size w w1) := Lib.hid (Below.trans (below_drew1 ((Below.refl _ w).alloc (Nat.le_refl _) _)) (hb1.mono (by show w.heap.size ≤ (World.alloc w _).heap.size; rw [alloc_size]; omega))); have k1 : Blk w1 w.heap.size 27 #[.int .u8 0, .int .u8 0, .int .u8 0, .int .u8 0, .int .u8 0, .int .u8 0, .int .u8 0, .int .u8 0, .int .i64 0, .int .i64 0, .int .i64 0, .int .i64 0, .int .i64 0] := ((Blk.new w _ _).drew).below hb1 (by show w.heap.size < (World.alloc w _).heap.size; rw [alloc_size]; omega); have K1 := Lib.hid k1; clear hb1 k1))
    all_goals
      go_wp2_with fail
      go_meet
      exact ⟨rfl, K1.out, HB1.out⟩
  case rest =>
    obtain ⟨rfl, hkc, hbc⟩ := hcut
    have HKC := Lib.hid hkc
    have HBC := Lib.hid hbc
    have hsc := hbc.size
    have hlz := hkc.lt
    have HXC : Hid (Reads wc w.heap.size 1 (some ⟨g, 0, none⟩) 31 (bs.map B8)) := Lib.hid ((HX.out.below (hbc.mono HB0.out)).up HB0.out)
    have HX4 : Hid (Reads wc w.heap.size 1 (some ⟨g, 4, none⟩) 27 ((bs.drop 4).map B8)) := Lib.hid (by have := reads_drop HXC.out (j := 4) (by decide); rw [← List.map_drop] at this; exact this)
    clear hkc hbc hq hgd ha4
    go_wp2_with fail
    refine (open_any (some ⟨g, 4, none⟩) 27 _ (bs.drop 4) wc _ HX4.out (by decide) (by decide)).mono ?_
    rintro e w2 ⟨r, g2, d, rfl, hrd, hr2, hg2, hb2⟩
    have HRD2 := Lib.hid hrd
    have HB2 : Hid (Below w.heap.size w w2) := Lib.hid (HBC.out.trans (hb2.mono hsc))
    have HK2 := Lib.hid (HKC.out.below hb2 hlz)
    have hs2 := hb2.size
    have hrl2 := hrd.head.lt
    have hgl2 := hrd.glt
    clear hrd hb2
    go_wp2_with fail
    refine (bytes_any r g2 27 d 0 8 (bs.drop 4) w2 HRD2.out (by decide) (by decide)).mono ?_
    rintro e w3 ⟨v3, rfl, hrd3, ho3, ht3⟩
    have hs3 := ht3.size
    obtain ⟨a0, a1, a2, a3, a4, a5, a6, a7, hst⟩ := lab_eight (s := ((bs.drop 4).drop 0).take 8) (by rw [List.length_take, List.length_drop, List.length_drop, HL.out]; rfl)
    rw [hst] at ho3
    obtain ⟨g3, c3, rfl⟩ : ∃ g3 c3, v3 = .slice (some ⟨g3, 0, none⟩) 8 c3 := by
      rcases ho3.2 with ⟨_, h0⟩ | ⟨g', cap, cur, hv, _⟩
      · omega
      · exact ⟨g', cap, hv⟩
    have hr3 := Reads.of_own ho3
    have s0 : w3.cell? ⟨g3, 0, none⟩ = some (.int .u8 (a0.toNat : Int)) := (reads_cells hr3 (j := 0) rfl).1
    have s1 : w3.cell? ⟨g3, 1, none⟩ = some (.int .u8 (a1.toNat : Int)) := (reads_cells hr3 (j := 1) rfl).1
    have s2 : w3.cell? ⟨g3, 2, none⟩ = some (.int .u8 (a2.toNat : Int)) := (reads_cells hr3 (j := 2) rfl).1
    have s3 : w3.cell? ⟨g3, 3, none⟩ = some (.int .u8 (a3.toNat : Int)) := (reads_cells hr3 (j := 3) rfl).1
    have s4 : w3.cell? ⟨g3, 4, none⟩ = some (.int .u8 (a4.toNat : Int)) := (reads_cells hr3 (j := 4) rfl).1
    have s5 : w3.cell? ⟨g3, 5, none⟩ = some (.int .u8 (a5.toNat : Int)) := (reads_cells hr3 (j := 5) rfl).1
    have s6 : w3.cell? ⟨g3, 6, none⟩ = some (.int .u8 (a6.toNat : Int)) := (reads_cells hr3 (j := 6) rfl).1
    have s7 : w3.cell? ⟨g3, 7, none⟩ = some (.int .u8 (a7.toNat : Int)) := (reads_cells hr3 (j := 7) rfl).1
    have ha8 := array8 ⟨g3, 0, none⟩ c3
    have HST := Lib.hid hst
    have HRD3 := Lib.hid hrd3
    have HT3 := Lib.hid ht3
    have HB3 : Hid (Below w.heap.size w w3) := Lib.hid (HB2.out.trans (ht3.below (Nat.le_trans hsc hs2) fun i (hi : i = r) => by omega))
    have HK3 := Lib.hid (HK2.out.touch ht3 (by omega))
    clear hst hrd3 ho3 ht3 hr3
    go_wp2_with fail
    obtain ⟨L, hL⟩ : ∃ L, L = w3.heap.size := ⟨_, rfl⟩
    rw [← hL]
    have hLr : ¬ L = r := by omega
    have hLg : ¬ L = g2 := by omega
    have hgL : g2 ≠ L := by omega
    have hrL : r ≠ L := by omega
    have hLw : ¬ w.heap.size = L := by omega
    have hLwl : w.heap.size ≤ L := by omega
    obtain ⟨X3, hX3⟩ : ∃ X, X = w3.alloc (.cells #[.int .u8 (a0.toNat : Int), .int .u8 (a1.toNat : Int), .int .u8 (a2.toNat : Int), .int .u8 (a3.toNat : Int), .int .u8 (a4.toNat : Int), .int .u8 (a5.toNat : Int), .int .u8 (a6.toNat : Int), .int .u8 (a7.toNat : Int), .int .i64 0, .int .i64 0, .int .i64 0, .int .i64 0, .int .i64 0] 27) := ⟨_, rfl⟩
    rw [← hX3]
    have hb33 : Below w3.heap.size w3 X3 := by rw [hX3]; exact (Below.refl _ _).alloc (Nat.le_refl _) _
    have HR3 := Lib.hid (HRD3.out.below hb33)
    have HL3 : Hid (Blk X3 L 27 #[.int .u8 (a0.toNat : Int), .int .u8 (a1.toNat : Int), .int .u8 (a2.toNat : Int), .int .u8 (a3.toNat : Int), .int .u8 (a4.toNat : Int), .int .u8 (a5.toNat : Int), .int .u8 (a6.toNat : Int), .int .u8 (a7.toNat : Int), .int .i64 0, .int .i64 0, .int .i64 0, .int .i64 0, .int .i64 0]) := Lib.hid (by rw [hX3, hL]; exact Blk.new _ _ _)
    have HBX3 : Hid (Below w.heap.size w X3) := Lib.hid (HB3.out.trans (hb33.mono (by omega)))
    have HKX3 := Lib.hid (HK3.out.below hb33 HK3.out.lt)
    clear hX3 hb33 s0 s1 s2 s3 s4 s5 s6 s7 hL
    obtain ⟨qK, hqK⟩ : ∃ q, q = unle (((bs.drop 4).drop 8).take 1) := ⟨_, rfl⟩
    have HqK := Lib.hid hqK
    have bqK : Hid (qK < 256) := Lib.hid (by rw [hqK]; exact unle_bd _ 8 1)
    have wqK : wrap64 (qK : Int) = (qK : Int) := wrap_u32 qK (by have := bqK.out; omega)
    refine (take8_any r g2 27 d 8 (bs.drop 4) X3 HR3.out (by decide)).mono ?_
    rw [← hqK]
    rintro e w4 ⟨rfl, hrd, ht⟩
    have hs4 := ht.size
    have k4 : Blk w4 L 27 #[.int .u8 (a0.toNat : Int), .int .u8 (a1.toNat : Int), .int .u8 (a2.toNat : Int), .int .u8 (a3.toNat : Int), .int .u8 (a4.toNat : Int), .int .u8 (a5.toNat : Int), .int .u8 (a6.toNat : Int), .int .u8 (a7.toNat : Int), .int .i64 0, .int .i64 0, .int .i64 0, .int .i64 0, .int .i64 0] := HL3.out.touch ht hLr
    have y4 : w4.cell? ⟨L, 8, none⟩ = some (.int .i64 0) := k4.cell 8
    have yf4 : ∀ i, w4.frozen? ⟨L, i, none⟩ = false := k4.frozen
    have HR4 : Hid (RdAt (w4.setCell ⟨L, 8, none⟩ (.int .i64 (qK : Int))) r g2 27 d 9 (bs.drop 4)) := Lib.hid (hrd.keep (Below.heap_setCell w4 ⟨L, 8, none⟩ _ r hrL) (Below.heap_setCell w4 ⟨L, 8, none⟩ _ g2 hgL))
    have HL4 : Hid (Blk (w4.setCell ⟨L, 8, none⟩ (.int .i64 (qK : Int))) L 27 #[.int .u8 (a0.toNat : Int), .int .u8 (a1.toNat : Int), .int .u8 (a2.toNat : Int), .int .u8 (a3.toNat : Int), .int .u8 (a4.toNat : Int), .int .u8 (a5.toNat : Int), .int .u8 (a6.toNat : Int), .int .u8 (a7.toNat : Int), .int .i64 (qK : Int), .int .i64 0, .int .i64 0, .int .i64 0, .int .i64 0]) := Lib.hid (k4.set_ 8 (.int .i64 (qK : Int)))
    have HBX4 : Hid (Below w.heap.size w (w4.setCell ⟨L, 8, none⟩ (.int .i64 (qK : Int)))) := Lib.hid ((HBX3.out.trans (ht.below HBX3.out.size fun i (hi : i = r) => by omega)).setCell hLwl _)
    have HKX4 : Hid (Blk (w4.setCell ⟨L, 8, none⟩ (.int .i64 (qK : Int))) w.heap.size 27 #[.int .u8 0, .int .u8 0, .int .u8 0, .int .u8 0, .int .u8 0, .int .u8 0, .int .u8 0, .int .u8 0, .int .i64 0, .int .i64 0, .int .i64 0, .int .i64 0, .int .i64 0]) := Lib.hid ((HKX3.out.touch ht (by omega)).far hLw _)
    clear hqK hrd ht k4
    go_wp2_with fail
    clear y4 yf4
    obtain ⟨qM, hqM⟩ : ∃ q, q = unle (((bs.drop 4).drop 9).take 1) := ⟨_, rfl⟩
    have HqM := Lib.hid hqM
    have bqM : Hid (qM < 256) := Lib.hid (by rw [hqM]; exact unle_bd _ 9 1)
    have wqM : wrap64 (qM : Int) = (qM : Int) := wrap_u32 qM (by have := bqM.out; omega)
    refine (take8_any r g2 27 d 9 (bs.drop 4) (w4.setCell ⟨L, 8, none⟩ (.int .i64 (qK : Int))) HR4.out (by decide)).mono ?_
    rw [← hqM]
    rintro e w5 ⟨rfl, hrd, ht⟩
    have hs5 := ht.size
    have k5 : Blk w5 L 27 #[.int .u8 (a0.toNat : Int), .int .u8 (a1.toNat : Int), .int .u8 (a2.toNat : Int), .int .u8 (a3.toNat : Int), .int .u8 (a4.toNat : Int), .int .u8 (a5.toNat : Int), .int .u8 (a6.toNat : Int), .int .u8 (a7.toNat : Int), .int .i64 (qK : Int), .int .i64 0, .int .i64 0, .int .i64 0, .int .i64 0] := HL4.out.touch ht hLr
    have y5 : w5.cell? ⟨L, 9, none⟩ = some (.int .i64 0) := k5.cell 9
    have yf5 : ∀ i, w5.frozen? ⟨L, i, none⟩ = false := k5.frozen
    have HR5 : Hid (RdAt (w5.setCell ⟨L, 9, none⟩ (.int .i64 (qM : Int))) r g2 27 d 10 (bs.drop 4)) := Lib.hid (hrd.keep (Below.heap_setCell w5 ⟨L, 9, none⟩ _ r hrL) (Below.heap_setCell w5 ⟨L, 9, none⟩ _ g2 hgL))
    have HL5 : Hid (Blk (w5.setCell ⟨L, 9, none⟩ (.int .i64 (qM : Int))) L 27 #[.int .u8 (a0.toNat : Int), .int .u8 (a1.toNat : Int), .int .u8 (a2.toNat : Int), .int .u8 (a3.toNat : Int), .int .u8 (a4.toNat : Int), .int .u8 (a5.toNat : Int), .int .u8 (a6.toNat : Int), .int .u8 (a7.toNat : Int), .int .i64 (qK : Int), .int .i64 (qM : Int), .int .i64 0, .int .i64 0, .int .i64 0]) := Lib.hid (k5.set_ 9 (.int .i64 (qM : Int)))
    have HBX5 : Hid (Below w.heap.size w (w5.setCell ⟨L, 9, none⟩ (.int .i64 (qM : Int)))) := Lib.hid ((HBX4.out.trans (ht.below HBX4.out.size fun i (hi : i = r) => by omega)).setCell hLwl _)
    have HKX5 : Hid (Blk (w5.setCell ⟨L, 9, none⟩ (.int .i64 (qM : Int))) w.heap.size 27 #[.int .u8 0, .int .u8 0, .int .u8 0, .int .u8 0, .int .u8 0, .int .u8 0, .int .u8 0, .int .u8 0, .int .i64 0, .int .i64 0, .int .i64 0, .int .i64 0, .int .i64 0]) := Lib.hid ((HKX4.out.touch ht (by omega)).far hLw _)
    clear hqM hrd ht k5
    go_wp2_with fail
    clear y5 yf5
    obtain ⟨qB, hqB⟩ : ∃ q, q = unle (((bs.drop 4).drop 10).take 4) := ⟨_, rfl⟩
    have HqB := Lib.hid hqB
    have bqB : Hid (qB < 4294967296) := Lib.hid (by rw [hqB]; exact unle_bd _ 10 4)
    have wqB : wrap64 (qB : Int) = (qB : Int) := wrap_u32 qB (by have := bqB.out; omega)
    refine (take32_any r g2 27 d 10 (bs.drop 4) (w5.setCell ⟨L, 9, none⟩ (.int .i64 (qM : Int))) HR5.out (by decide)).mono ?_
    rw [← hqB]
    rintro e w6 ⟨rfl, hrd, ht⟩
    have hs6 := ht.size
    have k6 : Blk w6 L 27 #[.int .u8 (a0.toNat : Int), .int .u8 (a1.toNat : Int), .int .u8 (a2.toNat : Int), .int .u8 (a3.toNat : Int), .int .u8 (a4.toNat : Int), .int .u8 (a5.toNat : Int), .int .u8 (a6.toNat : Int), .int .u8 (a7.toNat : Int), .int .i64 (qK : Int), .int .i64 (qM : Int), .int .i64 0, .int .i64 0, .int .i64 0] := HL5.out.touch ht hLr
    have y6 : w6.cell? ⟨L, 10, none⟩ = some (.int .i64 0) := k6.cell 10
    have yf6 : ∀ i, w6.frozen? ⟨L, i, none⟩ = false := k6.frozen
    have HR6 : Hid (RdAt (w6.setCell ⟨L, 10, none⟩ (.int .i64 (qB : Int))) r g2 27 d 14 (bs.drop 4)) := Lib.hid (hrd.keep (Below.heap_setCell w6 ⟨L, 10, none⟩ _ r hrL) (Below.heap_setCell w6 ⟨L, 10, none⟩ _ g2 hgL))
    have HL6 : Hid (Blk (w6.setCell ⟨L, 10, none⟩ (.int .i64 (qB : Int))) L 27 #[.int .u8 (a0.toNat : Int), .int .u8 (a1.toNat : Int), .int .u8 (a2.toNat : Int), .int .u8 (a3.toNat : Int), .int .u8 (a4.toNat : Int), .int .u8 (a5.toNat : Int), .int .u8 (a6.toNat : Int), .int .u8 (a7.toNat : Int), .int .i64 (qK : Int), .int .i64 (qM : Int), .int .i64 (qB : Int), .int .i64 0, .int .i64 0]) := Lib.hid (k6.set_ 10 (.int .i64 (qB : Int)))
    have HBX6 : Hid (Below w.heap.size w (w6.setCell ⟨L, 10, none⟩ (.int .i64 (qB : Int)))) := Lib.hid ((HBX5.out.trans (ht.below HBX5.out.size fun i (hi : i = r) => by omega)).setCell hLwl _)
    have HKX6 : Hid (Blk (w6.setCell ⟨L, 10, none⟩ (.int .i64 (qB : Int))) w.heap.size 27 #[.int .u8 0, .int .u8 0, .int .u8 0, .int .u8 0, .int .u8 0, .int .u8 0, .int .u8 0, .int .u8 0, .int .i64 0, .int .i64 0, .int .i64 0, .int .i64 0, .int .i64 0]) := Lib.hid ((HKX5.out.touch ht (by omega)).far hLw _)
    clear hqB hrd ht k6
    go_wp2_with fail
    clear y6 yf6
    obtain ⟨qI, hqI⟩ : ∃ q, q = unle (((bs.drop 4).drop 14).take 1) := ⟨_, rfl⟩
    have HqI := Lib.hid hqI
    have bqI : Hid (qI < 256) := Lib.hid (by rw [hqI]; exact unle_bd _ 14 1)
    have wqI : wrap64 (qI : Int) = (qI : Int) := wrap_u32 qI (by have := bqI.out; omega)
    refine (take8_any r g2 27 d 14 (bs.drop 4) (w6.setCell ⟨L, 10, none⟩ (.int .i64 (qB : Int))) HR6.out (by decide)).mono ?_
    rw [← hqI]
    rintro e w7 ⟨rfl, hrd, ht⟩
    have hs7 := ht.size
    have k7 : Blk w7 L 27 #[.int .u8 (a0.toNat : Int), .int .u8 (a1.toNat : Int), .int .u8 (a2.toNat : Int), .int .u8 (a3.toNat : Int), .int .u8 (a4.toNat : Int), .int .u8 (a5.toNat : Int), .int .u8 (a6.toNat : Int), .int .u8 (a7.toNat : Int), .int .i64 (qK : Int), .int .i64 (qM : Int), .int .i64 (qB : Int), .int .i64 0, .int .i64 0] := HL6.out.touch ht hLr
    have y7 : w7.cell? ⟨L, 11, none⟩ = some (.int .i64 0) := k7.cell 11
    have yf7 : ∀ i, w7.frozen? ⟨L, i, none⟩ = false := k7.frozen
    have HR7 : Hid (RdAt (w7.setCell ⟨L, 11, none⟩ (.int .i64 (qI : Int))) r g2 27 d 15 (bs.drop 4)) := Lib.hid (hrd.keep (Below.heap_setCell w7 ⟨L, 11, none⟩ _ r hrL) (Below.heap_setCell w7 ⟨L, 11, none⟩ _ g2 hgL))
    have HL7 : Hid (Blk (w7.setCell ⟨L, 11, none⟩ (.int .i64 (qI : Int))) L 27 #[.int .u8 (a0.toNat : Int), .int .u8 (a1.toNat : Int), .int .u8 (a2.toNat : Int), .int .u8 (a3.toNat : Int), .int .u8 (a4.toNat : Int), .int .u8 (a5.toNat : Int), .int .u8 (a6.toNat : Int), .int .u8 (a7.toNat : Int), .int .i64 (qK : Int), .int .i64 (qM : Int), .int .i64 (qB : Int), .int .i64 (qI : Int), .int .i64 0]) := Lib.hid (k7.set_ 11 (.int .i64 (qI : Int)))
    have HBX7 : Hid (Below w.heap.size w (w7.setCell ⟨L, 11, none⟩ (.int .i64 (qI : Int)))) := Lib.hid ((HBX6.out.trans (ht.below HBX6.out.size fun i (hi : i = r) => by omega)).setCell hLwl _)
    have HKX7 : Hid (Blk (w7.setCell ⟨L, 11, none⟩ (.int .i64 (qI : Int))) w.heap.size 27 #[.int .u8 0, .int .u8 0, .int .u8 0, .int .u8 0, .int .u8 0, .int .u8 0, .int .u8 0, .int .u8 0, .int .i64 0, .int .i64 0, .int .i64 0, .int .i64 0, .int .i64 0]) := Lib.hid ((HKX6.out.touch ht (by omega)).far hLw _)
    clear hqI hrd ht k7
    go_wp2_with fail
    clear y7 yf7
    obtain ⟨qE, hqE⟩ : ∃ q, q = unle (((bs.drop 4).drop 15).take 8) := ⟨_, rfl⟩
    have HqE := Lib.hid hqE
    have bqE : Hid (qE < 18446744073709551616) := Lib.hid (by rw [hqE]; exact unle_bd _ 15 8)
    refine (take64_any r g2 27 d 15 (bs.drop 4) (w7.setCell ⟨L, 11, none⟩ (.int .i64 (qI : Int))) HR7.out (by decide)).mono ?_
    rw [← hqE]
    rintro e w8 ⟨rfl, hrd, ht⟩
    have hs8 := ht.size
    have HR8 := Lib.hid hrd
    have HL8 := Lib.hid (HL7.out.touch ht hLr)
    have HBX8 : Hid (Below w.heap.size w w8) := Lib.hid (HBX7.out.trans (ht.below HBX7.out.size fun i (hi : i = r) => by omega))
    have HKX8 := Lib.hid (HKX7.out.touch ht (by omega))
    clear hqE hrd ht
    go_wp2_with fail
    obtain ⟨qS, hqS⟩ : ∃ q, q = unle (((bs.drop 4).drop 23).take 4) := ⟨_, rfl⟩
    have HqS := Lib.hid hqS
    have bqS : Hid (qS < 4294967296) := Lib.hid (by rw [hqS]; exact unle_bd _ 23 4)
    have wqS : wrap64 (qS : Int) = (qS : Int) := wrap_u32 qS (by have := bqS.out; omega)
    refine (take32_any r g2 27 d 23 (bs.drop 4) w8 HR8.out (by decide)).mono ?_
    rw [← hqS]
    rintro e w9 ⟨rfl, hrd, ht⟩
    have hs9 := ht.size
    have HR9 := Lib.hid hrd
    have HL9 := Lib.hid (HL8.out.touch ht hLr)
    have HBX9 : Hid (Below w.heap.size w w9) := Lib.hid (HBX8.out.trans (ht.below HBX8.out.size fun i (hi : i = r) => by omega))
    have HKX9 := Lib.hid (HKX8.out.touch ht (by omega))
    clear hqS hrd ht
    have HLO : Hid (Lab.of bs = ⟨[a0, a1, a2, a3, a4, a5, a6, a7], (qK : Int), (qM : Int), (qB : Int), (qI : Int), (qE : Int)⟩) := Lib.hid (by rw [HPT.out.1, HST.out, ← HqK.out, ← HqM.out, ← HqB.out, ← HqI.out, ← HqE.out])
    have HUS : Hid (unle (bs.drop 27) = qS) := Lib.hid (by rw [HPT.out.2, ← HqS.out])
    obtain ⟨z, hz⟩ : ∃ z, wrap64 (qE : Int) = z := ⟨_, rfl⟩
    have HZE : Hid (qE ≤ 4294967295 → z = (qE : Int)) := Lib.hid fun h => by rw [← hz]; exact wrap_u32 qE (by omega)
    have y12 : w9.cell? ⟨L, 12, none⟩ = some (.int .i64 0) := HL9.out.cell 12
    have yf9 : ∀ i, w9.frozen? ⟨L, i, none⟩ = false := HL9.out.frozen
    go_wp2_with fail
    clear y12 yf9 hz
    have HR10 : Hid (RdAt (w9.setCell ⟨L, 12, none⟩ (.int .i64 z)) r g2 27 d 27 (bs.drop 4)) := Lib.hid (HR9.out.keep (Below.heap_setCell w9 ⟨L, 12, none⟩ _ r hrL) (Below.heap_setCell w9 ⟨L, 12, none⟩ _ g2 hgL))
    have HL10 : Hid (Blk (w9.setCell ⟨L, 12, none⟩ (.int .i64 z)) L 27 #[.int .u8 (a0.toNat : Int), .int .u8 (a1.toNat : Int), .int .u8 (a2.toNat : Int), .int .u8 (a3.toNat : Int), .int .u8 (a4.toNat : Int), .int .u8 (a5.toNat : Int), .int .u8 (a6.toNat : Int), .int .u8 (a7.toNat : Int), .int .i64 (qK : Int), .int .i64 (qM : Int), .int .i64 (qB : Int), .int .i64 (qI : Int), .int .i64 z]) := Lib.hid (HL9.out.set_ 12 (.int .i64 z))
    have HBX10 : Hid (Below w.heap.size w (w9.setCell ⟨L, 12, none⟩ (.int .i64 z))) := Lib.hid (HBX9.out.setCell hLwl _)
    have HKX10 : Hid (Blk (w9.setCell ⟨L, 12, none⟩ (.int .i64 z)) w.heap.size 27 #[.int .u8 0, .int .u8 0, .int .u8 0, .int .u8 0, .int .u8 0, .int .u8 0, .int .u8 0, .int .u8 0, .int .i64 0, .int .i64 0, .int .i64 0, .int .i64 0, .int .i64 0]) := Lib.hid (HKX9.out.far hLw _)
    refine (end_any r g2 27 d 27 (bs.drop 4) _ HR10.out rfl).mono ?_
    rintro e w10 ⟨rfl, kd, hw10⟩
    have HL11 : Hid (Blk w10 L 27 #[.int .u8 (a0.toNat : Int), .int .u8 (a1.toNat : Int), .int .u8 (a2.toNat : Int), .int .u8 (a3.toNat : Int), .int .u8 (a4.toNat : Int), .int .u8 (a5.toNat : Int), .int .u8 (a6.toNat : Int), .int .u8 (a7.toNat : Int), .int .i64 (qK : Int), .int .i64 (qM : Int), .int .i64 (qB : Int), .int .i64 (qI : Int), .int .i64 z]) := Lib.hid (by rw [hw10]; exact HL10.out.drewN kd)
    have HB11 : Hid (Below w.heap.size w w10) := Lib.hid (by rw [hw10]; exact below_drewN HBX10.out kd)
    have HK11 : Hid (Blk w10 w.heap.size 27 #[.int .u8 0, .int .u8 0, .int .u8 0, .int .u8 0, .int .u8 0, .int .u8 0, .int .u8 0, .int .u8 0, .int .i64 0, .int .i64 0, .int .i64 0, .int .i64 0, .int .i64 0]) := Lib.hid (by rw [hw10]; exact HKX10.out.drewN kd)
    have hs10 := HB11.out.size
    have hL10 := HL11.out.lt
    clear hw10
    have HX27 : Hid (Reads w10 w.heap.size 1 (some ⟨g, 0, none⟩) 27 ((bs.take 27).map B8)) := Lib.hid (by
      have := reads_take ((HX.out.below (HB11.out.mono HB0.out)).up HB0.out) (j := 27) (by decide)
      rw [← List.map_take] at this; exact this)
    by_cases hE : qE ≤ 4294967295
    case' neg =>
      have hE2 : (4294967295 : Int) < (qE : Int) := by omega
      have HBAD : Hid (¬Lab.reads bs) := Lib.hid fun h => by
        have h1 := may_fits h.2.2.2
        rw [HLO.out] at h1
        have := h1.2.2.2.2.2.2.2.2
        simp only at this
        omega
      clear hE
      have u0 : w10.cell? ⟨w.heap.size, 0, none⟩ = some (.int .u8 0) := HK11.out.cell 0
      have u1 : w10.cell? ⟨w.heap.size, 1, none⟩ = some (.int .u8 0) := HK11.out.cell 1
      have u2 : w10.cell? ⟨w.heap.size, 2, none⟩ = some (.int .u8 0) := HK11.out.cell 2
      have u3 : w10.cell? ⟨w.heap.size, 3, none⟩ = some (.int .u8 0) := HK11.out.cell 3
      have u4 : w10.cell? ⟨w.heap.size, 4, none⟩ = some (.int .u8 0) := HK11.out.cell 4
      have u5 : w10.cell? ⟨w.heap.size, 5, none⟩ = some (.int .u8 0) := HK11.out.cell 5
      have u6 : w10.cell? ⟨w.heap.size, 6, none⟩ = some (.int .u8 0) := HK11.out.cell 6
      have u7 : w10.cell? ⟨w.heap.size, 7, none⟩ = some (.int .u8 0) := HK11.out.cell 7
      have u8 : w10.cell? ⟨w.heap.size, 8, none⟩ = some (.int .i64 0) := HK11.out.cell 8
      have u9 : w10.cell? ⟨w.heap.size, 9, none⟩ = some (.int .i64 0) := HK11.out.cell 9
      have u10 : w10.cell? ⟨w.heap.size, 10, none⟩ = some (.int .i64 0) := HK11.out.cell 10
      have u11 : w10.cell? ⟨w.heap.size, 11, none⟩ = some (.int .i64 0) := HK11.out.cell 11
      have u12 : w10.cell? ⟨w.heap.size, 12, none⟩ = some (.int .i64 0) := HK11.out.cell 12
      have uf : ∀ i, w10.frozen? ⟨w.heap.size, i, none⟩ = false := HK11.out.frozen
      go_wp2
      refine bodyPost_ret (v := .tuple #[.agg #[.int .u8 0, .int .u8 0, .int .u8 0, .int .u8 0, .int .u8 0, .int .u8 0, .int .u8 0, .int .u8 0, .int .i64 0, .int .i64 0, .int .i64 0, .int .i64 0, .int .i64 0], .int .i64 150]) (by simp only [results, Tryz.results32]; go_simp) rfl ⟨?_, ?_⟩
      · rw [Lab.parse_bad HBAD.out]; rfl
      · iterate 13 (with_reducible refine Below.setCell ?_ (by simp) _)
        exact HB11.out

    case' pos =>
      have hE2 : ¬((4294967295 : Int) < (qE : Int)) := by omega
      have hzE : z = (qE : Int) := HZE.out hE
      subst hzE
      clear hE
      go_wp2_with fail
      refine (sum_any (some ⟨g, 0, none⟩) 27 c (bs.take 27) w10 _ HX27.out hs10 (by decide)).mono ?_
      rintro e w11 ⟨rfl, hb11⟩
      have HL12 := Lib.hid (HL11.out.below hb11 hL10)
      have HK12 := Lib.hid (HK11.out.below hb11 HK11.out.lt)
      have HB12 : Hid (Below w.heap.size w w11) := Lib.hid (HB11.out.trans (hb11.mono hs10))
      have hs11 := hb11.size
      clear hb11
      obtain ⟨cs, hcs⟩ : ∃ q, q = crcSum (bs.take 27) := ⟨_, rfl⟩
      have HCS := Lib.hid hcs
      rw [← hcs]
      clear hcs
      by_cases hS : qS = cs
      case' neg =>
        have hS2 : ((qS : Int) != (cs : Int)) = true := by simp; omega
        have HBAD : Hid (¬Lab.reads bs) := Lib.hid fun h => by
          have h1 := h.2.2.1
          rw [HUS.out, ← HCS.out] at h1
          exact hS h1
        clear hS
        have u0 : w11.cell? ⟨w.heap.size, 0, none⟩ = some (.int .u8 0) := HK12.out.cell 0
        have u1 : w11.cell? ⟨w.heap.size, 1, none⟩ = some (.int .u8 0) := HK12.out.cell 1
        have u2 : w11.cell? ⟨w.heap.size, 2, none⟩ = some (.int .u8 0) := HK12.out.cell 2
        have u3 : w11.cell? ⟨w.heap.size, 3, none⟩ = some (.int .u8 0) := HK12.out.cell 3
        have u4 : w11.cell? ⟨w.heap.size, 4, none⟩ = some (.int .u8 0) := HK12.out.cell 4
        have u5 : w11.cell? ⟨w.heap.size, 5, none⟩ = some (.int .u8 0) := HK12.out.cell 5
        have u6 : w11.cell? ⟨w.heap.size, 6, none⟩ = some (.int .u8 0) := HK12.out.cell 6
        have u7 : w11.cell? ⟨w.heap.size, 7, none⟩ = some (.int .u8 0) := HK12.out.cell 7
        have u8 : w11.cell? ⟨w.heap.size, 8, none⟩ = some (.int .i64 0) := HK12.out.cell 8
        have u9 : w11.cell? ⟨w.heap.size, 9, none⟩ = some (.int .i64 0) := HK12.out.cell 9
        have u10 : w11.cell? ⟨w.heap.size, 10, none⟩ = some (.int .i64 0) := HK12.out.cell 10
        have u11 : w11.cell? ⟨w.heap.size, 11, none⟩ = some (.int .i64 0) := HK12.out.cell 11
        have u12 : w11.cell? ⟨w.heap.size, 12, none⟩ = some (.int .i64 0) := HK12.out.cell 12
        have uf : ∀ i, w11.frozen? ⟨w.heap.size, i, none⟩ = false := HK12.out.frozen
        go_wp2
        refine bodyPost_ret (v := .tuple #[.agg #[.int .u8 0, .int .u8 0, .int .u8 0, .int .u8 0, .int .u8 0, .int .u8 0, .int .u8 0, .int .u8 0, .int .i64 0, .int .i64 0, .int .i64 0, .int .i64 0, .int .i64 0], .int .i64 150]) (by simp only [results, Tryz.results32]; go_simp) rfl ⟨?_, ?_⟩
        · rw [Lab.parse_bad HBAD.out]; rfl
        · iterate 13 (with_reducible refine Below.setCell ?_ (by simp) _)
          exact HB12.out

      case' pos =>
        have hS2 : ((qS : Int) != (cs : Int)) = false := by simp; omega
        have HLV : Hid (labV (Lab.of bs) = .agg #[.int .u8 (a0.toNat : Int), .int .u8 (a1.toNat : Int), .int .u8 (a2.toNat : Int), .int .u8 (a3.toNat : Int), .int .u8 (a4.toNat : Int), .int .u8 (a5.toNat : Int), .int .u8 (a6.toNat : Int), .int .u8 (a7.toNat : Int), .int .i64 (qK : Int), .int .i64 (qM : Int), .int .i64 (qB : Int), .int .i64 (qI : Int), .int .i64 (qE : Int)]) := Lib.hid (by rw [HLO.out]; rfl)
        have HWF : Hid ((Lab.of bs).Wf) := Lib.hid (by rw [HLO.out]; exact ⟨rfl, ⟨by simp only; omega, by have := bqK.out; simp only; omega⟩, ⟨by simp only; omega, by have := bqM.out; simp only; omega⟩⟩)
        have t0 : w11.cell? ⟨L, 0, none⟩ = some (.int .u8 (a0.toNat : Int)) := HL12.out.cell 0
        have t1 : w11.cell? ⟨L, 1, none⟩ = some (.int .u8 (a1.toNat : Int)) := HL12.out.cell 1
        have t2 : w11.cell? ⟨L, 2, none⟩ = some (.int .u8 (a2.toNat : Int)) := HL12.out.cell 2
        have t3 : w11.cell? ⟨L, 3, none⟩ = some (.int .u8 (a3.toNat : Int)) := HL12.out.cell 3
        have t4 : w11.cell? ⟨L, 4, none⟩ = some (.int .u8 (a4.toNat : Int)) := HL12.out.cell 4
        have t5 : w11.cell? ⟨L, 5, none⟩ = some (.int .u8 (a5.toNat : Int)) := HL12.out.cell 5
        have t6 : w11.cell? ⟨L, 6, none⟩ = some (.int .u8 (a6.toNat : Int)) := HL12.out.cell 6
        have t7 : w11.cell? ⟨L, 7, none⟩ = some (.int .u8 (a7.toNat : Int)) := HL12.out.cell 7
        have t8 : w11.cell? ⟨L, 8, none⟩ = some (.int .i64 (qK : Int)) := HL12.out.cell 8
        have t9 : w11.cell? ⟨L, 9, none⟩ = some (.int .i64 (qM : Int)) := HL12.out.cell 9
        have t10 : w11.cell? ⟨L, 10, none⟩ = some (.int .i64 (qB : Int)) := HL12.out.cell 10
        have t11 : w11.cell? ⟨L, 11, none⟩ = some (.int .i64 (qI : Int)) := HL12.out.cell 11
        have t12 : w11.cell? ⟨L, 12, none⟩ = some (.int .i64 (qE : Int)) := HL12.out.cell 12
        go_wp2_with fail
        rw [← HLV.out]
        refine (check_any (Lab.of bs) HWF.out w11).mono ?_
        rintro e w12 ⟨rfl, hb12⟩
        have HL13 := Lib.hid (HL12.out.below hb12 HL12.out.lt)
        have HK13 := Lib.hid (HK12.out.below hb12 HK12.out.lt)
        have HB13 : Hid (Below w.heap.size w w12) := Lib.hid (HB12.out.trans (hb12.mono HB12.out.size))
        clear hb12 t0 t1 t2 t3 t4 t5 t6 t7 t8 t9 t10 t11 t12
        by_cases hm : (Lab.of bs).may = 0
        case' neg =>
          have HBAD : Hid (¬Lab.reads bs) := Lib.hid fun h => hm h.2.2.2
          obtain ⟨my, hmy⟩ : ∃ my, my = (Lab.of bs).may := ⟨_, rfl⟩
          rw [← hmy] at hm ⊢
          have hm2 : (my != 0) = true := by simp [hm]
          clear hm hmy
          have u0 : w12.cell? ⟨w.heap.size, 0, none⟩ = some (.int .u8 0) := HK13.out.cell 0
          have u1 : w12.cell? ⟨w.heap.size, 1, none⟩ = some (.int .u8 0) := HK13.out.cell 1
          have u2 : w12.cell? ⟨w.heap.size, 2, none⟩ = some (.int .u8 0) := HK13.out.cell 2
          have u3 : w12.cell? ⟨w.heap.size, 3, none⟩ = some (.int .u8 0) := HK13.out.cell 3
          have u4 : w12.cell? ⟨w.heap.size, 4, none⟩ = some (.int .u8 0) := HK13.out.cell 4
          have u5 : w12.cell? ⟨w.heap.size, 5, none⟩ = some (.int .u8 0) := HK13.out.cell 5
          have u6 : w12.cell? ⟨w.heap.size, 6, none⟩ = some (.int .u8 0) := HK13.out.cell 6
          have u7 : w12.cell? ⟨w.heap.size, 7, none⟩ = some (.int .u8 0) := HK13.out.cell 7
          have u8 : w12.cell? ⟨w.heap.size, 8, none⟩ = some (.int .i64 0) := HK13.out.cell 8
          have u9 : w12.cell? ⟨w.heap.size, 9, none⟩ = some (.int .i64 0) := HK13.out.cell 9
          have u10 : w12.cell? ⟨w.heap.size, 10, none⟩ = some (.int .i64 0) := HK13.out.cell 10
          have u11 : w12.cell? ⟨w.heap.size, 11, none⟩ = some (.int .i64 0) := HK13.out.cell 11
          have u12 : w12.cell? ⟨w.heap.size, 12, none⟩ = some (.int .i64 0) := HK13.out.cell 12
          have uf : ∀ i, w12.frozen? ⟨w.heap.size, i, none⟩ = false := HK13.out.frozen
          go_wp2
          refine bodyPost_ret (v := .tuple #[.agg #[.int .u8 0, .int .u8 0, .int .u8 0, .int .u8 0, .int .u8 0, .int .u8 0, .int .u8 0, .int .u8 0, .int .i64 0, .int .i64 0, .int .i64 0, .int .i64 0, .int .i64 0], .int .i64 150]) (by simp only [results, Tryz.results32]; go_simp) rfl ⟨?_, ?_⟩
          · rw [Lab.parse_bad HBAD.out]; rfl
          · iterate 13 (with_reducible refine Below.setCell ?_ (by simp) _)
            exact HB13.out

        case' pos =>
          have HOKR : Hid (Lab.parse bs = (Lab.of bs, 0)) := Lib.hid (if_pos ⟨HL.out, HMG.out, (HUS.out.trans hS).trans HCS.out, hm⟩)
          rw [hm]
          clear hm hS
          have t0 : w12.cell? ⟨L, 0, none⟩ = some (.int .u8 (a0.toNat : Int)) := HL13.out.cell 0
          have t1 : w12.cell? ⟨L, 1, none⟩ = some (.int .u8 (a1.toNat : Int)) := HL13.out.cell 1
          have t2 : w12.cell? ⟨L, 2, none⟩ = some (.int .u8 (a2.toNat : Int)) := HL13.out.cell 2
          have t3 : w12.cell? ⟨L, 3, none⟩ = some (.int .u8 (a3.toNat : Int)) := HL13.out.cell 3
          have t4 : w12.cell? ⟨L, 4, none⟩ = some (.int .u8 (a4.toNat : Int)) := HL13.out.cell 4
          have t5 : w12.cell? ⟨L, 5, none⟩ = some (.int .u8 (a5.toNat : Int)) := HL13.out.cell 5
          have t6 : w12.cell? ⟨L, 6, none⟩ = some (.int .u8 (a6.toNat : Int)) := HL13.out.cell 6
          have t7 : w12.cell? ⟨L, 7, none⟩ = some (.int .u8 (a7.toNat : Int)) := HL13.out.cell 7
          have t8 : w12.cell? ⟨L, 8, none⟩ = some (.int .i64 (qK : Int)) := HL13.out.cell 8
          have t9 : w12.cell? ⟨L, 9, none⟩ = some (.int .i64 (qM : Int)) := HL13.out.cell 9
          have t10 : w12.cell? ⟨L, 10, none⟩ = some (.int .i64 (qB : Int)) := HL13.out.cell 10
          have t11 : w12.cell? ⟨L, 11, none⟩ = some (.int .i64 (qI : Int)) := HL13.out.cell 11
          have t12 : w12.cell? ⟨L, 12, none⟩ = some (.int .i64 (qE : Int)) := HL13.out.cell 12
          have u0 : w12.cell? ⟨w.heap.size, 0, none⟩ = some (.int .u8 0) := HK13.out.cell 0
          have u1 : w12.cell? ⟨w.heap.size, 1, none⟩ = some (.int .u8 0) := HK13.out.cell 1
          have u2 : w12.cell? ⟨w.heap.size, 2, none⟩ = some (.int .u8 0) := HK13.out.cell 2
          have u3 : w12.cell? ⟨w.heap.size, 3, none⟩ = some (.int .u8 0) := HK13.out.cell 3
          have u4 : w12.cell? ⟨w.heap.size, 4, none⟩ = some (.int .u8 0) := HK13.out.cell 4
          have u5 : w12.cell? ⟨w.heap.size, 5, none⟩ = some (.int .u8 0) := HK13.out.cell 5
          have u6 : w12.cell? ⟨w.heap.size, 6, none⟩ = some (.int .u8 0) := HK13.out.cell 6
          have u7 : w12.cell? ⟨w.heap.size, 7, none⟩ = some (.int .u8 0) := HK13.out.cell 7
          have u8 : w12.cell? ⟨w.heap.size, 8, none⟩ = some (.int .i64 0) := HK13.out.cell 8
          have u9 : w12.cell? ⟨w.heap.size, 9, none⟩ = some (.int .i64 0) := HK13.out.cell 9
          have u10 : w12.cell? ⟨w.heap.size, 10, none⟩ = some (.int .i64 0) := HK13.out.cell 10
          have u11 : w12.cell? ⟨w.heap.size, 11, none⟩ = some (.int .i64 0) := HK13.out.cell 11
          have u12 : w12.cell? ⟨w.heap.size, 12, none⟩ = some (.int .i64 0) := HK13.out.cell 12
          have uf : ∀ i, w12.frozen? ⟨w.heap.size, i, none⟩ = false := HK13.out.frozen
          go_wp2
          refine bodyPost_ret (v := .tuple #[.agg #[.int .u8 (a0.toNat : Int), .int .u8 (a1.toNat : Int), .int .u8 (a2.toNat : Int), .int .u8 (a3.toNat : Int), .int .u8 (a4.toNat : Int), .int .u8 (a5.toNat : Int), .int .u8 (a6.toNat : Int), .int .u8 (a7.toNat : Int), .int .i64 (qK : Int), .int .i64 (qM : Int), .int .i64 (qB : Int), .int .i64 (qI : Int), .int .i64 (qE : Int)], .int .i64 0]) (by simp only [results, Tryz.results32]; go_simp) rfl ⟨?_, ?_⟩
          · rw [HOKR.out, HLV.out]
          · iterate 13 (with_reducible refine Below.setCell ?_ (by simp) _)
            exact HB13.out
end Go.Proofs.YtdiaihpilniikaaGreat
