/- The document's bytes of a label: the program's.; What the document reads of bytes: Parse.; What stands on a drive, as a value; a drive that holds it. -/
import Derived.Test.YtdiaihpilniikaaGreatM22
import Derived.Test.YtdiaihpilniikaaGreatM16
import Derived.Test.YtdiaihpilniikaaGreatM19
import Derived.Test.YtdiaihpilniikaaGreatM20
namespace Go.Proofs.YtdiaihpilniikaaGreat
open Go.RowKit Go.Maps

set_option maxRecDepth 100000 in
set_option maxHeartbeats 4000000 in
theorem refencode_bad (l : Lab) (hl : l.Wf) (hm : l.may ≠ 0) (w : World) : Calls Tryz.prog 16 #[labV l] w fun e w' => e = .returned (.tuple #[.slice none 0 0, .int .i64 l.may]) ∧ Below w.heap.size w w' := by
  have HC := Lib.hid (fun w => refmay_any l hl w)
  obtain ⟨a0, a1, a2, a3, a4, a5, a6, a7, hst⟩ := lab_eight hl.st
  obtain ⟨c, hc⟩ : ∃ c, c = l.may := ⟨_, rfl⟩
  rw [← hc] at HC hm ⊢
  have hne : (c != 0) = true := by simp [hm]
  have hce : (c == 0) = false := by simp [hm]
  have HL : Hid (labCells l = #[B8 a0, B8 a1, B8 a2, B8 a3, B8 a4, B8 a5, B8 a6, B8 a7, .int .i64 l.k, .int .i64 l.m, .int .i64 l.b, .int .i64 l.i, .int .i64 l.e]) := Lib.hid (by unfold labCells; rw [hst]; rfl)
  unfold labV at HC ⊢
  rw [HL.out] at HC ⊢
  unfold B8 at HC ⊢
  clear hc hm hl
  go_enter Tryz.func16, Tryz.ntmps16
  go_wp2_with (go_at_call 41; refine (HC.out _).mono ?_; rintro e w1 ⟨rfl, hb1⟩; have HB1 := Lib.hid hb1; clear hb1)
  go_ret2
  exact ⟨rfl, ((Below.refl _ w).alloc (Nat.le_refl _) _).trans (HB1.out.mono (by rw [alloc_size]; omega))⟩
theorem number_u8 (u : UInt8) : leN u.toNat 1 = [u] := by
  show [UInt8.ofNat u.toNat] = [u]
  rw [UInt8.ofNat_toNat]
set_option maxRecDepth 100000 in
set_option maxHeartbeats 16000000 in
theorem refencode_ok (l : Lab) (hl : l.Wf) (hm : l.may = 0) (w : World) : Calls Tryz.prog 16 #[labV l] w fun e w' => ∃ u, e = .returned (.tuple #[u, .int .i64 0]) ∧ w'.ownsRow w.heap.size 5 1 u 31 (l.bytes.map B8) ∧ Below w.heap.size w w' := by
  have HC := Lib.hid (fun w => refmay_any l hl w)
  obtain ⟨a0, a1, a2, a3, a4, a5, a6, a7, hst⟩ := lab_eight hl.st
  have hf := may_fits hm
  obtain ⟨ku, hku⟩ := u8_of (n := l.k) (by omega) (by omega)
  obtain ⟨mu, hmu⟩ := u8_of (n := l.m) (by omega) (by omega)
  obtain ⟨iu, hiu⟩ := u8_of (n := l.i) (by omega) (by omega)
  obtain ⟨bn, hbn⟩ : ∃ n : Nat, l.b = (n : Int) := ⟨l.b.toNat, by omega⟩
  obtain ⟨en, hen⟩ : ∃ n : Nat, l.e = (n : Int) := ⟨l.e.toNat, by omega⟩
  rw [hm] at HC
  have HL : Hid (labCells l = #[.int .u8 (a0.toNat : Int), .int .u8 (a1.toNat : Int), .int .u8 (a2.toNat : Int), .int .u8 (a3.toNat : Int), .int .u8 (a4.toNat : Int), .int .u8 (a5.toNat : Int), .int .u8 (a6.toNat : Int), .int .u8 (a7.toNat : Int), .int .i64 (ku.toNat : Int), .int .i64 (mu.toNat : Int), .int .i64 (bn : Int), .int .i64 (iu.toNat : Int), .int .i64 (en : Int)]) := Lib.hid (by unfold labCells; rw [hst, hku, hmu, hiu, hbn, hen]; rfl)
  have HH : Hid (l.head = [67, 82, 78, 1, a0, a1, a2, a3, a4, a5, a6, a7] ++ leN ku.toNat 1 ++ leN mu.toNat 1 ++ leN bn 4 ++ leN iu.toNat 1 ++ leN en 8) := Lib.hid (by
    unfold Lab.head labMagic
    rw [hst, hku, hmu, hiu, hbn, hen, number_u8, number_u8, number_u8]
    simp only [Int.toNat_natCast, UInt8.ofNat_toNat]
    rfl)
  have HBL : Hid (l.bytes = l.head ++ leN (crcSum l.head) 4) := Lib.hid rfl
  have HEL : Hid (l.head.length = 27) := Lib.hid (l.head_length hl.st)
  unfold labV at HC ⊢
  rw [HL.out] at HC ⊢
  have HBN : Hid (bn ≤ 9223372036854775807 ∧ en ≤ 9223372036854775807 ∧ ku.toNat ≤ 9223372036854775807 ∧ mu.toNat ≤ 9223372036854775807 ∧ iu.toNat ≤ 9223372036854775807) := Lib.hid (by have := ku.toNat_lt; have := mu.toNat_lt; have := iu.toNat_lt; omega)
  clear hl hf hku hmu hiu hbn hen hst hm
  obtain ⟨i5, hi5, hz0, hz1, hz2⟩ := info_parts byteInfo
  go_enter Tryz.func16, Tryz.ntmps16
  go_wp2_with (go_at_call 41; refine (HC.out _).mono ?_; rintro e w1 ⟨rfl, hb1⟩; have HB1 := Lib.hid hb1; have HLB : Hid (Blk w1 w.heap.size 27 #[.int .u8 (a0.toNat : Int), .int .u8 (a1.toNat : Int), .int .u8 (a2.toNat : Int), .int .u8 (a3.toNat : Int), .int .u8 (a4.toNat : Int), .int .u8 (a5.toNat : Int), .int .u8 (a6.toNat : Int), .int .u8 (a7.toNat : Int), .int .i64 (ku.toNat : Int), .int .i64 (mu.toNat : Int), .int .i64 (bn : Int), .int .i64 (iu.toNat : Int), .int .i64 (en : Int)]) := Lib.hid ((Blk.new w _ _).below hb1 (by rw [alloc_size]; omega)); have hw1 := HLB.out.lt; clear hb1)
  have HW1 : Hid (Below w.heap.size w w1) := Lib.hid (((Below.refl _ w).alloc (Nat.le_refl _) _).trans (HB1.out.mono (by rw [alloc_size]; omega)))
  obtain ⟨N, hN⟩ : ∃ N, N = w1.heap.size := ⟨_, rfl⟩
  have HLI : Hid (∀ V, Below N w1 V → Blk V w.heap.size 27 #[.int .u8 (a0.toNat : Int), .int .u8 (a1.toNat : Int), .int .u8 (a2.toNat : Int), .int .u8 (a3.toNat : Int), .int .u8 (a4.toNat : Int), .int .u8 (a5.toNat : Int), .int .u8 (a6.toNat : Int), .int .u8 (a7.toNat : Int), .int .i64 (ku.toNat : Int), .int .i64 (mu.toNat : Int), .int .i64 (bn : Int), .int .i64 (iu.toNat : Int), .int .i64 (en : Int)]) := Lib.hid fun V h => HLB.out.below h (by omega)
  have hwN : w.heap.size < N := by omega
  clear HLB hw1
  go_loopw [5, 6] (fun s5 s6 wr => ∃ i : Nat, i ≤ 8 ∧ s6 = .int .i64 i ∧ (∃ a c, s5 = .slice a (4 + i) c) ∧ wr.ownsRow N 5 1 s5 (4 + i) (([67, 82, 78, 1] ++ [a0, a1, a2, a3, a4, a5, a6, a7].take i).map B8) ∧ Below N w1 wr) (fun _ s _ => 8 - (intOf s).toNat)
  case atStart => exact ⟨0, Nat.zero_le _, rfl, ⟨_, _, rfl⟩, World.ownsRow_lit w1 #[.int .u8 67, .int .u8 82, .int .u8 78, .int .u8 1] 4 (by omega) (by decide) rfl, (Below.refl _ _).alloc (by omega) _⟩
  case round =>
    obtain ⟨i, hi, rfl, ⟨e1, c1, rfl⟩, ho, hb⟩ := hrel
    have HO := Lib.hid ho
    have HB := Lib.hid hb
    have hsz := hb.size
    have K := Lib.hid (HLI.out _ hb)
    have hkl := K.out.lt
    clear ho hb
    by_cases hlt : i < 8
    · obtain rfl | rfl | rfl | rfl | rfl | rfl | rfl | rfl : i = 0 ∨ i = 1 ∨ i = 2 ∨ i = 3 ∨ i = 4 ∨ i = 5 ∨ i = 6 ∨ i = 7 := by omega
      · have hc : wr.cell? ⟨w.heap.size, 0, none⟩ = some (.int .u8 (a0.toNat : Int)) := K.out.cell 0
        go_wp2_with (at_builtin; go_loud (refine wpList_append_any _ rfl _ _ 22 rfl N 5 i5 _ 1 1 Tryz.underlying22 hi5 hz0 hz1 hz2 rfl (by omega) _ (4 + 0) _ rfl (HO.out.alloc _) (wr.heap.size + 1) (some ⟨wr.heap.size, 0, none⟩) 1 1 [.int .u8 (a0.toNat : Int)] rfl (reads_blk (t := 5) (blk_last _ _ _ _ rfl) (by omega) rfl) (by intro u hu; simp at hu; subst hu; rfl) (by decide) (by decide) (by rw [alloc_size]; omega) ?_); intro v1 w2 hown1 hg1 hat1; obtain ⟨e2, c2, hvs, _⟩ := own_shape hown1; subst hvs; have HOWN := Lib.hid hown1; have HB3 := Lib.hid ((HB.out.alloc (by omega) _).grown hg1 (by rw [alloc_size]; omega) (fun i hi => (HO.out.lt i hi).1)); clear hown1 hg1 hat1)
        go_roundw
        case rel => exact ⟨1, by omega, by go_num, ⟨_, _, rfl⟩, HOWN.out, HB3.out⟩
        case measure => first | (simp [intOf]; done) | (simp [intOf]; omega)
      · have hc : wr.cell? ⟨w.heap.size, 1, none⟩ = some (.int .u8 (a1.toNat : Int)) := K.out.cell 1
        go_wp2_with (at_builtin; go_loud (refine wpList_append_any _ rfl _ _ 22 rfl N 5 i5 _ 1 1 Tryz.underlying22 hi5 hz0 hz1 hz2 rfl (by omega) _ (4 + 1) _ rfl (HO.out.alloc _) (wr.heap.size + 1) (some ⟨wr.heap.size, 0, none⟩) 1 1 [.int .u8 (a1.toNat : Int)] rfl (reads_blk (t := 5) (blk_last _ _ _ _ rfl) (by omega) rfl) (by intro u hu; simp at hu; subst hu; rfl) (by decide) (by decide) (by rw [alloc_size]; omega) ?_); intro v1 w2 hown1 hg1 hat1; obtain ⟨e2, c2, hvs, _⟩ := own_shape hown1; subst hvs; have HOWN := Lib.hid hown1; have HB3 := Lib.hid ((HB.out.alloc (by omega) _).grown hg1 (by rw [alloc_size]; omega) (fun i hi => (HO.out.lt i hi).1)); clear hown1 hg1 hat1)
        go_roundw
        case rel => exact ⟨2, by omega, by go_num, ⟨_, _, rfl⟩, HOWN.out, HB3.out⟩
        case measure => first | (simp [intOf]; done) | (simp [intOf]; omega)
      · have hc : wr.cell? ⟨w.heap.size, 2, none⟩ = some (.int .u8 (a2.toNat : Int)) := K.out.cell 2
        go_wp2_with (at_builtin; go_loud (refine wpList_append_any _ rfl _ _ 22 rfl N 5 i5 _ 1 1 Tryz.underlying22 hi5 hz0 hz1 hz2 rfl (by omega) _ (4 + 2) _ rfl (HO.out.alloc _) (wr.heap.size + 1) (some ⟨wr.heap.size, 0, none⟩) 1 1 [.int .u8 (a2.toNat : Int)] rfl (reads_blk (t := 5) (blk_last _ _ _ _ rfl) (by omega) rfl) (by intro u hu; simp at hu; subst hu; rfl) (by decide) (by decide) (by rw [alloc_size]; omega) ?_); intro v1 w2 hown1 hg1 hat1; obtain ⟨e2, c2, hvs, _⟩ := own_shape hown1; subst hvs; have HOWN := Lib.hid hown1; have HB3 := Lib.hid ((HB.out.alloc (by omega) _).grown hg1 (by rw [alloc_size]; omega) (fun i hi => (HO.out.lt i hi).1)); clear hown1 hg1 hat1)
        go_roundw
        case rel => exact ⟨3, by omega, by go_num, ⟨_, _, rfl⟩, HOWN.out, HB3.out⟩
        case measure => first | (simp [intOf]; done) | (simp [intOf]; omega)
      · have hc : wr.cell? ⟨w.heap.size, 3, none⟩ = some (.int .u8 (a3.toNat : Int)) := K.out.cell 3
        go_wp2_with (at_builtin; go_loud (refine wpList_append_any _ rfl _ _ 22 rfl N 5 i5 _ 1 1 Tryz.underlying22 hi5 hz0 hz1 hz2 rfl (by omega) _ (4 + 3) _ rfl (HO.out.alloc _) (wr.heap.size + 1) (some ⟨wr.heap.size, 0, none⟩) 1 1 [.int .u8 (a3.toNat : Int)] rfl (reads_blk (t := 5) (blk_last _ _ _ _ rfl) (by omega) rfl) (by intro u hu; simp at hu; subst hu; rfl) (by decide) (by decide) (by rw [alloc_size]; omega) ?_); intro v1 w2 hown1 hg1 hat1; obtain ⟨e2, c2, hvs, _⟩ := own_shape hown1; subst hvs; have HOWN := Lib.hid hown1; have HB3 := Lib.hid ((HB.out.alloc (by omega) _).grown hg1 (by rw [alloc_size]; omega) (fun i hi => (HO.out.lt i hi).1)); clear hown1 hg1 hat1)
        go_roundw
        case rel => exact ⟨4, by omega, by go_num, ⟨_, _, rfl⟩, HOWN.out, HB3.out⟩
        case measure => first | (simp [intOf]; done) | (simp [intOf]; omega)
      · have hc : wr.cell? ⟨w.heap.size, 4, none⟩ = some (.int .u8 (a4.toNat : Int)) := K.out.cell 4
        go_wp2_with (at_builtin; go_loud (refine wpList_append_any _ rfl _ _ 22 rfl N 5 i5 _ 1 1 Tryz.underlying22 hi5 hz0 hz1 hz2 rfl (by omega) _ (4 + 4) _ rfl (HO.out.alloc _) (wr.heap.size + 1) (some ⟨wr.heap.size, 0, none⟩) 1 1 [.int .u8 (a4.toNat : Int)] rfl (reads_blk (t := 5) (blk_last _ _ _ _ rfl) (by omega) rfl) (by intro u hu; simp at hu; subst hu; rfl) (by decide) (by decide) (by rw [alloc_size]; omega) ?_); intro v1 w2 hown1 hg1 hat1; obtain ⟨e2, c2, hvs, _⟩ := own_shape hown1; subst hvs; have HOWN := Lib.hid hown1; have HB3 := Lib.hid ((HB.out.alloc (by omega) _).grown hg1 (by rw [alloc_size]; omega) (fun i hi => (HO.out.lt i hi).1)); clear hown1 hg1 hat1)
        go_roundw
        case rel => exact ⟨5, by omega, by go_num, ⟨_, _, rfl⟩, HOWN.out, HB3.out⟩
        case measure => first | (simp [intOf]; done) | (simp [intOf]; omega)
      · have hc : wr.cell? ⟨w.heap.size, 5, none⟩ = some (.int .u8 (a5.toNat : Int)) := K.out.cell 5
        go_wp2_with (at_builtin; go_loud (refine wpList_append_any _ rfl _ _ 22 rfl N 5 i5 _ 1 1 Tryz.underlying22 hi5 hz0 hz1 hz2 rfl (by omega) _ (4 + 5) _ rfl (HO.out.alloc _) (wr.heap.size + 1) (some ⟨wr.heap.size, 0, none⟩) 1 1 [.int .u8 (a5.toNat : Int)] rfl (reads_blk (t := 5) (blk_last _ _ _ _ rfl) (by omega) rfl) (by intro u hu; simp at hu; subst hu; rfl) (by decide) (by decide) (by rw [alloc_size]; omega) ?_); intro v1 w2 hown1 hg1 hat1; obtain ⟨e2, c2, hvs, _⟩ := own_shape hown1; subst hvs; have HOWN := Lib.hid hown1; have HB3 := Lib.hid ((HB.out.alloc (by omega) _).grown hg1 (by rw [alloc_size]; omega) (fun i hi => (HO.out.lt i hi).1)); clear hown1 hg1 hat1)
        go_roundw
        case rel => exact ⟨6, by omega, by go_num, ⟨_, _, rfl⟩, HOWN.out, HB3.out⟩
        case measure => first | (simp [intOf]; done) | (simp [intOf]; omega)
      · have hc : wr.cell? ⟨w.heap.size, 6, none⟩ = some (.int .u8 (a6.toNat : Int)) := K.out.cell 6
        go_wp2_with (at_builtin; go_loud (refine wpList_append_any _ rfl _ _ 22 rfl N 5 i5 _ 1 1 Tryz.underlying22 hi5 hz0 hz1 hz2 rfl (by omega) _ (4 + 6) _ rfl (HO.out.alloc _) (wr.heap.size + 1) (some ⟨wr.heap.size, 0, none⟩) 1 1 [.int .u8 (a6.toNat : Int)] rfl (reads_blk (t := 5) (blk_last _ _ _ _ rfl) (by omega) rfl) (by intro u hu; simp at hu; subst hu; rfl) (by decide) (by decide) (by rw [alloc_size]; omega) ?_); intro v1 w2 hown1 hg1 hat1; obtain ⟨e2, c2, hvs, _⟩ := own_shape hown1; subst hvs; have HOWN := Lib.hid hown1; have HB3 := Lib.hid ((HB.out.alloc (by omega) _).grown hg1 (by rw [alloc_size]; omega) (fun i hi => (HO.out.lt i hi).1)); clear hown1 hg1 hat1)
        go_roundw
        case rel => exact ⟨7, by omega, by go_num, ⟨_, _, rfl⟩, HOWN.out, HB3.out⟩
        case measure => first | (simp [intOf]; done) | (simp [intOf]; omega)
      · have hc : wr.cell? ⟨w.heap.size, 7, none⟩ = some (.int .u8 (a7.toNat : Int)) := K.out.cell 7
        go_wp2_with (at_builtin; go_loud (refine wpList_append_any _ rfl _ _ 22 rfl N 5 i5 _ 1 1 Tryz.underlying22 hi5 hz0 hz1 hz2 rfl (by omega) _ (4 + 7) _ rfl (HO.out.alloc _) (wr.heap.size + 1) (some ⟨wr.heap.size, 0, none⟩) 1 1 [.int .u8 (a7.toNat : Int)] rfl (reads_blk (t := 5) (blk_last _ _ _ _ rfl) (by omega) rfl) (by intro u hu; simp at hu; subst hu; rfl) (by decide) (by decide) (by rw [alloc_size]; omega) ?_); intro v1 w2 hown1 hg1 hat1; obtain ⟨e2, c2, hvs, _⟩ := own_shape hown1; subst hvs; have HOWN := Lib.hid hown1; have HB3 := Lib.hid ((HB.out.alloc (by omega) _).grown hg1 (by rw [alloc_size]; omega) (fun i hi => (HO.out.lt i hi).1)); clear hown1 hg1 hat1)
        go_roundw
        case rel => exact ⟨8, by omega, by go_num, ⟨_, _, rfl⟩, HOWN.out, HB3.out⟩
        case measure => first | (simp [intOf]; done) | (simp [intOf]; omega)
    · obtain rfl : i = 8 := by omega
      have HO0 : Hid (wr.ownsRow N 5 1 (.slice e1 12 c1) 12 (([67, 82, 78, 1, a0, a1, a2, a3, a4, a5, a6, a7] : List UInt8).map B8)) := HO
      have HB0 := HB
      have h0 := hsz
      clear HO HB hsz
      have hc : wr.cell? ⟨w.heap.size, 8, none⟩ = some (.int .i64 (ku.toNat : Int)) := K.out.cell 8
      go_wp2_with fail
      refine (refnumber_any ku.toNat 1 HBN.out.2.2.1 (by decide) _).mono ?_
      rintro e x1 ⟨y1, rfl, hno1, hnb1⟩
      obtain ⟨f1, g1, rfl, _⟩ := own_shape hno1
      have HN1 := Lib.hid hno1
      have HP1 : Hid (x1.ownsRow N 5 1 (.slice e1 12 c1) 12 (([67, 82, 78, 1, a0, a1, a2, a3, a4, a5, a6, a7] : List UInt8).map B8)) := Lib.hid (ownsRow_below HO0.out hnb1)
      have HQ1 : Hid (Below N w1 x1) := Lib.hid (HB0.out.trans (hnb1.mono (by omega)))
      have hx1 := HQ1.out.size
      clear hno1 hnb1
      go_wp2_with (at_builtin; go_loud (refine wpList_append_any _ rfl _ _ 22 rfl N 5 i5 _ 1 1 Tryz.underlying22 hi5 hz0 hz1 hz2 rfl (by omega) (.slice e1 12 c1) 12 _ rfl HP1.out x1.heap.size f1 1 g1 ((leN ku.toNat 1).map B8) rfl (Reads.of_own HN1.out) (by intro u hu; simp only [List.mem_map] at hu; obtain ⟨b, _, rfl⟩ := hu; rfl) (by decide) (by decide) (by omega) ?_); intro u1 v1 hown hg hat; obtain ⟨e2, c2, hvs, _⟩ := own_shape hown; subst hvs; rw [← List.map_append] at hown; have HO1 := Lib.hid hown; have HB1 := Lib.hid (HQ1.out.grown hg (by omega) (fun i hi => (HP1.out.lt i hi).1)); clear hown hg hat; have K1 := Lib.hid (HLI.out _ HB1.out); have hkl1 := K1.out.lt; have h1 := HB1.out.size; have hc1 : v1.cell? ⟨w.heap.size, 9, none⟩ = some (.int .i64 (mu.toNat : Int)) := K1.out.cell 9)
      refine (refnumber_any mu.toNat 1 HBN.out.2.2.2.1 (by decide) _).mono ?_
      rintro e x2 ⟨y2, rfl, hno2, hnb2⟩
      obtain ⟨f2, g2, rfl, _⟩ := own_shape hno2
      have HN2 := Lib.hid hno2
      have HP2 : Hid (x2.ownsRow N 5 1 (.slice e2 13 c2) 13 (([67, 82, 78, 1, a0, a1, a2, a3, a4, a5, a6, a7] ++ leN ku.toNat 1 : List UInt8).map B8)) := Lib.hid (ownsRow_below HO1.out hnb2)
      have HQ2 : Hid (Below N w1 x2) := Lib.hid (HB1.out.trans (hnb2.mono (by omega)))
      have hx2 := HQ2.out.size
      clear hno2 hnb2
      go_wp2_with (at_builtin; go_loud (refine wpList_append_any _ rfl _ _ 22 rfl N 5 i5 _ 1 1 Tryz.underlying22 hi5 hz0 hz1 hz2 rfl (by omega) (.slice e2 13 c2) 13 _ rfl HP2.out x2.heap.size f2 1 g2 ((leN mu.toNat 1).map B8) rfl (Reads.of_own HN2.out) (by intro u hu; simp only [List.mem_map] at hu; obtain ⟨b, _, rfl⟩ := hu; rfl) (by decide) (by decide) (by omega) ?_); intro u2 v2 hown hg hat; obtain ⟨e3, c3, hvs, _⟩ := own_shape hown; subst hvs; rw [← List.map_append] at hown; have HO2 := Lib.hid hown; have HB2 := Lib.hid (HQ2.out.grown hg (by omega) (fun i hi => (HP2.out.lt i hi).1)); clear hown hg hat; have K2 := Lib.hid (HLI.out _ HB2.out); have hkl2 := K2.out.lt; have h2 := HB2.out.size; have hc2 : v2.cell? ⟨w.heap.size, 10, none⟩ = some (.int .i64 (bn : Int)) := K2.out.cell 10)
      refine (refnumber_any bn 4 HBN.out.1 (by decide) _).mono ?_
      rintro e x3 ⟨y3, rfl, hno3, hnb3⟩
      obtain ⟨f3, g3, rfl, _⟩ := own_shape hno3
      have HN3 := Lib.hid hno3
      have HP3 : Hid (x3.ownsRow N 5 1 (.slice e3 14 c3) 14 (([67, 82, 78, 1, a0, a1, a2, a3, a4, a5, a6, a7] ++ leN ku.toNat 1 ++ leN mu.toNat 1 : List UInt8).map B8)) := Lib.hid (ownsRow_below HO2.out hnb3)
      have HQ3 : Hid (Below N w1 x3) := Lib.hid (HB2.out.trans (hnb3.mono (by omega)))
      have hx3 := HQ3.out.size
      clear hno3 hnb3
      go_wp2_with (at_builtin; go_loud (refine wpList_append_any _ rfl _ _ 22 rfl N 5 i5 _ 1 1 Tryz.underlying22 hi5 hz0 hz1 hz2 rfl (by omega) (.slice e3 14 c3) 14 _ rfl HP3.out x3.heap.size f3 4 g3 ((leN bn 4).map B8) rfl (Reads.of_own HN3.out) (by intro u hu; simp only [List.mem_map] at hu; obtain ⟨b, _, rfl⟩ := hu; rfl) (by decide) (by decide) (by omega) ?_); intro u3 v3 hown hg hat; obtain ⟨e4, c4, hvs, _⟩ := own_shape hown; subst hvs; rw [← List.map_append] at hown; have HO3 := Lib.hid hown; have HB3 := Lib.hid (HQ3.out.grown hg (by omega) (fun i hi => (HP3.out.lt i hi).1)); clear hown hg hat; have K3 := Lib.hid (HLI.out _ HB3.out); have hkl3 := K3.out.lt; have h3 := HB3.out.size; have hc3 : v3.cell? ⟨w.heap.size, 11, none⟩ = some (.int .i64 (iu.toNat : Int)) := K3.out.cell 11)
      refine (refnumber_any iu.toNat 1 HBN.out.2.2.2.2 (by decide) _).mono ?_
      rintro e x4 ⟨y4, rfl, hno4, hnb4⟩
      obtain ⟨f4, g4, rfl, _⟩ := own_shape hno4
      have HN4 := Lib.hid hno4
      have HP4 : Hid (x4.ownsRow N 5 1 (.slice e4 18 c4) 18 (([67, 82, 78, 1, a0, a1, a2, a3, a4, a5, a6, a7] ++ leN ku.toNat 1 ++ leN mu.toNat 1 ++ leN bn 4 : List UInt8).map B8)) := Lib.hid (ownsRow_below HO3.out hnb4)
      have HQ4 : Hid (Below N w1 x4) := Lib.hid (HB3.out.trans (hnb4.mono (by omega)))
      have hx4 := HQ4.out.size
      clear hno4 hnb4
      go_wp2_with (at_builtin; go_loud (refine wpList_append_any _ rfl _ _ 22 rfl N 5 i5 _ 1 1 Tryz.underlying22 hi5 hz0 hz1 hz2 rfl (by omega) (.slice e4 18 c4) 18 _ rfl HP4.out x4.heap.size f4 1 g4 ((leN iu.toNat 1).map B8) rfl (Reads.of_own HN4.out) (by intro u hu; simp only [List.mem_map] at hu; obtain ⟨b, _, rfl⟩ := hu; rfl) (by decide) (by decide) (by omega) ?_); intro u4 v4 hown hg hat; obtain ⟨e5, c5, hvs, _⟩ := own_shape hown; subst hvs; rw [← List.map_append] at hown; have HO4 := Lib.hid hown; have HB4 := Lib.hid (HQ4.out.grown hg (by omega) (fun i hi => (HP4.out.lt i hi).1)); clear hown hg hat; have K4 := Lib.hid (HLI.out _ HB4.out); have hkl4 := K4.out.lt; have h4 := HB4.out.size; have hc4 : v4.cell? ⟨w.heap.size, 12, none⟩ = some (.int .i64 (en : Int)) := K4.out.cell 12)
      refine (refnumber_any en 8 HBN.out.2.1 (by decide) _).mono ?_
      rintro e x5 ⟨y5, rfl, hno5, hnb5⟩
      obtain ⟨f5, g5, rfl, _⟩ := own_shape hno5
      have HN5 := Lib.hid hno5
      have HP5 : Hid (x5.ownsRow N 5 1 (.slice e5 19 c5) 19 (([67, 82, 78, 1, a0, a1, a2, a3, a4, a5, a6, a7] ++ leN ku.toNat 1 ++ leN mu.toNat 1 ++ leN bn 4 ++ leN iu.toNat 1 : List UInt8).map B8)) := Lib.hid (ownsRow_below HO4.out hnb5)
      have HQ5 : Hid (Below N w1 x5) := Lib.hid (HB4.out.trans (hnb5.mono (by omega)))
      have hx5 := HQ5.out.size
      clear hno5 hnb5
      go_wp2_with (at_builtin; go_loud (refine wpList_append_any _ rfl _ _ 22 rfl N 5 i5 _ 1 1 Tryz.underlying22 hi5 hz0 hz1 hz2 rfl (by omega) (.slice e5 19 c5) 19 _ rfl HP5.out x5.heap.size f5 8 g5 ((leN en 8).map B8) rfl (Reads.of_own HN5.out) (by intro u hu; simp only [List.mem_map] at hu; obtain ⟨b, _, rfl⟩ := hu; rfl) (by decide) (by decide) (by omega) ?_); intro u5 v5 hown hg hat; obtain ⟨e6, c6, hvs, _⟩ := own_shape hown; subst hvs; rw [← List.map_append] at hown; have HO5 := Lib.hid hown; have HB5 := Lib.hid (HQ5.out.grown hg (by omega) (fun i hi => (HP5.out.lt i hi).1)); clear hown hg hat; have K5 := Lib.hid (HLI.out _ HB5.out); have hkl5 := K5.out.lt; have h5 := HB5.out.size)
      rw [← HH.out] at HO5
      refine (refsum_any e6 27 c6 l.head v5 _ (Reads.of_own HO5.out) (Nat.le_refl _) (by omega)).mono ?_
      rintro e x6 ⟨rfl, hb6⟩
      have HP6 : Hid (x6.ownsRow N 5 1 (.slice e6 27 c6) 27 (l.head.map B8)) := Lib.hid (ownsRow_below HO5.out hb6)
      have HQ6 : Hid (Below N w1 x6) := Lib.hid (HB5.out.trans (hb6.mono (by omega)))
      have hx6 := HQ6.out.size
      obtain ⟨q, hq⟩ : ∃ q, q = crcSum l.head := ⟨_, rfl⟩
      have hql : (q : Int) < 4294967296 := by have := crcSum_lt l.head; rw [hq]; omega
      have hq0 : (0 : Int) ≤ (q : Int) := Int.natCast_nonneg _
      rw [← hq] at HBL ⊢
      clear hb6 hq
      go_wp2_with fail
      refine (refnumber_any q 4 (by omega) (by decide) _).mono ?_
      rintro e x7 ⟨y7, rfl, hno7, hnb7⟩
      obtain ⟨f7, g7, rfl, _⟩ := own_shape hno7
      have HN7 := Lib.hid hno7
      have HP7 : Hid (x7.ownsRow N 5 1 (.slice e6 27 c6) 27 (l.head.map B8)) := Lib.hid (ownsRow_below HP6.out hnb7)
      have HQ7 : Hid (Below N w1 x7) := Lib.hid (HQ6.out.trans (hnb7.mono (by omega)))
      have hx7 := HQ7.out.size
      clear hno7 hnb7
      go_wp2_with (at_builtin; go_loud (refine wpList_append_any _ rfl _ _ 22 rfl N 5 i5 _ 1 1 Tryz.underlying22 hi5 hz0 hz1 hz2 rfl (by omega) (.slice e6 27 c6) 27 _ rfl HP7.out x7.heap.size f7 4 g7 ((leN q 4).map B8) rfl (Reads.of_own HN7.out) (by intro u hu; simp only [List.mem_map] at hu; obtain ⟨b, _, rfl⟩ := hu; rfl) (by decide) (by decide) (by omega) ?_); intro u7 v7 hown hg hat; obtain ⟨e8, c8, hvs, _⟩ := own_shape hown; subst hvs; rw [← List.map_append, ← HBL.out] at hown; have HO7 := Lib.hid hown; have HB7 := Lib.hid (HQ7.out.grown hg (by omega) (fun i hi => (HP7.out.lt i hi).1)); clear hown hg hat)
      go_ret2
      exact ⟨_, rfl, ownsRow_base_a HO7.out (by omega), HW1.out.trans (HB7.out.mono (by omega))⟩
end Go.Proofs.YtdiaihpilniikaaGreat
namespace Go.Proofs.YtdiaihpilniikaaGreat
open Go.RowKit Go.Maps

set_option maxRecDepth 100000 in
set_option maxHeartbeats 4000000 in
theorem refparse_short (A : Option Addr) (n c : Nat) (w : World) (hn : n ≠ 31) : Calls Tryz.prog 12 #[.slice A n c] w fun e w' => e = .returned (.tuple #[labV Lab.zero, .int .i64 150]) ∧ Below w.heap.size w w' := by
  have hne : ((n : Int) != 31) = true := by simp; omega
  have hZ : labV Lab.zero = .agg #[.int .u8 0, .int .u8 0, .int .u8 0, .int .u8 0, .int .u8 0, .int .u8 0, .int .u8 0, .int .u8 0, .int .i64 0, .int .i64 0, .int .i64 0, .int .i64 0, .int .i64 0] := rfl
  rw [hZ]
  clear hZ hn
  go_enter Tryz.func12, Tryz.ntmps12
  go_wp2
  refine bodyPost_ret (v := .tuple #[.agg #[.int .u8 0, .int .u8 0, .int .u8 0, .int .u8 0, .int .u8 0, .int .u8 0, .int .u8 0, .int .u8 0, .int .i64 0, .int .i64 0, .int .i64 0, .int .i64 0, .int .i64 0], .int .i64 150]) (by simp only [results, Tryz.results12]; go_simp) rfl ⟨rfl, ?_⟩
  repeat (first | with_reducible exact Below.refl _ _ | with_reducible refine Below.setCell ?_ (by simp) _ | with_reducible refine below_drewN ?_ _ | with_reducible refine below_drew1 ?_ | with_reducible refine Below.alloc ?_ (Nat.le_refl _) _)
/-- The label in memory, its first k bytes laid. -/
def layTab (x0 x1 x2 x3 x4 x5 x6 x7 : UInt8) (k : Nat) : Array Value := #[.int .u8 (if 0 < k then (x0.toNat : Int) else 0), .int .u8 (if 1 < k then (x1.toNat : Int) else 0), .int .u8 (if 2 < k then (x2.toNat : Int) else 0), .int .u8 (if 3 < k then (x3.toNat : Int) else 0), .int .u8 (if 4 < k then (x4.toNat : Int) else 0), .int .u8 (if 5 < k then (x5.toNat : Int) else 0), .int .u8 (if 6 < k then (x6.toNat : Int) else 0), .int .u8 (if 7 < k then (x7.toNat : Int) else 0), .int .i64 0, .int .i64 0, .int .i64 0, .int .i64 0, .int .i64 0]
theorem reads_part {w : World} {B n i m : Nat} {ad : Addr} {xs : List Value} (h : Reads w B 1 (some ad) n xs) (hi : i + m ≤ n) (hn : 0 < n) : Reads w B 1 (some (ad.add i)) m ((xs.drop i).take m) := by
  obtain ⟨ad', e, hb, hcell⟩ := h.2 hn
  injection e with e
  subst e
  refine ⟨by rw [List.length_take, List.length_drop, h.1]; omega, fun _ => ⟨_, rfl, by rw [block_of_add]; exact hb, fun j u hu => ?_⟩⟩
  rw [add_of_add]
  rw [List.getElem?_take] at hu
  split at hu
  · rw [List.getElem?_drop] at hu; exact hcell _ u hu
  · cases hu
theorem refval_one (x : UInt8) : refval [x] = (x.toNat : Int) := by
  unfold refval
  have hx := x.toNat_lt
  have : unle [x] = x.toNat := by simp [unle]
  rw [this, if_pos (by omega)]
theorem refval_four (l : List UInt8) (h : l.length = 4) : refval l = (unle l : Int) := by
  unfold refval
  have := unle_lt l
  rw [h] at this
  rw [if_pos (by omega)]
/-- What the document reads of 31 bytes, ahead of its test. -/
def refOf (b : List UInt8) : Lab := { Lab.of b with e := refval ((b.drop 19).take 8) }
theorem refOf_st (b : List UInt8) (h : b.length = 31) : (refOf b).st.length = 8 := by
  show ((b.drop 4).take 8).length = 8
  rw [List.length_take, List.length_drop]; omega
theorem refOf_eq (b : List UInt8) (h : (refOf b).may = 0) : refOf b = Lab.of b := by
  have hf := may_fits h
  have h1 : (refOf b).e = refval ((b.drop 19).take 8) := rfl
  have h2 : 0 ≤ refval ((b.drop 19).take 8) := by rw [← h1]; omega
  have h3 : refval ((b.drop 19).take 8) = (unle ((b.drop 19).take 8) : Int) := by
    unfold refval at h2 ⊢
    split
    · rfl
    · rename_i h4; rw [if_neg h4] at h2; omega
  unfold refOf
  rw [h3]; rfl
theorem refOf_no (b : List UInt8) (h : (refOf b).may ≠ 0) : ¬ Lab.reads b := by
  rintro ⟨h1, _, _, h4⟩
  apply h
  have hf := may_fits h4
  have h3 : refval ((b.drop 19).take 8) = (unle ((b.drop 19).take 8) : Int) := by
    unfold refval
    have e : (Lab.of b).e = (unle ((b.drop 19).take 8) : Int) := rfl
    rw [e] at hf
    rw [if_pos (by omega)]
  have : refOf b = Lab.of b := by unfold refOf; rw [h3]; rfl
  rw [this]; exact h4
theorem refOf_same (b : List UInt8) (hl : b.length = 31) (h : (refOf b).may = 0) (hb : (refOf b).bytes = b) : Lab.parse b = (refOf b, 0) := by
  have := Lab.parse_bytes (refOf b) (refOf_st b hl) h
  rw [hb] at this; exact this
theorem refOf_other (b : List UInt8) (h : (refOf b).may = 0) (hb : (refOf b).bytes ≠ b) : Lab.parse b = (Lab.zero, 150) := by
  apply Lab.parse_bad
  intro hr
  apply hb
  rw [refOf_eq b h]
  exact (Lab.bytes_of hr).1
theorem calls_world {P : Program} {F : Nat} {args : Array Value} {w : World} {Q : Ending → World → Prop} (h : ∀ W, W = w → Calls P F args W Q) : Calls P F args w Q := h w rfl
set_option maxRecDepth 100000 in
set_option maxHeartbeats 16000000 in
theorem refparse31 (ad : Addr) (c : Nat) (bs : List UInt8) (hl : bs.length = 31) (w : World) (B : Nat) (hx : Reads w B 1 (some ad) 31 (bs.map B8)) (hB : B ≤ w.heap.size) (hc : 31 ≤ c) :
    Calls Tryz.prog 12 #[.slice (some ad) 31 c] w fun e w' => e = .returned (.tuple #[labV (Lab.parse bs).1, .int .i64 (Lab.parse bs).2]) ∧ Below w.heap.size w w' := by
  have HX := Lib.hid hx
  obtain ⟨x0, x1, x2, x3, x4, x5, x6, x7, hst⟩ := lab_eight (refOf_st bs hl)
  have HD : Hid ((bs.drop 4).take 8 = [x0, x1, x2, x3, x4, x5, x6, x7]) := Lib.hid hst
  have HBX : Hid (∀ W, Below w.heap.size w W → Reads W B 1 (some ad) 31 (bs.map B8)) := Lib.hid fun W h => hx.below (h.mono hB)
  have HCELL : Hid (∀ (W : World) (i : Nat) (x : UInt8), Below w.heap.size w W → [x0, x1, x2, x3, x4, x5, x6, x7][i]? = some x → W.cell? (ad.add (4 + i)) = some (.int .u8 (x.toNat : Int))) := Lib.hid fun W i x h hi => by
    have h1 := reads_part (HBX.out W h) (i := 4) (m := 8) (by decide) (by decide)
    rw [← List.map_drop, ← List.map_take, HD.out] at h1
    obtain ⟨ad', e, _, hcell⟩ := h1.2 (by decide)
    injection e with e
    subst e
    have := hcell i (B8 x) (by rw [List.getElem?_map, hi]; rfl)
    rw [add_of_add] at this
    exact this
  clear hx hst
  go_enter Tryz.func12, Tryz.ntmps12
  go_wp2_with fail
  refine wp_world fun W hW => ?_
  obtain ⟨p, hp⟩ : ∃ p, p = w.heap.size := ⟨_, rfl⟩
  have HR : Hid (Blk W p 27 #[.int .u8 0, .int .u8 0, .int .u8 0, .int .u8 0, .int .u8 0, .int .u8 0, .int .u8 0, .int .u8 0, .int .i64 0, .int .i64 0, .int .i64 0, .int .i64 0, .int .i64 0]) := Lib.hid (by rw [hW, hp]; exact (Blk.new _ _ _).alloc _)
  have HA : Hid (Blk W (p + 1) 27 (layTab x0 x1 x2 x3 x4 x5 x6 x7 0)) := Lib.hid (by rw [hW, hp]; exact blk_last _ _ _ _ (by rw [alloc_size]))
  have HW : Hid (Below w.heap.size w W) := Lib.hid (by rw [hW]; exact ((Below.refl _ _).alloc (Nat.le_refl _) _).alloc (by simp) _)
  rw [← hp]
  have hpw : w.heap.size ≤ p := by omega
  have HP := Lib.hid hp
  clear hW hp
  go_loopw [5] (fun s5 wr => ∃ k : Nat, k ≤ 8 ∧ s5 = .int .i64 k ∧ Blk wr p 27 #[.int .u8 0, .int .u8 0, .int .u8 0, .int .u8 0, .int .u8 0, .int .u8 0, .int .u8 0, .int .u8 0, .int .i64 0, .int .i64 0, .int .i64 0, .int .i64 0, .int .i64 0] ∧ Blk wr (p + 1) 27 (layTab x0 x1 x2 x3 x4 x5 x6 x7 k) ∧ Below w.heap.size w wr) (fun s _ => 8 - (intOf s).toNat)
  case atStart => exact ⟨0, Nat.zero_le _, rfl, HR.out, HA.out, HW.out⟩
  case round =>
    obtain ⟨k, hk, rfl, hr, ha, hb⟩ := hrel
    have HR1 := Lib.hid hr
    have HA1 := Lib.hid ha
    have HB1 := Lib.hid hb
    have hsz := ha.lt
    clear hr ha hb
    by_cases hlt : k < 8
    · have hfr : ∀ j, wr.frozen? ⟨p + 1, j, none⟩ = false := HA1.out.frozen
      obtain rfl | rfl | rfl | rfl | rfl | rfl | rfl | rfl : k = 0 ∨ k = 1 ∨ k = 2 ∨ k = 3 ∨ k = 4 ∨ k = 5 ∨ k = 6 ∨ k = 7 := by omega
      · have hc1 : wr.cell? ⟨ad.block, ad.off + 4, none⟩ = some (.int .u8 (x0.toNat : Int)) := HCELL.out wr 0 x0 HB1.out rfl
        have hc2 : wr.cell? ⟨p + 1, 0, none⟩ = some (.int .u8 0) := HA1.out.cell 0
        go_wp2
        go_roundw
        case rel => exact ⟨1, by omega, by go_num, HR1.out.far (by simp) _, HA1.out.set_ 0 _, HB1.out.setCell (by show w.heap.size ≤ p + 1; omega) _⟩
        case measure => first | (simp [intOf]; done) | (simp [intOf]; omega)
      · have hc1 : wr.cell? ⟨ad.block, ad.off + 5, none⟩ = some (.int .u8 (x1.toNat : Int)) := HCELL.out wr 1 x1 HB1.out rfl
        have hc2 : wr.cell? ⟨p + 1, 1, none⟩ = some (.int .u8 0) := HA1.out.cell 1
        go_wp2
        go_roundw
        case rel => exact ⟨2, by omega, by go_num, HR1.out.far (by simp) _, HA1.out.set_ 1 _, HB1.out.setCell (by show w.heap.size ≤ p + 1; omega) _⟩
        case measure => first | (simp [intOf]; done) | (simp [intOf]; omega)
      · have hc1 : wr.cell? ⟨ad.block, ad.off + 6, none⟩ = some (.int .u8 (x2.toNat : Int)) := HCELL.out wr 2 x2 HB1.out rfl
        have hc2 : wr.cell? ⟨p + 1, 2, none⟩ = some (.int .u8 0) := HA1.out.cell 2
        go_wp2
        go_roundw
        case rel => exact ⟨3, by omega, by go_num, HR1.out.far (by simp) _, HA1.out.set_ 2 _, HB1.out.setCell (by show w.heap.size ≤ p + 1; omega) _⟩
        case measure => first | (simp [intOf]; done) | (simp [intOf]; omega)
      · have hc1 : wr.cell? ⟨ad.block, ad.off + 7, none⟩ = some (.int .u8 (x3.toNat : Int)) := HCELL.out wr 3 x3 HB1.out rfl
        have hc2 : wr.cell? ⟨p + 1, 3, none⟩ = some (.int .u8 0) := HA1.out.cell 3
        go_wp2
        go_roundw
        case rel => exact ⟨4, by omega, by go_num, HR1.out.far (by simp) _, HA1.out.set_ 3 _, HB1.out.setCell (by show w.heap.size ≤ p + 1; omega) _⟩
        case measure => first | (simp [intOf]; done) | (simp [intOf]; omega)
      · have hc1 : wr.cell? ⟨ad.block, ad.off + 8, none⟩ = some (.int .u8 (x4.toNat : Int)) := HCELL.out wr 4 x4 HB1.out rfl
        have hc2 : wr.cell? ⟨p + 1, 4, none⟩ = some (.int .u8 0) := HA1.out.cell 4
        go_wp2
        go_roundw
        case rel => exact ⟨5, by omega, by go_num, HR1.out.far (by simp) _, HA1.out.set_ 4 _, HB1.out.setCell (by show w.heap.size ≤ p + 1; omega) _⟩
        case measure => first | (simp [intOf]; done) | (simp [intOf]; omega)
      · have hc1 : wr.cell? ⟨ad.block, ad.off + 9, none⟩ = some (.int .u8 (x5.toNat : Int)) := HCELL.out wr 5 x5 HB1.out rfl
        have hc2 : wr.cell? ⟨p + 1, 5, none⟩ = some (.int .u8 0) := HA1.out.cell 5
        go_wp2
        go_roundw
        case rel => exact ⟨6, by omega, by go_num, HR1.out.far (by simp) _, HA1.out.set_ 5 _, HB1.out.setCell (by show w.heap.size ≤ p + 1; omega) _⟩
        case measure => first | (simp [intOf]; done) | (simp [intOf]; omega)
      · have hc1 : wr.cell? ⟨ad.block, ad.off + 10, none⟩ = some (.int .u8 (x6.toNat : Int)) := HCELL.out wr 6 x6 HB1.out rfl
        have hc2 : wr.cell? ⟨p + 1, 6, none⟩ = some (.int .u8 0) := HA1.out.cell 6
        go_wp2
        go_roundw
        case rel => exact ⟨7, by omega, by go_num, HR1.out.far (by simp) _, HA1.out.set_ 6 _, HB1.out.setCell (by show w.heap.size ≤ p + 1; omega) _⟩
        case measure => first | (simp [intOf]; done) | (simp [intOf]; omega)
      · have hc1 : wr.cell? ⟨ad.block, ad.off + 11, none⟩ = some (.int .u8 (x7.toNat : Int)) := HCELL.out wr 7 x7 HB1.out rfl
        have hc2 : wr.cell? ⟨p + 1, 7, none⟩ = some (.int .u8 0) := HA1.out.cell 7
        go_wp2
        go_roundw
        case rel => exact ⟨8, by omega, by go_num, HR1.out.far (by simp) _, HA1.out.set_ 7 _, HB1.out.setCell (by show w.heap.size ≤ p + 1; omega) _⟩
        case measure => first | (simp [intOf]; done) | (simp [intOf]; omega)
    · obtain rfl : k = 8 := by omega
      have HA2 : Hid (Blk wr (p + 1) 27 #[.int .u8 (x0.toNat : Int), .int .u8 (x1.toNat : Int), .int .u8 (x2.toNat : Int), .int .u8 (x3.toNat : Int), .int .u8 (x4.toNat : Int), .int .u8 (x5.toNat : Int), .int .u8 (x6.toNat : Int), .int .u8 (x7.toNat : Int), .int .i64 0, .int .i64 0, .int .i64 0, .int .i64 0, .int .i64 0]) := HA1
      clear HA1
      have c0 : wr.cell? ⟨p + 1, 8, none⟩ = some (.int .i64 0) := HA2.out.cell 8
      have d0 : ∀ j, wr.frozen? ⟨p + 1, j, none⟩ = false := HA2.out.frozen
      have e0 : wr.heap.size > p + 1 := HA2.out.lt
      go_wp2_with fail
      refine (refvalue_any (some ⟨ad.block, ad.off + 12, none⟩) 1 (c - 12) ((bs.drop 12).take 1) wr B (by have h := reads_part (HBX.out _ HB1.out) (i := 12) (m := 1) (by decide) (by decide); rw [← List.map_drop, ← List.map_take] at h; exact h) (by decide)).mono ?_
      rintro e w' ⟨rfl, hw'⟩
      subst hw'
      obtain ⟨v0, hv0⟩ : ∃ v, v = refval ((bs.drop 12).take 1) := ⟨_, rfl⟩
      rw [← hv0]
      have HV0 := Lib.hid hv0
      clear hv0
      go_wp2_with fail
      refine calls_world fun W0 hW0 => ?_
      have HRW0 : Hid (Blk W0 p 27 #[.int .u8 0, .int .u8 0, .int .u8 0, .int .u8 0, .int .u8 0, .int .u8 0, .int .u8 0, .int .u8 0, .int .i64 0, .int .i64 0, .int .i64 0, .int .i64 0, .int .i64 0]) := Lib.hid (by rw [hW0]; exact HR1.out.far (by simp) _)
      have HAW0 : Hid (Blk W0 (p + 1) 27 #[.int .u8 (x0.toNat : Int), .int .u8 (x1.toNat : Int), .int .u8 (x2.toNat : Int), .int .u8 (x3.toNat : Int), .int .u8 (x4.toNat : Int), .int .u8 (x5.toNat : Int), .int .u8 (x6.toNat : Int), .int .u8 (x7.toNat : Int), .int .i64 v0, .int .i64 0, .int .i64 0, .int .i64 0, .int .i64 0]) := Lib.hid (by rw [hW0]; exact HA2.out.set_ 8 _)
      have HBW0 : Hid (Below w.heap.size w W0) := Lib.hid (by rw [hW0]; exact HB1.out.setCell (by show w.heap.size ≤ p + 1; omega) _)
      clear hW0 c0 d0 e0
      have c1 : W0.cell? ⟨p + 1, 9, none⟩ = some (.int .i64 0) := HAW0.out.cell 9
      have d1 : ∀ j, W0.frozen? ⟨p + 1, j, none⟩ = false := HAW0.out.frozen
      have e1 : W0.heap.size > p + 1 := HAW0.out.lt
      refine (refvalue_any (some ⟨ad.block, ad.off + 13, none⟩) 1 (c - 13) ((bs.drop 13).take 1) W0 B (by have h := reads_part (HBX.out _ HBW0.out) (i := 13) (m := 1) (by decide) (by decide); rw [← List.map_drop, ← List.map_take] at h; exact h) (by decide)).mono ?_
      rintro e w' ⟨rfl, hw'⟩
      subst hw'
      obtain ⟨v1, hv1⟩ : ∃ v, v = refval ((bs.drop 13).take 1) := ⟨_, rfl⟩
      rw [← hv1]
      have HV1 := Lib.hid hv1
      clear hv1
      go_wp2_with fail
      refine calls_world fun W1 hW1 => ?_
      have HRW1 : Hid (Blk W1 p 27 #[.int .u8 0, .int .u8 0, .int .u8 0, .int .u8 0, .int .u8 0, .int .u8 0, .int .u8 0, .int .u8 0, .int .i64 0, .int .i64 0, .int .i64 0, .int .i64 0, .int .i64 0]) := Lib.hid (by rw [hW1]; exact HRW0.out.far (by simp) _)
      have HAW1 : Hid (Blk W1 (p + 1) 27 #[.int .u8 (x0.toNat : Int), .int .u8 (x1.toNat : Int), .int .u8 (x2.toNat : Int), .int .u8 (x3.toNat : Int), .int .u8 (x4.toNat : Int), .int .u8 (x5.toNat : Int), .int .u8 (x6.toNat : Int), .int .u8 (x7.toNat : Int), .int .i64 v0, .int .i64 v1, .int .i64 0, .int .i64 0, .int .i64 0]) := Lib.hid (by rw [hW1]; exact HAW0.out.set_ 9 _)
      have HBW1 : Hid (Below w.heap.size w W1) := Lib.hid (by rw [hW1]; exact HBW0.out.setCell (by show w.heap.size ≤ p + 1; omega) _)
      clear hW1 c1 d1 e1
      have c2 : W1.cell? ⟨p + 1, 10, none⟩ = some (.int .i64 0) := HAW1.out.cell 10
      have d2 : ∀ j, W1.frozen? ⟨p + 1, j, none⟩ = false := HAW1.out.frozen
      have e2 : W1.heap.size > p + 1 := HAW1.out.lt
      refine (refvalue_any (some ⟨ad.block, ad.off + 14, none⟩) 4 (c - 14) ((bs.drop 14).take 4) W1 B (by have h := reads_part (HBX.out _ HBW1.out) (i := 14) (m := 4) (by decide) (by decide); rw [← List.map_drop, ← List.map_take] at h; exact h) (by decide)).mono ?_
      rintro e w' ⟨rfl, hw'⟩
      subst hw'
      obtain ⟨v2, hv2⟩ : ∃ v, v = refval ((bs.drop 14).take 4) := ⟨_, rfl⟩
      rw [← hv2]
      have HV2 := Lib.hid hv2
      clear hv2
      go_wp2_with fail
      refine calls_world fun W2 hW2 => ?_
      have HRW2 : Hid (Blk W2 p 27 #[.int .u8 0, .int .u8 0, .int .u8 0, .int .u8 0, .int .u8 0, .int .u8 0, .int .u8 0, .int .u8 0, .int .i64 0, .int .i64 0, .int .i64 0, .int .i64 0, .int .i64 0]) := Lib.hid (by rw [hW2]; exact HRW1.out.far (by simp) _)
      have HAW2 : Hid (Blk W2 (p + 1) 27 #[.int .u8 (x0.toNat : Int), .int .u8 (x1.toNat : Int), .int .u8 (x2.toNat : Int), .int .u8 (x3.toNat : Int), .int .u8 (x4.toNat : Int), .int .u8 (x5.toNat : Int), .int .u8 (x6.toNat : Int), .int .u8 (x7.toNat : Int), .int .i64 v0, .int .i64 v1, .int .i64 v2, .int .i64 0, .int .i64 0]) := Lib.hid (by rw [hW2]; exact HAW1.out.set_ 10 _)
      have HBW2 : Hid (Below w.heap.size w W2) := Lib.hid (by rw [hW2]; exact HBW1.out.setCell (by show w.heap.size ≤ p + 1; omega) _)
      clear hW2 c2 d2 e2
      have c3 : W2.cell? ⟨p + 1, 11, none⟩ = some (.int .i64 0) := HAW2.out.cell 11
      have d3 : ∀ j, W2.frozen? ⟨p + 1, j, none⟩ = false := HAW2.out.frozen
      have e3 : W2.heap.size > p + 1 := HAW2.out.lt
      refine (refvalue_any (some ⟨ad.block, ad.off + 18, none⟩) 1 (c - 18) ((bs.drop 18).take 1) W2 B (by have h := reads_part (HBX.out _ HBW2.out) (i := 18) (m := 1) (by decide) (by decide); rw [← List.map_drop, ← List.map_take] at h; exact h) (by decide)).mono ?_
      rintro e w' ⟨rfl, hw'⟩
      subst hw'
      obtain ⟨v3, hv3⟩ : ∃ v, v = refval ((bs.drop 18).take 1) := ⟨_, rfl⟩
      rw [← hv3]
      have HV3 := Lib.hid hv3
      clear hv3
      go_wp2_with fail
      refine calls_world fun W3 hW3 => ?_
      have HRW3 : Hid (Blk W3 p 27 #[.int .u8 0, .int .u8 0, .int .u8 0, .int .u8 0, .int .u8 0, .int .u8 0, .int .u8 0, .int .u8 0, .int .i64 0, .int .i64 0, .int .i64 0, .int .i64 0, .int .i64 0]) := Lib.hid (by rw [hW3]; exact HRW2.out.far (by simp) _)
      have HAW3 : Hid (Blk W3 (p + 1) 27 #[.int .u8 (x0.toNat : Int), .int .u8 (x1.toNat : Int), .int .u8 (x2.toNat : Int), .int .u8 (x3.toNat : Int), .int .u8 (x4.toNat : Int), .int .u8 (x5.toNat : Int), .int .u8 (x6.toNat : Int), .int .u8 (x7.toNat : Int), .int .i64 v0, .int .i64 v1, .int .i64 v2, .int .i64 v3, .int .i64 0]) := Lib.hid (by rw [hW3]; exact HAW2.out.set_ 11 _)
      have HBW3 : Hid (Below w.heap.size w W3) := Lib.hid (by rw [hW3]; exact HBW2.out.setCell (by show w.heap.size ≤ p + 1; omega) _)
      clear hW3 c3 d3 e3
      have c4 : W3.cell? ⟨p + 1, 12, none⟩ = some (.int .i64 0) := HAW3.out.cell 12
      have d4 : ∀ j, W3.frozen? ⟨p + 1, j, none⟩ = false := HAW3.out.frozen
      have e4 : W3.heap.size > p + 1 := HAW3.out.lt
      have q0 : W3.cell? ⟨p + 1, 0, none⟩ = some (.int .u8 (x0.toNat : Int)) := HAW3.out.cell 0
      have q1 : W3.cell? ⟨p + 1, 1, none⟩ = some (.int .u8 (x1.toNat : Int)) := HAW3.out.cell 1
      have q2 : W3.cell? ⟨p + 1, 2, none⟩ = some (.int .u8 (x2.toNat : Int)) := HAW3.out.cell 2
      have q3 : W3.cell? ⟨p + 1, 3, none⟩ = some (.int .u8 (x3.toNat : Int)) := HAW3.out.cell 3
      have q4 : W3.cell? ⟨p + 1, 4, none⟩ = some (.int .u8 (x4.toNat : Int)) := HAW3.out.cell 4
      have q5 : W3.cell? ⟨p + 1, 5, none⟩ = some (.int .u8 (x5.toNat : Int)) := HAW3.out.cell 5
      have q6 : W3.cell? ⟨p + 1, 6, none⟩ = some (.int .u8 (x6.toNat : Int)) := HAW3.out.cell 6
      have q7 : W3.cell? ⟨p + 1, 7, none⟩ = some (.int .u8 (x7.toNat : Int)) := HAW3.out.cell 7
      have q8 : W3.cell? ⟨p + 1, 8, none⟩ = some (.int .i64 v0) := HAW3.out.cell 8
      have q9 : W3.cell? ⟨p + 1, 9, none⟩ = some (.int .i64 v1) := HAW3.out.cell 9
      have q10 : W3.cell? ⟨p + 1, 10, none⟩ = some (.int .i64 v2) := HAW3.out.cell 10
      have q11 : W3.cell? ⟨p + 1, 11, none⟩ = some (.int .i64 v3) := HAW3.out.cell 11
      refine (refvalue_any (some ⟨ad.block, ad.off + 19, none⟩) 8 (c - 19) ((bs.drop 19).take 8) W3 B (by have h := reads_part (HBX.out _ HBW3.out) (i := 19) (m := 8) (by decide) (by decide); rw [← List.map_drop, ← List.map_take] at h; exact h) (by decide)).mono ?_
      rintro e w' ⟨rfl, hw'⟩
      subst hw'
      obtain ⟨v4, hv4⟩ : ∃ v, v = refval ((bs.drop 19).take 8) := ⟨_, rfl⟩
      rw [← hv4]
      have HV4 := Lib.hid hv4
      clear hv4
      go_wp2_with fail
      refine calls_world fun W4 hW4 => ?_
      have HRW4 : Hid (Blk W4 p 27 #[.int .u8 0, .int .u8 0, .int .u8 0, .int .u8 0, .int .u8 0, .int .u8 0, .int .u8 0, .int .u8 0, .int .i64 0, .int .i64 0, .int .i64 0, .int .i64 0, .int .i64 0]) := Lib.hid (by rw [hW4]; exact HRW3.out.far (by simp) _)
      have HAW4 : Hid (Blk W4 (p + 1) 27 #[.int .u8 (x0.toNat : Int), .int .u8 (x1.toNat : Int), .int .u8 (x2.toNat : Int), .int .u8 (x3.toNat : Int), .int .u8 (x4.toNat : Int), .int .u8 (x5.toNat : Int), .int .u8 (x6.toNat : Int), .int .u8 (x7.toNat : Int), .int .i64 v0, .int .i64 v1, .int .i64 v2, .int .i64 v3, .int .i64 v4]) := Lib.hid (by rw [hW4]; exact HAW3.out.set_ 12 _)
      have HBW4 : Hid (Below w.heap.size w W4) := Lib.hid (by rw [hW4]; exact HBW3.out.setCell (by show w.heap.size ≤ p + 1; omega) _)
      clear hW4 c4 d4 e4
      have HLV : Hid (labV (refOf bs) = .agg #[.int .u8 (x0.toNat : Int), .int .u8 (x1.toNat : Int), .int .u8 (x2.toNat : Int), .int .u8 (x3.toNat : Int), .int .u8 (x4.toNat : Int), .int .u8 (x5.toNat : Int), .int .u8 (x6.toNat : Int), .int .u8 (x7.toNat : Int), .int .i64 v0, .int .i64 v1, .int .i64 v2, .int .i64 v3, .int .i64 v4]) := Lib.hid (by
        have e1 : (refOf bs).st = [x0, x1, x2, x3, x4, x5, x6, x7] := HD.out
        have b1 : (bs.drop 12).take 1 = [bs.getD 12 0] ∧ (bs.drop 13).take 1 = [bs.getD 13 0] ∧ (bs.drop 18).take 1 = [bs.getD 18 0] := by
          match bs, hl with
          | [_, _, _, _, _, _, _, _, _, _, _, _, _, _, _, _, _, _, _, _, _, _, _, _, _, _, _, _, _, _, _], _ => exact ⟨rfl, rfl, rfl⟩
        have e2 : (refOf bs).k = v0 := by rw [HV0.out, b1.1, refval_one]; rfl
        have e3 : (refOf bs).m = v1 := by rw [HV1.out, b1.2.1, refval_one]; rfl
        have e4 : (refOf bs).b = v2 := by rw [HV2.out, refval_four _ (by rw [List.length_take, List.length_drop]; omega)]; rfl
        have e5 : (refOf bs).i = v3 := by rw [HV3.out, b1.2.2, refval_one]; rfl
        have e6 : (refOf bs).e = v4 := by rw [HV4.out]; rfl
        unfold labV labCells
        rw [e1, e2, e3, e4, e5, e6]
        rfl)
      have HWF : Hid (refOf bs).Wf := Lib.hid ⟨refOf_st bs hl, by have h : (refOf bs).k = ((bs.getD 12 0).toNat : Int) := rfl; have := (bs.getD 12 0).toNat_lt; omega, by have h : (refOf bs).m = ((bs.getD 13 0).toNat : Int) := rfl; have := (bs.getD 13 0).toNat_lt; omega⟩
      have hwp : W4.heap.size > p + 1 := HAW4.out.lt
      by_cases hm : (refOf bs).may = 0
      · have hEN := refencode_ok (refOf bs) HWF.out hm W4
        rw [HLV.out] at hEN
        refine hEN.mono ?_
        rintro e V ⟨u, rfl, ho, hb⟩
        obtain ⟨a, d, rfl, _⟩ := own_shape ho
        have KA := Lib.hid (HAW4.out.below hb hwp)
        have KR := Lib.hid (HRW4.out.below hb (by omega))
        have HBV : Hid (Below w.heap.size w V) := Lib.hid (HBW4.out.trans (hb.mono HBW4.out.size))
        have hvp : V.heap.size > p + 1 := KA.out.lt
        have hva := conv_at V _ a (refOf bs).bytes 31 d (Reads.of_own ho)
        have hvb := conv_at V _ (some ad) bs 31 c (HBX.out V HBV.out)
        clear ho hb
        by_cases hsame : (refOf bs).bytes = bs
        · have HPV : Hid (Lab.parse bs = (refOf bs, 0)) := Lib.hid (refOf_same bs hl hm hsame)
          rw [hsame] at hva
          obtain ⟨s, hs⟩ : ∃ s : ByteArray, s = ⟨bs.toArray⟩ := ⟨_, rfl⟩
          rw [← hs] at hva hvb
          clear hs hm hsame
          have q0 : V.cell? ⟨p + 1, 0, none⟩ = some (.int .u8 (x0.toNat : Int)) := KA.out.cell 0; have r0 : V.cell? ⟨p, 0, none⟩ = some (.int .u8 0) := KR.out.cell 0; have q1 : V.cell? ⟨p + 1, 1, none⟩ = some (.int .u8 (x1.toNat : Int)) := KA.out.cell 1; have r1 : V.cell? ⟨p, 1, none⟩ = some (.int .u8 0) := KR.out.cell 1; have q2 : V.cell? ⟨p + 1, 2, none⟩ = some (.int .u8 (x2.toNat : Int)) := KA.out.cell 2; have r2 : V.cell? ⟨p, 2, none⟩ = some (.int .u8 0) := KR.out.cell 2; have q3 : V.cell? ⟨p + 1, 3, none⟩ = some (.int .u8 (x3.toNat : Int)) := KA.out.cell 3; have r3 : V.cell? ⟨p, 3, none⟩ = some (.int .u8 0) := KR.out.cell 3; have q4 : V.cell? ⟨p + 1, 4, none⟩ = some (.int .u8 (x4.toNat : Int)) := KA.out.cell 4; have r4 : V.cell? ⟨p, 4, none⟩ = some (.int .u8 0) := KR.out.cell 4; have q5 : V.cell? ⟨p + 1, 5, none⟩ = some (.int .u8 (x5.toNat : Int)) := KA.out.cell 5; have r5 : V.cell? ⟨p, 5, none⟩ = some (.int .u8 0) := KR.out.cell 5; have q6 : V.cell? ⟨p + 1, 6, none⟩ = some (.int .u8 (x6.toNat : Int)) := KA.out.cell 6; have r6 : V.cell? ⟨p, 6, none⟩ = some (.int .u8 0) := KR.out.cell 6; have q7 : V.cell? ⟨p + 1, 7, none⟩ = some (.int .u8 (x7.toNat : Int)) := KA.out.cell 7; have r7 : V.cell? ⟨p, 7, none⟩ = some (.int .u8 0) := KR.out.cell 7; have q8 : V.cell? ⟨p + 1, 8, none⟩ = some (.int .i64 v0) := KA.out.cell 8; have r8 : V.cell? ⟨p, 8, none⟩ = some (.int .i64 0) := KR.out.cell 8; have q9 : V.cell? ⟨p + 1, 9, none⟩ = some (.int .i64 v1) := KA.out.cell 9; have r9 : V.cell? ⟨p, 9, none⟩ = some (.int .i64 0) := KR.out.cell 9; have q10 : V.cell? ⟨p + 1, 10, none⟩ = some (.int .i64 v2) := KA.out.cell 10; have r10 : V.cell? ⟨p, 10, none⟩ = some (.int .i64 0) := KR.out.cell 10; have q11 : V.cell? ⟨p + 1, 11, none⟩ = some (.int .i64 v3) := KA.out.cell 11; have r11 : V.cell? ⟨p, 11, none⟩ = some (.int .i64 0) := KR.out.cell 11; have q12 : V.cell? ⟨p + 1, 12, none⟩ = some (.int .i64 v4) := KA.out.cell 12; have r12 : V.cell? ⟨p, 12, none⟩ = some (.int .i64 0) := KR.out.cell 12; have rf : ∀ j, V.frozen? ⟨p, j, none⟩ = false := KR.out.frozen
          go_wp2
          refine bodyPost_ret (v := .tuple #[.agg #[.int .u8 (x0.toNat : Int), .int .u8 (x1.toNat : Int), .int .u8 (x2.toNat : Int), .int .u8 (x3.toNat : Int), .int .u8 (x4.toNat : Int), .int .u8 (x5.toNat : Int), .int .u8 (x6.toNat : Int), .int .u8 (x7.toNat : Int), .int .i64 v0, .int .i64 v1, .int .i64 v2, .int .i64 v3, .int .i64 v4], .int .i64 0]) (by simp only [results, Tryz.results12]; go_simp) rfl ⟨by rw [HPV.out]; show _ = Ending.returned (.tuple #[labV (refOf bs), _]); rw [HLV.out], ?_⟩
          repeat (first | with_reducible exact HBV.out | with_reducible refine Below.setCell ?_ (by show w.heap.size ≤ p; omega) _ | with_reducible refine below_drewN ?_ _ | with_reducible refine below_drew1 ?_)
        · have HPV : Hid (Lab.parse bs = (Lab.zero, 150)) := Lib.hid (refOf_other bs hm hsame)
          obtain ⟨s, hs⟩ : ∃ s : ByteArray, s = ⟨bs.toArray⟩ := ⟨_, rfl⟩
          obtain ⟨s2, hs2⟩ : ∃ s : ByteArray, s = ⟨(refOf bs).bytes.toArray⟩ := ⟨_, rfl⟩
          have hne : (s2.toList == s.toList) = false := by
            rw [hs, hs2, ByteArray.toList_eq, ByteArray.toList_eq]
            simpa using hsame
          rw [← hs] at hvb
          rw [← hs2] at hva
          clear hs hs2 hm hsame
          have q0 : V.cell? ⟨p + 1, 0, none⟩ = some (.int .u8 (x0.toNat : Int)) := KA.out.cell 0; have r0 : V.cell? ⟨p, 0, none⟩ = some (.int .u8 0) := KR.out.cell 0; have q1 : V.cell? ⟨p + 1, 1, none⟩ = some (.int .u8 (x1.toNat : Int)) := KA.out.cell 1; have r1 : V.cell? ⟨p, 1, none⟩ = some (.int .u8 0) := KR.out.cell 1; have q2 : V.cell? ⟨p + 1, 2, none⟩ = some (.int .u8 (x2.toNat : Int)) := KA.out.cell 2; have r2 : V.cell? ⟨p, 2, none⟩ = some (.int .u8 0) := KR.out.cell 2; have q3 : V.cell? ⟨p + 1, 3, none⟩ = some (.int .u8 (x3.toNat : Int)) := KA.out.cell 3; have r3 : V.cell? ⟨p, 3, none⟩ = some (.int .u8 0) := KR.out.cell 3; have q4 : V.cell? ⟨p + 1, 4, none⟩ = some (.int .u8 (x4.toNat : Int)) := KA.out.cell 4; have r4 : V.cell? ⟨p, 4, none⟩ = some (.int .u8 0) := KR.out.cell 4; have q5 : V.cell? ⟨p + 1, 5, none⟩ = some (.int .u8 (x5.toNat : Int)) := KA.out.cell 5; have r5 : V.cell? ⟨p, 5, none⟩ = some (.int .u8 0) := KR.out.cell 5; have q6 : V.cell? ⟨p + 1, 6, none⟩ = some (.int .u8 (x6.toNat : Int)) := KA.out.cell 6; have r6 : V.cell? ⟨p, 6, none⟩ = some (.int .u8 0) := KR.out.cell 6; have q7 : V.cell? ⟨p + 1, 7, none⟩ = some (.int .u8 (x7.toNat : Int)) := KA.out.cell 7; have r7 : V.cell? ⟨p, 7, none⟩ = some (.int .u8 0) := KR.out.cell 7; have q8 : V.cell? ⟨p + 1, 8, none⟩ = some (.int .i64 v0) := KA.out.cell 8; have r8 : V.cell? ⟨p, 8, none⟩ = some (.int .i64 0) := KR.out.cell 8; have q9 : V.cell? ⟨p + 1, 9, none⟩ = some (.int .i64 v1) := KA.out.cell 9; have r9 : V.cell? ⟨p, 9, none⟩ = some (.int .i64 0) := KR.out.cell 9; have q10 : V.cell? ⟨p + 1, 10, none⟩ = some (.int .i64 v2) := KA.out.cell 10; have r10 : V.cell? ⟨p, 10, none⟩ = some (.int .i64 0) := KR.out.cell 10; have q11 : V.cell? ⟨p + 1, 11, none⟩ = some (.int .i64 v3) := KA.out.cell 11; have r11 : V.cell? ⟨p, 11, none⟩ = some (.int .i64 0) := KR.out.cell 11; have q12 : V.cell? ⟨p + 1, 12, none⟩ = some (.int .i64 v4) := KA.out.cell 12; have r12 : V.cell? ⟨p, 12, none⟩ = some (.int .i64 0) := KR.out.cell 12; have rf : ∀ j, V.frozen? ⟨p, j, none⟩ = false := KR.out.frozen
          go_wp2
          refine bodyPost_ret (v := .tuple #[.agg #[.int .u8 0, .int .u8 0, .int .u8 0, .int .u8 0, .int .u8 0, .int .u8 0, .int .u8 0, .int .u8 0, .int .i64 0, .int .i64 0, .int .i64 0, .int .i64 0, .int .i64 0], .int .i64 150]) (by simp only [results, Tryz.results12]; go_simp) rfl ⟨by rw [HPV.out]; rfl, ?_⟩
          repeat (first | with_reducible exact HBV.out | with_reducible refine Below.setCell ?_ (by show w.heap.size ≤ p; omega) _ | with_reducible refine below_drewN ?_ _ | with_reducible refine below_drew1 ?_)
      · have hEN := refencode_bad (refOf bs) HWF.out hm W4
        have HPV : Hid (Lab.parse bs = (Lab.zero, 150)) := Lib.hid (Lab.parse_bad (refOf_no bs hm))
        obtain ⟨mm, hmm⟩ : ∃ mm, mm = (refOf bs).may := ⟨_, rfl⟩
        rw [HLV.out, ← hmm] at hEN
        rw [← hmm] at hm
        have hme : (mm != 0) = true := by simp [hm]
        refine hEN.mono ?_
        rintro e V ⟨rfl, hb⟩
        have KA := Lib.hid (HAW4.out.below hb hwp)
        have KR := Lib.hid (HRW4.out.below hb (by omega))
        have HBV : Hid (Below w.heap.size w V) := Lib.hid (HBW4.out.trans (hb.mono HBW4.out.size))
        have hvp : V.heap.size > p + 1 := KA.out.lt
        clear hb hm hmm
        have q0 : V.cell? ⟨p + 1, 0, none⟩ = some (.int .u8 (x0.toNat : Int)) := KA.out.cell 0; have r0 : V.cell? ⟨p, 0, none⟩ = some (.int .u8 0) := KR.out.cell 0; have q1 : V.cell? ⟨p + 1, 1, none⟩ = some (.int .u8 (x1.toNat : Int)) := KA.out.cell 1; have r1 : V.cell? ⟨p, 1, none⟩ = some (.int .u8 0) := KR.out.cell 1; have q2 : V.cell? ⟨p + 1, 2, none⟩ = some (.int .u8 (x2.toNat : Int)) := KA.out.cell 2; have r2 : V.cell? ⟨p, 2, none⟩ = some (.int .u8 0) := KR.out.cell 2; have q3 : V.cell? ⟨p + 1, 3, none⟩ = some (.int .u8 (x3.toNat : Int)) := KA.out.cell 3; have r3 : V.cell? ⟨p, 3, none⟩ = some (.int .u8 0) := KR.out.cell 3; have q4 : V.cell? ⟨p + 1, 4, none⟩ = some (.int .u8 (x4.toNat : Int)) := KA.out.cell 4; have r4 : V.cell? ⟨p, 4, none⟩ = some (.int .u8 0) := KR.out.cell 4; have q5 : V.cell? ⟨p + 1, 5, none⟩ = some (.int .u8 (x5.toNat : Int)) := KA.out.cell 5; have r5 : V.cell? ⟨p, 5, none⟩ = some (.int .u8 0) := KR.out.cell 5; have q6 : V.cell? ⟨p + 1, 6, none⟩ = some (.int .u8 (x6.toNat : Int)) := KA.out.cell 6; have r6 : V.cell? ⟨p, 6, none⟩ = some (.int .u8 0) := KR.out.cell 6; have q7 : V.cell? ⟨p + 1, 7, none⟩ = some (.int .u8 (x7.toNat : Int)) := KA.out.cell 7; have r7 : V.cell? ⟨p, 7, none⟩ = some (.int .u8 0) := KR.out.cell 7; have q8 : V.cell? ⟨p + 1, 8, none⟩ = some (.int .i64 v0) := KA.out.cell 8; have r8 : V.cell? ⟨p, 8, none⟩ = some (.int .i64 0) := KR.out.cell 8; have q9 : V.cell? ⟨p + 1, 9, none⟩ = some (.int .i64 v1) := KA.out.cell 9; have r9 : V.cell? ⟨p, 9, none⟩ = some (.int .i64 0) := KR.out.cell 9; have q10 : V.cell? ⟨p + 1, 10, none⟩ = some (.int .i64 v2) := KA.out.cell 10; have r10 : V.cell? ⟨p, 10, none⟩ = some (.int .i64 0) := KR.out.cell 10; have q11 : V.cell? ⟨p + 1, 11, none⟩ = some (.int .i64 v3) := KA.out.cell 11; have r11 : V.cell? ⟨p, 11, none⟩ = some (.int .i64 0) := KR.out.cell 11; have q12 : V.cell? ⟨p + 1, 12, none⟩ = some (.int .i64 v4) := KA.out.cell 12; have r12 : V.cell? ⟨p, 12, none⟩ = some (.int .i64 0) := KR.out.cell 12; have rf : ∀ j, V.frozen? ⟨p, j, none⟩ = false := KR.out.frozen
        go_wp2
        refine bodyPost_ret (v := .tuple #[.agg #[.int .u8 0, .int .u8 0, .int .u8 0, .int .u8 0, .int .u8 0, .int .u8 0, .int .u8 0, .int .u8 0, .int .i64 0, .int .i64 0, .int .i64 0, .int .i64 0, .int .i64 0], .int .i64 150]) (by simp only [results, Tryz.results12]; go_simp) rfl ⟨by rw [HPV.out]; rfl, ?_⟩
        repeat (first | with_reducible exact HBV.out | with_reducible refine Below.setCell ?_ (by show w.heap.size ≤ p; omega) _ | with_reducible refine below_drewN ?_ _ | with_reducible refine below_drew1 ?_)
theorem refparse_any (A : Option Addr) (n c : Nat) (bs : List UInt8) (w : World) (B : Nat) (hx : Reads w B 1 A n (bs.map B8)) (hB : B ≤ w.heap.size) (hc : n ≤ c) :
    Calls Tryz.prog 12 #[.slice A n c] w fun e w' => e = .returned (.tuple #[labV (Lab.parse bs).1, .int .i64 (Lab.parse bs).2]) ∧ Below w.heap.size w w' := by
  have hl : bs.length = n := by have := hx.1; simpa using this
  by_cases hn : n = 31
  · subst hn
    obtain ⟨ad, rfl, _⟩ := hx.2 (by decide)
    exact refparse31 ad c bs (by omega) w B hx hB hc
  · rw [Lab.parse_bad (fun h => hn (by rw [← hl]; exact h.1))]
    exact refparse_short A n c w hn
end Go.Proofs.YtdiaihpilniikaaGreat
namespace Go.Proofs.YtdiaihpilniikaaGreat
open Go.RowKit Go.Maps

/-- The drive that is loaded. -/
def standDrv (hs : Bool) (bs : List UInt8) : Drv := if hs = true then (Drv.new 1048576).loadK [([108], bs)] else Drv.new 1048576
set_option maxRecDepth 100000 in
set_option maxHeartbeats 8000000 in
theorem loaded_any (hs aw : Bool) (A B : Option Addr) (n c m d : Nat) (bs : List UInt8) (a0 a1 a2 a3 a4 a5 a6 a7 : UInt8) (n0 n1 n2 n3 n4 : Int) (w : World) (hr : Reads w w.heap.size 1 A n (bs.map B8)) (hn : n ≤ 1048576) :
    Calls Tryz.prog 6 #[.agg #[.bool hs, .slice A n c, .int .u8 (a0.toNat : Int), .int .u8 (a1.toNat : Int), .int .u8 (a2.toNat : Int), .int .u8 (a3.toNat : Int), .int .u8 (a4.toNat : Int), .int .u8 (a5.toNat : Int), .int .u8 (a6.toNat : Int), .int .u8 (a7.toNat : Int), .int .i64 n0, .int .i64 n1, .int .i64 n2, .int .i64 n3, .int .i64 n4, .slice B m d, .bool aw]] w fun e w' => ∃ p, e = .returned (.pointer (some ⟨p, 0, none⟩)) ∧ Drb w' w.heap.size p (standDrv hs bs) ∧ Below w.heap.size w w' := by
  have HR := Lib.hid hr
  have hlen : bs.length = n := by have := hr.1; simpa using this
  have HLEN := Lib.hid hlen
  have HLO0 : Hid (∀ V : World, Calls Tryz.prog 29 #[.int .i64 1048576, .slice none 0 0] V fun e w' => ∃ p, e = .returned (.pointer (some ⟨p, 0, none⟩)) ∧ Dr w' p (Drv.new 1048576) (fun k => V.heap.size ≤ k ∧ k < w'.heap.size) ∧ Below V.heap.size V w') := Lib.hid fun V => load_ok 1048576 (by decide) (by decide) [] [] none 0 V ⟨rfl, Reads.none_, fun k f u hf => by simp at hf⟩ (fun ad h => by cases h) (by simp) (Nat.zero_le _) rfl
  clear hr hlen
  cases hs with
  | false =>
    go_enter Tryz.func6, Tryz.ntmps6
    go_wp2_with (go_at_call 29; refine (HLO0.out _).mono ?_; rintro e w2 ⟨p, rfl, hd, hb⟩; have HD := Lib.hid hd; have HB := Lib.hid hb; clear hd hb)
    go_ret
    exact ⟨p, rfl, HD.out.mono fun k hk => ⟨by have := hk.1; rw [alloc_size] at this; omega, hk.2⟩, ((Below.refl _ w).alloc (Nat.le_refl _) _).trans (HB.out.mono (by rw [alloc_size]; omega))⟩
  | true =>
    obtain ⟨fi, hfi, hz0, hz1, hz2⟩ := info_parts fileInfo
    have HTW : Hid (∀ V, Below w.heap.size w V → Calls Tryz.prog 28 #[.slice A n c] V fun e w' => ∃ a d, e = .returned (.slice a n d) ∧ w'.ownsRow V.heap.size 5 1 (.slice a n d) n (bs.map B8) ∧ Below V.heap.size V w') := Lib.hid fun V hV => by
      refine (twin_any A n c bs V _ (HR.out.below hV) (by omega)).mono ?_
      rintro e w' ⟨v, he, ho, hb⟩
      obtain ⟨a, d, rfl, _⟩ := own_shape ho
      exact ⟨a, d, he, ho, hb⟩
    go_enter Tryz.func6, Tryz.ntmps6
    go_wp2_with (first
      | (go_at_call 28; refine (HTW.out _ ((Below.refl _ w).alloc (Nat.le_refl _) _)).mono ?_; rintro e w1 ⟨a1', d1', rfl, ho, hb⟩; have HO1 := Lib.hid ho; have HB1 : Hid (Below w.heap.size w w1) := Lib.hid (((Below.refl _ w).alloc (Nat.le_refl _) _).trans (hb.mono (by rw [alloc_size]; omega))); have hs1 := HB1.out.size; clear ho hb)
      | (at_builtin; go_loud (refine wpList_append_any _ rfl _ _ 68 rfl w1.heap.size 71 fi _ 2 40 Tryz.underlying68 hfi hz0 hz1 hz2 rfl (by omega) (.slice none 0 0) 0 [] rfl (World.ownsRow_nil _ _ _ _) (w1.heap.size + 1) (some ⟨w1.heap.size, 0, none⟩) 1 1 [strV [108], .slice a1' n d1'] rfl (reads_blk (t := 71) (blk_last _ _ _ _ rfl) (by omega) rfl) (by intro u hu; simp at hu; rcases hu with rfl | rfl <;> rfl) (by decide) (by decide) (by rw [alloc_size]; omega) ?_; intro v2 w2 hown hg hat; obtain ⟨g2, c2, hv2, _, _⟩ := hown.form (by decide); subst hv2; have HO2 := Lib.hid hown; have HB2 : Hid (Below w1.heap.size w1 w2) := Lib.hid (((Below.refl _ w1).alloc (Nat.le_refl _) _).grown hg (by rw [alloc_size]; omega) (fun i hi => by simp [Value.ownBlock] at hi)); clear hown hg hat)))
    have hnl : (([108] : List UInt8), bs).2.length = n := HLEN.out
    have HO3 : Hid (w2.ownsRow w1.heap.size 71 2 (.slice (some ⟨g2, 0, none⟩) 1 c2) 1 [strV [108], .slice a1' n d1']) := Lib.hid HO2.out
    have hfin : FilesIn w2 (some ⟨g2, 0, none⟩) [([108], bs)] [.slice a1' n d1'] := ⟨rfl, Reads.of_own HO3.out, fun k f u hf hu => by
      match k, hf, hu with
      | 0, hf, hu =>
        have e1 := Option.some.inj hf
        have e2 := Option.some.inj hu
        subst e1 e2
        have hr1 : Reads w1 w1.heap.size 1 a1' n (bs.map B8) := Reads.of_own HO1.out
        exact ⟨a1', d1', by rw [hnl], by rw [hnl]; exact (hr1.below HB2.out).more HB2.out.size⟩
      | k + 1, hf, hu => simp at hf⟩
    have HLD : Hid (Calls Tryz.prog 29 #[.int .i64 1048576, .slice (some ⟨g2, 0, none⟩) 1 c2] w2 fun e w' => ∃ p, e = .returned (.pointer (some ⟨p, 0, none⟩)) ∧ Dr w' p ((Drv.new 1048576).loadK [([108], bs)]) (fun k => w2.heap.size ≤ k ∧ k < w'.heap.size) ∧ Below w2.heap.size w2 w') := Lib.hid (load_ok 1048576 (by decide) (by decide) [([108], bs)] [.slice a1' n d1'] (some ⟨g2, 0, none⟩) c2 w2 hfin (fun ad h => by injection h with h; subst h; rfl) (by simp) (by rw [show Drv.total [(([108] : List UInt8), bs)] = bs.length by simp [Drv.total], HLEN.out]; omega) rfl)
    clear hfin hnl
    refine HLD.out.mono ?_
    rintro e w3 ⟨p, rfl, hd, hb⟩
    have HD := Lib.hid hd
    have HB := Lib.hid hb
    clear hd hb
    go_wp2
    go_ret
    have hs2 := HB2.out.size
    exact ⟨p, rfl, HD.out.mono fun k hk => ⟨by have := hk.1; omega, hk.2⟩, (HB1.out.trans (HB2.out.mono hs1)).trans (HB.out.mono (by omega))⟩
end Go.Proofs.YtdiaihpilniikaaGreat
