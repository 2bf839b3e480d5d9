/- The document's bytes of a label: the program's. -/
import Derived.Test.YtdiaihpilniikaaKye
import Derived.Test.YtdiaihpilniikaaKf
namespace Go.Proofs.Ytdiaihpilniikaa
open Go.RowKit Go.Maps

set_option maxRecDepth 100000 in
set_option maxHeartbeats 4000000 in
theorem refencode_bad (l : Lab) (hl : l.Wf) (hm : l.may ≠ 0) (w : World) : Calls Try.prog 14 #[labV l] w fun e w' => e = .returned (.tuple #[.slice none 0 0, .int .i64 l.may]) ∧ Below w.heap.size w w' := by
  have HC := Lib.hid (fun w => refmay_any l hl w)
  obtain ⟨a0, a1, a2, a3, a4, a5, a6, a7, hst⟩ := lab_eight hl.st
  obtain ⟨c, hc⟩ : ∃ c, c = l.may := ⟨_, rfl⟩
  rw [← hc] at HC hm ⊢
  have hne : (c != 0) = true := by simp [hm]
  have hce : (c == 0) = false := by simp [hm]
  have HL : Hid (labCells l = #[B8 a0, B8 a1, B8 a2, B8 a3, B8 a4, B8 a5, B8 a6, B8 a7, .int .i64 l.k, .int .i64 l.m, .int .i64 l.b, .int .i64 l.i, .int .i64 l.e]) := Lib.hid (by unfold labCells; rw [hst]; rfl)
  unfold labV at HC ⊢
  rw [HL.out] at HC ⊢
  unfold B8 at HC ⊢
  clear hc hm hl
  go_enter Try.func14, Try.ntmps14
  go_wp2_with (go_at_call 24; refine (HC.out _).mono ?_; rintro e w1 ⟨rfl, hb1⟩; have HB1 := Lib.hid hb1; clear hb1)
  go_ret2
  exact ⟨rfl, ((Below.refl _ w).alloc (Nat.le_refl _) _).trans (HB1.out.mono (by rw [alloc_size]; omega))⟩
theorem number_u8 (u : UInt8) : leN u.toNat 1 = [u] := by
  show [UInt8.ofNat u.toNat] = [u]
  rw [UInt8.ofNat_toNat]
set_option maxRecDepth 100000 in
set_option maxHeartbeats 16000000 in
theorem refencode_ok (l : Lab) (hl : l.Wf) (hm : l.may = 0) (w : World) : Calls Try.prog 14 #[labV l] w fun e w' => ∃ u, e = .returned (.tuple #[u, .int .i64 0]) ∧ w'.ownsRow w.heap.size 5 1 u 31 (l.bytes.map B8) ∧ Below w.heap.size w w' := by
  have HC := Lib.hid (fun w => refmay_any l hl w)
  obtain ⟨a0, a1, a2, a3, a4, a5, a6, a7, hst⟩ := lab_eight hl.st
  have hf := may_fits hm
  obtain ⟨ku, hku⟩ := u8_of (n := l.k) (by omega) (by omega)
  obtain ⟨mu, hmu⟩ := u8_of (n := l.m) (by omega) (by omega)
  obtain ⟨iu, hiu⟩ := u8_of (n := l.i) (by omega) (by omega)
  obtain ⟨bn, hbn⟩ : ∃ n : Nat, l.b = (n : Int) := ⟨l.b.toNat, by omega⟩
  obtain ⟨en, hen⟩ : ∃ n : Nat, l.e = (n : Int) := ⟨l.e.toNat, by omega⟩
  rw [hm] at HC
  have HL : Hid (labCells l = #[.int .u8 (a0.toNat : Int), .int .u8 (a1.toNat : Int), .int .u8 (a2.toNat : Int), .int .u8 (a3.toNat : Int), .int .u8 (a4.toNat : Int), .int .u8 (a5.toNat : Int), .int .u8 (a6.toNat : Int), .int .u8 (a7.toNat : Int), .int .i64 (ku.toNat : Int), .int .i64 (mu.toNat : Int), .int .i64 (bn : Int), .int .i64 (iu.toNat : Int), .int .i64 (en : Int)]) := Lib.hid (by unfold labCells; rw [hst, hku, hmu, hiu, hbn, hen]; rfl)
  have HH : Hid (l.head = [67, 82, 78, 1, a0, a1, a2, a3, a4, a5, a6, a7] ++ leN ku.toNat 1 ++ leN mu.toNat 1 ++ leN bn 4 ++ leN iu.toNat 1 ++ leN en 8) := Lib.hid (by
    unfold Lab.head labMagic
    rw [hst, hku, hmu, hiu, hbn, hen, number_u8, number_u8, number_u8]
    simp only [Int.toNat_natCast, UInt8.ofNat_toNat]
    rfl)
  have HBL : Hid (l.bytes = l.head ++ leN (crcSum l.head) 4) := Lib.hid rfl
  have HEL : Hid (l.head.length = 27) := Lib.hid (l.head_length hl.st)
  unfold labV at HC ⊢
  rw [HL.out] at HC ⊢
  have HBN : Hid (bn ≤ 9223372036854775807 ∧ en ≤ 9223372036854775807 ∧ ku.toNat ≤ 9223372036854775807 ∧ mu.toNat ≤ 9223372036854775807 ∧ iu.toNat ≤ 9223372036854775807) := Lib.hid (by have := ku.toNat_lt; have := mu.toNat_lt; have := iu.toNat_lt; omega)
  clear hl hf hku hmu hiu hbn hen hst hm
  obtain ⟨i5, hi5, hz0, hz1, hz2⟩ := info_parts byteInfo
  go_enter Try.func14, Try.ntmps14
  go_wp2_with (go_at_call 24; refine (HC.out _).mono ?_; rintro e w1 ⟨rfl, hb1⟩; have HB1 := Lib.hid hb1; have HLB : Hid (Blk w1 w.heap.size 26 #[.int .u8 (a0.toNat : Int), .int .u8 (a1.toNat : Int), .int .u8 (a2.toNat : Int), .int .u8 (a3.toNat : Int), .int .u8 (a4.toNat : Int), .int .u8 (a5.toNat : Int), .int .u8 (a6.toNat : Int), .int .u8 (a7.toNat : Int), .int .i64 (ku.toNat : Int), .int .i64 (mu.toNat : Int), .int .i64 (bn : Int), .int .i64 (iu.toNat : Int), .int .i64 (en : Int)]) := Lib.hid ((Blk.new w _ _).below hb1 (by rw [alloc_size]; omega)); have hw1 := HLB.out.lt; clear hb1)
  have HW1 : Hid (Below w.heap.size w w1) := Lib.hid (((Below.refl _ w).alloc (Nat.le_refl _) _).trans (HB1.out.mono (by rw [alloc_size]; omega)))
  obtain ⟨N, hN⟩ : ∃ N, N = w1.heap.size := ⟨_, rfl⟩
  have HLI : Hid (∀ V, Below N w1 V → Blk V w.heap.size 26 #[.int .u8 (a0.toNat : Int), .int .u8 (a1.toNat : Int), .int .u8 (a2.toNat : Int), .int .u8 (a3.toNat : Int), .int .u8 (a4.toNat : Int), .int .u8 (a5.toNat : Int), .int .u8 (a6.toNat : Int), .int .u8 (a7.toNat : Int), .int .i64 (ku.toNat : Int), .int .i64 (mu.toNat : Int), .int .i64 (bn : Int), .int .i64 (iu.toNat : Int), .int .i64 (en : Int)]) := Lib.hid fun V h => HLB.out.below h (by omega)
  have hwN : w.heap.size < N := by omega
  clear HLB hw1
  go_loopw [5, 6] (fun s5 s6 wr => ∃ i : Nat, i ≤ 8 ∧ s6 = .int .i64 i ∧ (∃ a c, s5 = .slice a (4 + i) c) ∧ wr.ownsRow N 5 1 s5 (4 + i) (([67, 82, 78, 1] ++ [a0, a1, a2, a3, a4, a5, a6, a7].take i).map B8) ∧ Below N w1 wr) (fun _ s _ => 8 - (intOf s).toNat)
  case atStart => exact ⟨0, Nat.zero_le _, rfl, ⟨_, _, rfl⟩, World.ownsRow_lit w1 #[.int .u8 67, .int .u8 82, .int .u8 78, .int .u8 1] 4 (by omega) (by decide) rfl, (Below.refl _ _).alloc (by omega) _⟩
  case round =>
    obtain ⟨i, hi, rfl, ⟨e1, c1, rfl⟩, ho, hb⟩ := hrel
    have HO := Lib.hid ho
    have HB := Lib.hid hb
    have hsz := hb.size
    have K := Lib.hid (HLI.out _ hb)
    have hkl := K.out.lt
    clear ho hb
    by_cases hlt : i < 8
    · obtain rfl | rfl | rfl | rfl | rfl | rfl | rfl | rfl : i = 0 ∨ i = 1 ∨ i = 2 ∨ i = 3 ∨ i = 4 ∨ i = 5 ∨ i = 6 ∨ i = 7 := by omega
      · have hc : wr.cell? ⟨w.heap.size, 0, none⟩ = some (.int .u8 (a0.toNat : Int)) := K.out.cell 0
        go_wp2_with (at_builtin; go_loud (refine wpList_append_any _ rfl _ _ 33 rfl N 5 i5 _ 1 1 Try.underlying33 hi5 hz0 hz1 hz2 rfl (by omega) _ (4 + 0) _ rfl (HO.out.alloc _) (wr.heap.size + 1) (some ⟨wr.heap.size, 0, none⟩) 1 1 [.int .u8 (a0.toNat : Int)] rfl (reads_blk (t := 5) (blk_last _ _ _ _ rfl) (by omega) rfl) (by intro u hu; simp at hu; subst hu; rfl) (by decide) (by decide) (by rw [alloc_size]; omega) ?_); intro v1 w2 hown1 hg1 hat1; obtain ⟨e2, c2, hvs, _⟩ := own_shape hown1; subst hvs; have HOWN := Lib.hid hown1; have HB3 := Lib.hid ((HB.out.alloc (by omega) _).grown hg1 (by rw [alloc_size]; omega) (fun i hi => (HO.out.lt i hi).1)); clear hown1 hg1 hat1)
        go_roundw
        case rel => exact ⟨1, by omega, by go_num, ⟨_, _, rfl⟩, HOWN.out, HB3.out⟩
        case measure => first | (simp [intOf]; done) | (simp [intOf]; omega)
      · have hc : wr.cell? ⟨w.heap.size, 1, none⟩ = some (.int .u8 (a1.toNat : Int)) := K.out.cell 1
        go_wp2_with (at_builtin; go_loud (refine wpList_append_any _ rfl _ _ 33 rfl N 5 i5 _ 1 1 Try.underlying33 hi5 hz0 hz1 hz2 rfl (by omega) _ (4 + 1) _ rfl (HO.out.alloc _) (wr.heap.size + 1) (some ⟨wr.heap.size, 0, none⟩) 1 1 [.int .u8 (a1.toNat : Int)] rfl (reads_blk (t := 5) (blk_last _ _ _ _ rfl) (by omega) rfl) (by intro u hu; simp at hu; subst hu; rfl) (by decide) (by decide) (by rw [alloc_size]; omega) ?_); intro v1 w2 hown1 hg1 hat1; obtain ⟨e2, c2, hvs, _⟩ := own_shape hown1; subst hvs; have HOWN := Lib.hid hown1; have HB3 := Lib.hid ((HB.out.alloc (by omega) _).grown hg1 (by rw [alloc_size]; omega) (fun i hi => (HO.out.lt i hi).1)); clear hown1 hg1 hat1)
        go_roundw
        case rel => exact ⟨2, by omega, by go_num, ⟨_, _, rfl⟩, HOWN.out, HB3.out⟩
        case measure => first | (simp [intOf]; done) | (simp [intOf]; omega)
      · have hc : wr.cell? ⟨w.heap.size, 2, none⟩ = some (.int .u8 (a2.toNat : Int)) := K.out.cell 2
        go_wp2_with (at_builtin; go_loud (refine wpList_append_any _ rfl _ _ 33 rfl N 5 i5 _ 1 1 Try.underlying33 hi5 hz0 hz1 hz2 rfl (by omega) _ (4 + 2) _ rfl (HO.out.alloc _) (wr.heap.size + 1) (some ⟨wr.heap.size, 0, none⟩) 1 1 [.int .u8 (a2.toNat : Int)] rfl (reads_blk (t := 5) (blk_last _ _ _ _ rfl) (by omega) rfl) (by intro u hu; simp at hu; subst hu; rfl) (by decide) (by decide) (by rw [alloc_size]; omega) ?_); intro v1 w2 hown1 hg1 hat1; obtain ⟨e2, c2, hvs, _⟩ := own_shape hown1; subst hvs; have HOWN := Lib.hid hown1; have HB3 := Lib.hid ((HB.out.alloc (by omega) _).grown hg1 (by rw [alloc_size]; omega) (fun i hi => (HO.out.lt i hi).1)); clear hown1 hg1 hat1)
        go_roundw
        case rel => exact ⟨3, by omega, by go_num, ⟨_, _, rfl⟩, HOWN.out, HB3.out⟩
        case measure => first | (simp [intOf]; done) | (simp [intOf]; omega)
      · have hc : wr.cell? ⟨w.heap.size, 3, none⟩ = some (.int .u8 (a3.toNat : Int)) := K.out.cell 3
        go_wp2_with (at_builtin; go_loud (refine wpList_append_any _ rfl _ _ 33 rfl N 5 i5 _ 1 1 Try.underlying33 hi5 hz0 hz1 hz2 rfl (by omega) _ (4 + 3) _ rfl (HO.out.alloc _) (wr.heap.size + 1) (some ⟨wr.heap.size, 0, none⟩) 1 1 [.int .u8 (a3.toNat : Int)] rfl (reads_blk (t := 5) (blk_last _ _ _ _ rfl) (by omega) rfl) (by intro u hu; simp at hu; subst hu; rfl) (by decide) (by decide) (by rw [alloc_size]; omega) ?_); intro v1 w2 hown1 hg1 hat1; obtain ⟨e2, c2, hvs, _⟩ := own_shape hown1; subst hvs; have HOWN := Lib.hid hown1; have HB3 := Lib.hid ((HB.out.alloc (by omega) _).grown hg1 (by rw [alloc_size]; omega) (fun i hi => (HO.out.lt i hi).1)); clear hown1 hg1 hat1)
        go_roundw
        case rel => exact ⟨4, by omega, by go_num, ⟨_, _, rfl⟩, HOWN.out, HB3.out⟩
        case measure => first | (simp [intOf]; done) | (simp [intOf]; omega)
      · have hc : wr.cell? ⟨w.heap.size, 4, none⟩ = some (.int .u8 (a4.toNat : Int)) := K.out.cell 4
        go_wp2_with (at_builtin; go_loud (refine wpList_append_any _ rfl _ _ 33 rfl N 5 i5 _ 1 1 Try.underlying33 hi5 hz0 hz1 hz2 rfl (by omega) _ (4 + 4) _ rfl (HO.out.alloc _) (wr.heap.size + 1) (some ⟨wr.heap.size, 0, none⟩) 1 1 [.int .u8 (a4.toNat : Int)] rfl (reads_blk (t := 5) (blk_last _ _ _ _ rfl) (by omega) rfl) (by intro u hu; simp at hu; subst hu; rfl) (by decide) (by decide) (by rw [alloc_size]; omega) ?_); intro v1 w2 hown1 hg1 hat1; obtain ⟨e2, c2, hvs, _⟩ := own_shape hown1; subst hvs; have HOWN := Lib.hid hown1; have HB3 := Lib.hid ((HB.out.alloc (by omega) _).grown hg1 (by rw [alloc_size]; omega) (fun i hi => (HO.out.lt i hi).1)); clear hown1 hg1 hat1)
        go_roundw
        case rel => exact ⟨5, by omega, by go_num, ⟨_, _, rfl⟩, HOWN.out, HB3.out⟩
        case measure => first | (simp [intOf]; done) | (simp [intOf]; omega)
      · have hc : wr.cell? ⟨w.heap.size, 5, none⟩ = some (.int .u8 (a5.toNat : Int)) := K.out.cell 5
        go_wp2_with (at_builtin; go_loud (refine wpList_append_any _ rfl _ _ 33 rfl N 5 i5 _ 1 1 Try.underlying33 hi5 hz0 hz1 hz2 rfl (by omega) _ (4 + 5) _ rfl (HO.out.alloc _) (wr.heap.size + 1) (some ⟨wr.heap.size, 0, none⟩) 1 1 [.int .u8 (a5.toNat : Int)] rfl (reads_blk (t := 5) (blk_last _ _ _ _ rfl) (by omega) rfl) (by intro u hu; simp at hu; subst hu; rfl) (by decide) (by decide) (by rw [alloc_size]; omega) ?_); intro v1 w2 hown1 hg1 hat1; obtain ⟨e2, c2, hvs, _⟩ := own_shape hown1; subst hvs; have HOWN := Lib.hid hown1; have HB3 := Lib.hid ((HB.out.alloc (by omega) _).grown hg1 (by rw [alloc_size]; omega) (fun i hi => (HO.out.lt i hi).1)); clear hown1 hg1 hat1)
        go_roundw
        case rel => exact ⟨6, by omega, by go_num, ⟨_, _, rfl⟩, HOWN.out, HB3.out⟩
        case measure => first | (simp [intOf]; done) | (simp [intOf]; omega)
      · have hc : wr.cell? ⟨w.heap.size, 6, none⟩ = some (.int .u8 (a6.toNat : Int)) := K.out.cell 6
        go_wp2_with (at_builtin; go_loud (refine wpList_append_any _ rfl _ _ 33 rfl N 5 i5 _ 1 1 Try.underlying33 hi5 hz0 hz1 hz2 rfl (by omega) _ (4 + 6) _ rfl (HO.out.alloc _) (wr.heap.size + 1) (some ⟨wr.heap.size, 0, none⟩) 1 1 [.int .u8 (a6.toNat : Int)] rfl (reads_blk (t := 5) (blk_last _ _ _ _ rfl) (by omega) rfl) (by intro u hu; simp at hu; subst hu; rfl) (by decide) (by decide) (by rw [alloc_size]; omega) ?_); intro v1 w2 hown1 hg1 hat1; obtain ⟨e2, c2, hvs, _⟩ := own_shape hown1; subst hvs; have HOWN := Lib.hid hown1; have HB3 := Lib.hid ((HB.out.alloc (by omega) _).grown hg1 (by rw [alloc_size]; omega) (fun i hi => (HO.out.lt i hi).1)); clear hown1 hg1 hat1)
        go_roundw
        case rel => exact ⟨7, by omega, by go_num, ⟨_, _, rfl⟩, HOWN.out, HB3.out⟩
        case measure => first | (simp [intOf]; done) | (simp [intOf]; omega)
      · have hc : wr.cell? ⟨w.heap.size, 7, none⟩ = some (.int .u8 (a7.toNat : Int)) := K.out.cell 7
        go_wp2_with (at_builtin; go_loud (refine wpList_append_any _ rfl _ _ 33 rfl N 5 i5 _ 1 1 Try.underlying33 hi5 hz0 hz1 hz2 rfl (by omega) _ (4 + 7) _ rfl (HO.out.alloc _) (wr.heap.size + 1) (some ⟨wr.heap.size, 0, none⟩) 1 1 [.int .u8 (a7.toNat : Int)] rfl (reads_blk (t := 5) (blk_last _ _ _ _ rfl) (by omega) rfl) (by intro u hu; simp at hu; subst hu; rfl) (by decide) (by decide) (by rw [alloc_size]; omega) ?_); intro v1 w2 hown1 hg1 hat1; obtain ⟨e2, c2, hvs, _⟩ := own_shape hown1; subst hvs; have HOWN := Lib.hid hown1; have HB3 := Lib.hid ((HB.out.alloc (by omega) _).grown hg1 (by rw [alloc_size]; omega) (fun i hi => (HO.out.lt i hi).1)); clear hown1 hg1 hat1)
        go_roundw
        case rel => exact ⟨8, by omega, by go_num, ⟨_, _, rfl⟩, HOWN.out, HB3.out⟩
        case measure => first | (simp [intOf]; done) | (simp [intOf]; omega)
    · obtain rfl : i = 8 := by omega
      have HO0 : Hid (wr.ownsRow N 5 1 (.slice e1 12 c1) 12 (([67, 82, 78, 1, a0, a1, a2, a3, a4, a5, a6, a7] : List UInt8).map B8)) := HO
      have HB0 := HB
      have h0 := hsz
      clear HO HB hsz
      have hc : wr.cell? ⟨w.heap.size, 8, none⟩ = some (.int .i64 (ku.toNat : Int)) := K.out.cell 8
      go_wp2_with fail
      refine (refnumber_any ku.toNat 1 HBN.out.2.2.1 (by decide) _).mono ?_
      rintro e x1 ⟨y1, rfl, hno1, hnb1⟩
      obtain ⟨f1, g1, rfl, _⟩ := own_shape hno1
      have HN1 := Lib.hid hno1
      have HP1 : Hid (x1.ownsRow N 5 1 (.slice e1 12 c1) 12 (([67, 82, 78, 1, a0, a1, a2, a3, a4, a5, a6, a7] : List UInt8).map B8)) := Lib.hid (ownsRow_below HO0.out hnb1)
      have HQ1 : Hid (Below N w1 x1) := Lib.hid (HB0.out.trans (hnb1.mono (by omega)))
      have hx1 := HQ1.out.size
      clear hno1 hnb1
      go_wp2_with (at_builtin; go_loud (refine wpList_append_any _ rfl _ _ 33 rfl N 5 i5 _ 1 1 Try.underlying33 hi5 hz0 hz1 hz2 rfl (by omega) (.slice e1 12 c1) 12 _ rfl HP1.out x1.heap.size f1 1 g1 ((leN ku.toNat 1).map B8) rfl (Reads.of_own HN1.out) (by intro u hu; simp only [List.mem_map] at hu; obtain ⟨b, _, rfl⟩ := hu; rfl) (by decide) (by decide) (by omega) ?_); intro u1 v1 hown hg hat; obtain ⟨e2, c2, hvs, _⟩ := own_shape hown; subst hvs; rw [← List.map_append] at hown; have HO1 := Lib.hid hown; have HB1 := Lib.hid (HQ1.out.grown hg (by omega) (fun i hi => (HP1.out.lt i hi).1)); clear hown hg hat; have K1 := Lib.hid (HLI.out _ HB1.out); have hkl1 := K1.out.lt; have h1 := HB1.out.size; have hc1 : v1.cell? ⟨w.heap.size, 9, none⟩ = some (.int .i64 (mu.toNat : Int)) := K1.out.cell 9)
      refine (refnumber_any mu.toNat 1 HBN.out.2.2.2.1 (by decide) _).mono ?_
      rintro e x2 ⟨y2, rfl, hno2, hnb2⟩
      obtain ⟨f2, g2, rfl, _⟩ := own_shape hno2
      have HN2 := Lib.hid hno2
      have HP2 : Hid (x2.ownsRow N 5 1 (.slice e2 13 c2) 13 (([67, 82, 78, 1, a0, a1, a2, a3, a4, a5, a6, a7] ++ leN ku.toNat 1 : List UInt8).map B8)) := Lib.hid (ownsRow_below HO1.out hnb2)
      have HQ2 : Hid (Below N w1 x2) := Lib.hid (HB1.out.trans (hnb2.mono (by omega)))
      have hx2 := HQ2.out.size
      clear hno2 hnb2
      go_wp2_with (at_builtin; go_loud (refine wpList_append_any _ rfl _ _ 33 rfl N 5 i5 _ 1 1 Try.underlying33 hi5 hz0 hz1 hz2 rfl (by omega) (.slice e2 13 c2) 13 _ rfl HP2.out x2.heap.size f2 1 g2 ((leN mu.toNat 1).map B8) rfl (Reads.of_own HN2.out) (by intro u hu; simp only [List.mem_map] at hu; obtain ⟨b, _, rfl⟩ := hu; rfl) (by decide) (by decide) (by omega) ?_); intro u2 v2 hown hg hat; obtain ⟨e3, c3, hvs, _⟩ := own_shape hown; subst hvs; rw [← List.map_append] at hown; have HO2 := Lib.hid hown; have HB2 := Lib.hid (HQ2.out.grown hg (by omega) (fun i hi => (HP2.out.lt i hi).1)); clear hown hg hat; have K2 := Lib.hid (HLI.out _ HB2.out); have hkl2 := K2.out.lt; have h2 := HB2.out.size; have hc2 : v2.cell? ⟨w.heap.size, 10, none⟩ = some (.int .i64 (bn : Int)) := K2.out.cell 10)
      refine (refnumber_any bn 4 HBN.out.1 (by decide) _).mono ?_
      rintro e x3 ⟨y3, rfl, hno3, hnb3⟩
      obtain ⟨f3, g3, rfl, _⟩ := own_shape hno3
      have HN3 := Lib.hid hno3
      have HP3 : Hid (x3.ownsRow N 5 1 (.slice e3 14 c3) 14 (([67, 82, 78, 1, a0, a1, a2, a3, a4, a5, a6, a7] ++ leN ku.toNat 1 ++ leN mu.toNat 1 : List UInt8).map B8)) := Lib.hid (ownsRow_below HO2.out hnb3)
      have HQ3 : Hid (Below N w1 x3) := Lib.hid (HB2.out.trans (hnb3.mono (by omega)))
      have hx3 := HQ3.out.size
      clear hno3 hnb3
      go_wp2_with (at_builtin; go_loud (refine wpList_append_any _ rfl _ _ 33 rfl N 5 i5 _ 1 1 Try.underlying33 hi5 hz0 hz1 hz2 rfl (by omega) (.slice e3 14 c3) 14 _ rfl HP3.out x3.heap.size f3 4 g3 ((leN bn 4).map B8) rfl (Reads.of_own HN3.out) (by intro u hu; simp only [List.mem_map] at hu; obtain ⟨b, _, rfl⟩ := hu; rfl) (by decide) (by decide) (by omega) ?_); intro u3 v3 hown hg hat; obtain ⟨e4, c4, hvs, _⟩ := own_shape hown; subst hvs; rw [← List.map_append] at hown; have HO3 := Lib.hid hown; have HB3 := Lib.hid (HQ3.out.grown hg (by omega) (fun i hi => (HP3.out.lt i hi).1)); clear hown hg hat; have K3 := Lib.hid (HLI.out _ HB3.out); have hkl3 := K3.out.lt; have h3 := HB3.out.size; have hc3 : v3.cell? ⟨w.heap.size, 11, none⟩ = some (.int .i64 (iu.toNat : Int)) := K3.out.cell 11)
      refine (refnumber_any iu.toNat 1 HBN.out.2.2.2.2 (by decide) _).mono ?_
      rintro e x4 ⟨y4, rfl, hno4, hnb4⟩
      obtain ⟨f4, g4, rfl, _⟩ := own_shape hno4
      have HN4 := Lib.hid hno4
      have HP4 : Hid (x4.ownsRow N 5 1 (.slice e4 18 c4) 18 (([67, 82, 78, 1, a0, a1, a2, a3, a4, a5, a6, a7] ++ leN ku.toNat 1 ++ leN mu.toNat 1 ++ leN bn 4 : List UInt8).map B8)) := Lib.hid (ownsRow_below HO3.out hnb4)
      have HQ4 : Hid (Below N w1 x4) := Lib.hid (HB3.out.trans (hnb4.mono (by omega)))
      have hx4 := HQ4.out.size
      clear hno4 hnb4
      go_wp2_with (at_builtin; go_loud (refine wpList_append_any _ rfl _ _ 33 rfl N 5 i5 _ 1 1 Try.underlying33 hi5 hz0 hz1 hz2 rfl (by omega) (.slice e4 18 c4) 18 _ rfl HP4.out x4.heap.size f4 1 g4 ((leN iu.toNat 1).map B8) rfl (Reads.of_own HN4.out) (by intro u hu; simp only [List.mem_map] at hu; obtain ⟨b, _, rfl⟩ := hu; rfl) (by decide) (by decide) (by omega) ?_); intro u4 v4 hown hg hat; obtain ⟨e5, c5, hvs, _⟩ := own_shape hown; subst hvs; rw [← List.map_append] at hown; have HO4 := Lib.hid hown; have HB4 := Lib.hid (HQ4.out.grown hg (by omega) (fun i hi => (HP4.out.lt i hi).1)); clear hown hg hat; have K4 := Lib.hid (HLI.out _ HB4.out); have hkl4 := K4.out.lt; have h4 := HB4.out.size; have hc4 : v4.cell? ⟨w.heap.size, 12, none⟩ = some (.int .i64 (en : Int)) := K4.out.cell 12)
      refine (refnumber_any en 8 HBN.out.2.1 (by decide) _).mono ?_
      rintro e x5 ⟨y5, rfl, hno5, hnb5⟩
      obtain ⟨f5, g5, rfl, _⟩ := own_shape hno5
      have HN5 := Lib.hid hno5
      have HP5 : Hid (x5.ownsRow N 5 1 (.slice e5 19 c5) 19 (([67, 82, 78, 1, a0, a1, a2, a3, a4, a5, a6, a7] ++ leN ku.toNat 1 ++ leN mu.toNat 1 ++ leN bn 4 ++ leN iu.toNat 1 : List UInt8).map B8)) := Lib.hid (ownsRow_below HO4.out hnb5)
      have HQ5 : Hid (Below N w1 x5) := Lib.hid (HB4.out.trans (hnb5.mono (by omega)))
      have hx5 := HQ5.out.size
      clear hno5 hnb5
      go_wp2_with (at_builtin; go_loud (refine wpList_append_any _ rfl _ _ 33 rfl N 5 i5 _ 1 1 Try.underlying33 hi5 hz0 hz1 hz2 rfl (by omega) (.slice e5 19 c5) 19 _ rfl HP5.out x5.heap.size f5 8 g5 ((leN en 8).map B8) rfl (Reads.of_own HN5.out) (by intro u hu; simp only [List.mem_map] at hu; obtain ⟨b, _, rfl⟩ := hu; rfl) (by decide) (by decide) (by omega) ?_); intro u5 v5 hown hg hat; obtain ⟨e6, c6, hvs, _⟩ := own_shape hown; subst hvs; rw [← List.map_append] at hown; have HO5 := Lib.hid hown; have HB5 := Lib.hid (HQ5.out.grown hg (by omega) (fun i hi => (HP5.out.lt i hi).1)); clear hown hg hat; have K5 := Lib.hid (HLI.out _ HB5.out); have hkl5 := K5.out.lt; have h5 := HB5.out.size)
      rw [← HH.out] at HO5
      refine (refsum_any e6 27 c6 l.head v5 _ (Reads.of_own HO5.out) (Nat.le_refl _) (by omega)).mono ?_
      rintro e x6 ⟨rfl, hb6⟩
      have HP6 : Hid (x6.ownsRow N 5 1 (.slice e6 27 c6) 27 (l.head.map B8)) := Lib.hid (ownsRow_below HO5.out hb6)
      have HQ6 : Hid (Below N w1 x6) := Lib.hid (HB5.out.trans (hb6.mono (by omega)))
      have hx6 := HQ6.out.size
      obtain ⟨q, hq⟩ : ∃ q, q = crcSum l.head := ⟨_, rfl⟩
      have hql : (q : Int) < 4294967296 := by have := crcSum_lt l.head; rw [hq]; omega
      have hq0 : (0 : Int) ≤ (q : Int) := Int.natCast_nonneg _
      rw [← hq] at HBL ⊢
      clear hb6 hq
      go_wp2_with fail
      refine (refnumber_any q 4 (by omega) (by decide) _).mono ?_
      rintro e x7 ⟨y7, rfl, hno7, hnb7⟩
      obtain ⟨f7, g7, rfl, _⟩ := own_shape hno7
      have HN7 := Lib.hid hno7
      have HP7 : Hid (x7.ownsRow N 5 1 (.slice e6 27 c6) 27 (l.head.map B8)) := Lib.hid (ownsRow_below HP6.out hnb7)
      have HQ7 : Hid (Below N w1 x7) := Lib.hid (HQ6.out.trans (hnb7.mono (by omega)))
      have hx7 := HQ7.out.size
      clear hno7 hnb7
      go_wp2_with (at_builtin; go_loud (refine wpList_append_any _ rfl _ _ 33 rfl N 5 i5 _ 1 1 Try.underlying33 hi5 hz0 hz1 hz2 rfl (by omega) (.slice e6 27 c6) 27 _ rfl HP7.out x7.heap.size f7 4 g7 ((leN q 4).map B8) rfl (Reads.of_own HN7.out) (by intro u hu; simp only [List.mem_map] at hu; obtain ⟨b, _, rfl⟩ := hu; rfl) (by decide) (by decide) (by omega) ?_); intro u7 v7 hown hg hat; obtain ⟨e8, c8, hvs, _⟩ := own_shape hown; subst hvs; rw [← List.map_append, ← HBL.out] at hown; have HO7 := Lib.hid hown; have HB7 := Lib.hid (HQ7.out.grown hg (by omega) (fun i hi => (HP7.out.lt i hi).1)); clear hown hg hat)
      go_ret2
      exact ⟨_, rfl, ownsRow_base_a HO7.out (by omega), HW1.out.trans (HB7.out.mono (by omega))⟩
end Go.Proofs.Ytdiaihpilniikaa
