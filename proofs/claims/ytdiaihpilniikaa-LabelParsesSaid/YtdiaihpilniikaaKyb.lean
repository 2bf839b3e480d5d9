/- The document's bits of bytes, in order. -/
import Derived.Test.YtdiaihpilniikaaKya
import Derived.Test.YtdiaihpilniikaaKd
namespace Go.Proofs.Ytdiaihpilniikaa
open Go.RowKit Go.Maps

theorem rowB_one (f : Nat → Bool) (n : Nat) : ∀ u ∈ rowB f n, u.oneCell' = true := by
  intro u hu; unfold rowB at hu; simp only [List.mem_map] at hu; obtain ⟨j, _, rfl⟩ := hu; rfl
set_option maxRecDepth 100000 in
set_option maxHeartbeats 4000000 in
theorem bits_any (A : Option Addr) (n c : Nat) (bs : List UInt8) (w : World) (B : Nat) (hx : Reads w B 1 A n (bs.map B8)) (hB : B ≤ w.heap.size) (hbig : n ≤ 1099511627776) :
    Calls Try.prog 61 #[.slice A n c] w fun e w' => ∃ u, e = .returned u ∧ w'.ownsRow w.heap.size 3 1 u (8 * n) (rowB (msgBit bs) (8 * n)) ∧ Below w.heap.size w w' := by
  have HX := Lib.hid hx
  have hlen : bs.length = n := by have := hx.1; simpa using this
  obtain ⟨i3, hi3, hz0, hz1, hz2⟩ := info_parts intInfo
  have HM : Hid (∀ k, k ≤ 8 * n → k + 1 ≤ maxLen ∧ (k + 1) * 8 ≤ 140737488355328) := Lib.hid fun k hk => ⟨by simp only [maxLen]; omega, by omega⟩
  have HBIG := Lib.hid hbig
  clear hx
  go_enter Try.func61, Try.ntmps61
  go_wp2_with fail
  go_loopw [3, 4, 5] (fun s3 s4 _ wr => ∃ i : Nat, i ≤ n ∧ s4 = .int .i64 i ∧ (∃ a c, s3 = .slice a (8 * i) c) ∧ wr.ownsRow w.heap.size 3 1 s3 (8 * i) (rowB (msgBit bs) (8 * i)) ∧ Below w.heap.size w wr) (fun _ s _ _ => n - (intOf s).toNat)
  case atStart => exact ⟨0, Nat.zero_le _, rfl, ⟨_, _, rfl⟩, World.ownsRow_nil _ _ _ _, Below.refl _ _⟩
  case round =>
    obtain ⟨i, hi, rfl, ⟨a1, c1, rfl⟩, ho, hb⟩ := hrel
    have HO1 := Lib.hid ho
    have HB1 := Lib.hid hb
    clear ho hb
    have hi0 : (0 : Int) ≤ (i : Int) := Int.natCast_nonneg _
    by_cases hlt : i < n
    · have hi1 : (i : Int) < (n : Int) := by omega
      go_wp2_with fail
      go_loopw [3, 5] (fun s3 s5 wr => ∃ k : Nat, k ≤ 8 ∧ s5 = .int .i64 k ∧ (∃ a c, s3 = .slice a (8 * i + k) c) ∧ wr.ownsRow w.heap.size 3 1 s3 (8 * i + k) (rowB (msgBit bs) (8 * i + k)) ∧ Below w.heap.size w wr) (fun _ s _ => 8 - (intOf s).toNat)
      case atStart => exact ⟨0, Nat.zero_le _, rfl, ⟨_, _, rfl⟩, HO1.out, HB1.out⟩
      case round =>
        obtain ⟨k, hk, rfl, ⟨a2, c2, rfl⟩, ho, hb⟩ := hrel
        have HO2 := Lib.hid ho
        have HB2 := Lib.hid hb
        have hsz := hb.size
        clear ho hb
        by_cases hk8 : k < 8
        · have HR : Hid (Reads wr B 1 A n (bs.map B8)) := Lib.hid (HX.out.below (HB2.out.mono hB))
          obtain ⟨ad, u, rfl, _, hu, hc⟩ := HR.out.at_ hlt
          obtain ⟨x, hx⟩ : ∃ x, bs[i]? = some x := ⟨_, List.getElem?_eq_getElem (by omega)⟩
          have hue : u = .int .u8 (x.toNat : Int) := by
            rw [List.getElem?_map, hx] at hu; exact (Option.some.inj hu).symm
          subst hue
          obtain ⟨y, hy⟩ : ∃ y : Nat, y = x.toNat := ⟨_, rfl⟩
          have hy2 : y < 256 := by rw [hy]; exact x.toNat_lt
          have hy1 : (y : Int) < 256 := by omega
          have hy0 : (0 : Int) ≤ (y : Int) := Int.natCast_nonneg _
          have HK : Hid (∀ k, k < 8 → rowB (msgBit bs) (8 * i + k) ++ [bV (y.testBit k)] = rowB (msgBit bs) (8 * i + (k + 1))) := Lib.hid fun k hk => by
            rw [show 8 * i + (k + 1) = 8 * i + k + 1 by omega, rowB_succ, msg_at bs hx hk, hy]
          rw [← hy] at hc
          have HMk := Lib.hid (HM.out (8 * i + k) (by omega))
          clear hu hx hy
          obtain rfl | rfl | rfl | rfl | rfl | rfl | rfl | rfl : k = 0 ∨ k = 1 ∨ k = 2 ∨ k = 3 ∨ k = 4 ∨ k = 5 ∨ k = 6 ∨ k = 7 := by omega
          · obtain ⟨z, hz⟩ : ∃ z : Nat, z = bitN (y.testBit 0) := ⟨_, rfl⟩
            have hand : bits .and .i64 (y : Int) 1 = (z : Int) := by rw [hz]; have := bit_val y 0 hy2; rwa [Nat.pow_zero, Nat.div_one] at this
            have HZ : Hid (Value.int .i64 (z : Int) = bV (y.testBit 0)) := Lib.hid (by rw [hz]; rfl)
            clear hz
            go_wp2_with (at_builtin; go_loud (refine wpList_append_any _ rfl _ _ 43 rfl w.heap.size 3 i3 _ 1 8 Try.underlying43 hi3 hz0 hz1 hz2 rfl (by omega) _ (8 * i + 0) _ rfl (HO2.out.alloc _) (wr.heap.size + 1) (some ⟨wr.heap.size, 0, none⟩) 1 1 [.int .i64 (z : Int)] rfl (reads_blk (t := 3) (blk_last _ _ _ _ rfl) (by omega) rfl) (by intro u hu; simp at hu; subst hu; rfl) HMk.out.1 HMk.out.2 (by rw [alloc_size]; omega) ?_); intro v1 w1 hown1 hg1 hat1; obtain ⟨a2, c2, hvs, _⟩ := own_shape hown1; subst hvs; have HOWN := Lib.hid hown1; have HB3 := Lib.hid ((HB2.out.alloc hsz _).grown hg1 (by rw [alloc_size]; omega) (fun i hi => (HO2.out.lt i hi).1)); clear hown1 hg1 hat1)
            go_roundw
            case rel =>
              refine ⟨1, by omega, by go_num, ⟨_, _, rfl⟩, ?_, HB3.out⟩
              have := HOWN.out
              rw [HZ.out, HK.out 0 (by omega)] at this
              exact this
            case measure => first | (simp [intOf]; done) | (simp [intOf]; omega)
          · obtain ⟨z, hz⟩ : ∃ z : Nat, z = bitN (y.testBit 1) := ⟨_, rfl⟩
            have hand : bits .and .i64 ((y : Int) / 2) 1 = (z : Int) := by rw [hz]; exact bit_val y 1 hy2
            have HZ : Hid (Value.int .i64 (z : Int) = bV (y.testBit 1)) := Lib.hid (by rw [hz]; rfl)
            clear hz
            go_wp2_with (at_builtin; go_loud (refine wpList_append_any _ rfl _ _ 43 rfl w.heap.size 3 i3 _ 1 8 Try.underlying43 hi3 hz0 hz1 hz2 rfl (by omega) _ (8 * i + 1) _ rfl (HO2.out.alloc _) (wr.heap.size + 1) (some ⟨wr.heap.size, 0, none⟩) 1 1 [.int .i64 (z : Int)] rfl (reads_blk (t := 3) (blk_last _ _ _ _ rfl) (by omega) rfl) (by intro u hu; simp at hu; subst hu; rfl) HMk.out.1 HMk.out.2 (by rw [alloc_size]; omega) ?_); intro v1 w1 hown1 hg1 hat1; obtain ⟨a2, c2, hvs, _⟩ := own_shape hown1; subst hvs; have HOWN := Lib.hid hown1; have HB3 := Lib.hid ((HB2.out.alloc hsz _).grown hg1 (by rw [alloc_size]; omega) (fun i hi => (HO2.out.lt i hi).1)); clear hown1 hg1 hat1)
            go_roundw
            case rel =>
              refine ⟨2, by omega, by go_num, ⟨_, _, rfl⟩, ?_, HB3.out⟩
              have := HOWN.out
              rw [HZ.out, HK.out 1 (by omega)] at this
              exact this
            case measure => first | (simp [intOf]; done) | (simp [intOf]; omega)
          · obtain ⟨z, hz⟩ : ∃ z : Nat, z = bitN (y.testBit 2) := ⟨_, rfl⟩
            have hand : bits .and .i64 ((y : Int) / 4) 1 = (z : Int) := by rw [hz]; exact bit_val y 2 hy2
            have HZ : Hid (Value.int .i64 (z : Int) = bV (y.testBit 2)) := Lib.hid (by rw [hz]; rfl)
            clear hz
            go_wp2_with (at_builtin; go_loud (refine wpList_append_any _ rfl _ _ 43 rfl w.heap.size 3 i3 _ 1 8 Try.underlying43 hi3 hz0 hz1 hz2 rfl (by omega) _ (8 * i + 2) _ rfl (HO2.out.alloc _) (wr.heap.size + 1) (some ⟨wr.heap.size, 0, none⟩) 1 1 [.int .i64 (z : Int)] rfl (reads_blk (t := 3) (blk_last _ _ _ _ rfl) (by omega) rfl) (by intro u hu; simp at hu; subst hu; rfl) HMk.out.1 HMk.out.2 (by rw [alloc_size]; omega) ?_); intro v1 w1 hown1 hg1 hat1; obtain ⟨a2, c2, hvs, _⟩ := own_shape hown1; subst hvs; have HOWN := Lib.hid hown1; have HB3 := Lib.hid ((HB2.out.alloc hsz _).grown hg1 (by rw [alloc_size]; omega) (fun i hi => (HO2.out.lt i hi).1)); clear hown1 hg1 hat1)
            go_roundw
            case rel =>
              refine ⟨3, by omega, by go_num, ⟨_, _, rfl⟩, ?_, HB3.out⟩
              have := HOWN.out
              rw [HZ.out, HK.out 2 (by omega)] at this
              exact this
            case measure => first | (simp [intOf]; done) | (simp [intOf]; omega)
          · obtain ⟨z, hz⟩ : ∃ z : Nat, z = bitN (y.testBit 3) := ⟨_, rfl⟩
            have hand : bits .and .i64 ((y : Int) / 8) 1 = (z : Int) := by rw [hz]; exact bit_val y 3 hy2
            have HZ : Hid (Value.int .i64 (z : Int) = bV (y.testBit 3)) := Lib.hid (by rw [hz]; rfl)
            clear hz
            go_wp2_with (at_builtin; go_loud (refine wpList_append_any _ rfl _ _ 43 rfl w.heap.size 3 i3 _ 1 8 Try.underlying43 hi3 hz0 hz1 hz2 rfl (by omega) _ (8 * i + 3) _ rfl (HO2.out.alloc _) (wr.heap.size + 1) (some ⟨wr.heap.size, 0, none⟩) 1 1 [.int .i64 (z : Int)] rfl (reads_blk (t := 3) (blk_last _ _ _ _ rfl) (by omega) rfl) (by intro u hu; simp at hu; subst hu; rfl) HMk.out.1 HMk.out.2 (by rw [alloc_size]; omega) ?_); intro v1 w1 hown1 hg1 hat1; obtain ⟨a2, c2, hvs, _⟩ := own_shape hown1; subst hvs; have HOWN := Lib.hid hown1; have HB3 := Lib.hid ((HB2.out.alloc hsz _).grown hg1 (by rw [alloc_size]; omega) (fun i hi => (HO2.out.lt i hi).1)); clear hown1 hg1 hat1)
            go_roundw
            case rel =>
              refine ⟨4, by omega, by go_num, ⟨_, _, rfl⟩, ?_, HB3.out⟩
              have := HOWN.out
              rw [HZ.out, HK.out 3 (by omega)] at this
              exact this
            case measure => first | (simp [intOf]; done) | (simp [intOf]; omega)
          · obtain ⟨z, hz⟩ : ∃ z : Nat, z = bitN (y.testBit 4) := ⟨_, rfl⟩
            have hand : bits .and .i64 ((y : Int) / 16) 1 = (z : Int) := by rw [hz]; exact bit_val y 4 hy2
            have HZ : Hid (Value.int .i64 (z : Int) = bV (y.testBit 4)) := Lib.hid (by rw [hz]; rfl)
            clear hz
            go_wp2_with (at_builtin; go_loud (refine wpList_append_any _ rfl _ _ 43 rfl w.heap.size 3 i3 _ 1 8 Try.underlying43 hi3 hz0 hz1 hz2 rfl (by omega) _ (8 * i + 4) _ rfl (HO2.out.alloc _) (wr.heap.size + 1) (some ⟨wr.heap.size, 0, none⟩) 1 1 [.int .i64 (z : Int)] rfl (reads_blk (t := 3) (blk_last _ _ _ _ rfl) (by omega) rfl) (by intro u hu; simp at hu; subst hu; rfl) HMk.out.1 HMk.out.2 (by rw [alloc_size]; omega) ?_); intro v1 w1 hown1 hg1 hat1; obtain ⟨a2, c2, hvs, _⟩ := own_shape hown1; subst hvs; have HOWN := Lib.hid hown1; have HB3 := Lib.hid ((HB2.out.alloc hsz _).grown hg1 (by rw [alloc_size]; omega) (fun i hi => (HO2.out.lt i hi).1)); clear hown1 hg1 hat1)
            go_roundw
            case rel =>
              refine ⟨5, by omega, by go_num, ⟨_, _, rfl⟩, ?_, HB3.out⟩
              have := HOWN.out
              rw [HZ.out, HK.out 4 (by omega)] at this
              exact this
            case measure => first | (simp [intOf]; done) | (simp [intOf]; omega)
          · obtain ⟨z, hz⟩ : ∃ z : Nat, z = bitN (y.testBit 5) := ⟨_, rfl⟩
            have hand : bits .and .i64 ((y : Int) / 32) 1 = (z : Int) := by rw [hz]; exact bit_val y 5 hy2
            have HZ : Hid (Value.int .i64 (z : Int) = bV (y.testBit 5)) := Lib.hid (by rw [hz]; rfl)
            clear hz
            go_wp2_with (at_builtin; go_loud (refine wpList_append_any _ rfl _ _ 43 rfl w.heap.size 3 i3 _ 1 8 Try.underlying43 hi3 hz0 hz1 hz2 rfl (by omega) _ (8 * i + 5) _ rfl (HO2.out.alloc _) (wr.heap.size + 1) (some ⟨wr.heap.size, 0, none⟩) 1 1 [.int .i64 (z : Int)] rfl (reads_blk (t := 3) (blk_last _ _ _ _ rfl) (by omega) rfl) (by intro u hu; simp at hu; subst hu; rfl) HMk.out.1 HMk.out.2 (by rw [alloc_size]; omega) ?_); intro v1 w1 hown1 hg1 hat1; obtain ⟨a2, c2, hvs, _⟩ := own_shape hown1; subst hvs; have HOWN := Lib.hid hown1; have HB3 := Lib.hid ((HB2.out.alloc hsz _).grown hg1 (by rw [alloc_size]; omega) (fun i hi => (HO2.out.lt i hi).1)); clear hown1 hg1 hat1)
            go_roundw
            case rel =>
              refine ⟨6, by omega, by go_num, ⟨_, _, rfl⟩, ?_, HB3.out⟩
              have := HOWN.out
              rw [HZ.out, HK.out 5 (by omega)] at this
              exact this
            case measure => first | (simp [intOf]; done) | (simp [intOf]; omega)
          · obtain ⟨z, hz⟩ : ∃ z : Nat, z = bitN (y.testBit 6) := ⟨_, rfl⟩
            have hand : bits .and .i64 ((y : Int) / 64) 1 = (z : Int) := by rw [hz]; exact bit_val y 6 hy2
            have HZ : Hid (Value.int .i64 (z : Int) = bV (y.testBit 6)) := Lib.hid (by rw [hz]; rfl)
            clear hz
            go_wp2_with (at_builtin; go_loud (refine wpList_append_any _ rfl _ _ 43 rfl w.heap.size 3 i3 _ 1 8 Try.underlying43 hi3 hz0 hz1 hz2 rfl (by omega) _ (8 * i + 6) _ rfl (HO2.out.alloc _) (wr.heap.size + 1) (some ⟨wr.heap.size, 0, none⟩) 1 1 [.int .i64 (z : Int)] rfl (reads_blk (t := 3) (blk_last _ _ _ _ rfl) (by omega) rfl) (by intro u hu; simp at hu; subst hu; rfl) HMk.out.1 HMk.out.2 (by rw [alloc_size]; omega) ?_); intro v1 w1 hown1 hg1 hat1; obtain ⟨a2, c2, hvs, _⟩ := own_shape hown1; subst hvs; have HOWN := Lib.hid hown1; have HB3 := Lib.hid ((HB2.out.alloc hsz _).grown hg1 (by rw [alloc_size]; omega) (fun i hi => (HO2.out.lt i hi).1)); clear hown1 hg1 hat1)
            go_roundw
            case rel =>
              refine ⟨7, by omega, by go_num, ⟨_, _, rfl⟩, ?_, HB3.out⟩
              have := HOWN.out
              rw [HZ.out, HK.out 6 (by omega)] at this
              exact this
            case measure => first | (simp [intOf]; done) | (simp [intOf]; omega)
          · obtain ⟨z, hz⟩ : ∃ z : Nat, z = bitN (y.testBit 7) := ⟨_, rfl⟩
            have hand : bits .and .i64 ((y : Int) / 128) 1 = (z : Int) := by rw [hz]; exact bit_val y 7 hy2
            have HZ : Hid (Value.int .i64 (z : Int) = bV (y.testBit 7)) := Lib.hid (by rw [hz]; rfl)
            clear hz
            go_wp2_with (at_builtin; go_loud (refine wpList_append_any _ rfl _ _ 43 rfl w.heap.size 3 i3 _ 1 8 Try.underlying43 hi3 hz0 hz1 hz2 rfl (by omega) _ (8 * i + 7) _ rfl (HO2.out.alloc _) (wr.heap.size + 1) (some ⟨wr.heap.size, 0, none⟩) 1 1 [.int .i64 (z : Int)] rfl (reads_blk (t := 3) (blk_last _ _ _ _ rfl) (by omega) rfl) (by intro u hu; simp at hu; subst hu; rfl) HMk.out.1 HMk.out.2 (by rw [alloc_size]; omega) ?_); intro v1 w1 hown1 hg1 hat1; obtain ⟨a2, c2, hvs, _⟩ := own_shape hown1; subst hvs; have HOWN := Lib.hid hown1; have HB3 := Lib.hid ((HB2.out.alloc hsz _).grown hg1 (by rw [alloc_size]; omega) (fun i hi => (HO2.out.lt i hi).1)); clear hown1 hg1 hat1)
            go_roundw
            case rel =>
              refine ⟨8, by omega, by go_num, ⟨_, _, rfl⟩, ?_, HB3.out⟩
              have := HOWN.out
              rw [HZ.out, HK.out 7 (by omega)] at this
              exact this
            case measure => first | (simp [intOf]; done) | (simp [intOf]; omega)
        · obtain rfl : k = 8 := by omega
          go_wp2
          go_roundw
          case rel => exact ⟨i + 1, by omega, by go_num, ⟨_, _, by rw [show 8 * (i + 1) = 8 * i + 8 by omega]⟩, by rw [show 8 * (i + 1) = 8 * i + 8 by omega]; exact HO2.out, HB2.out⟩
          case measure => simp [intOf]; omega
    · obtain rfl : i = n := by omega
      go_wp2
      go_ret
      exact ⟨_, rfl, HO1.out, HB1.out⟩
end Go.Proofs.Ytdiaihpilniikaa
