/- Numbers as bytes: Put. -/
import Derived.Test.YtdiaihpilniikaaKc
import Derived.Laws.ShiftsVarLaws
namespace Go.Proofs.Ytdiaihpilniikaa
open Go.RowKit Go.Maps

theorem leN_take_succ (v k j : Nat) (h : j < k) : (leN v k).take (j + 1) = (leN v k).take j ++ [UInt8.ofNat (v / 256 ^ j)] := by
  induction k generalizing v j with
  | zero => omega
  | succ k ih =>
    cases j with
    | zero => simp [leN]
    | succ j =>
      show UInt8.ofNat v :: (leN (v / 256) k).take (j + 1) = (UInt8.ofNat v :: (leN (v / 256) k).take j) ++ _
      rw [ih (v / 256) j (by omega), Nat.div_div_eq_div_mul, Nat.mul_comm 256, ← Nat.pow_succ]
      rfl
theorem put_step (bs : List UInt8) (v k j : Nat) (h : j < k) (y : Int) (hy : y = ((v / 256 ^ j % 256 : Nat) : Int)) : (bs ++ (leN v k).take j).map B8 ++ [.int .u8 y] = (bs ++ (leN v k).take (j + 1)).map B8 := by
  rw [leN_take_succ v k j h, ← List.append_assoc, List.map_append, List.map_append, List.map_append, List.map_cons, List.map_nil, hy]
  unfold B8
  rw [UInt8.toNat_ofNat']

set_option maxRecDepth 100000 in
set_option maxHeartbeats 4000000 in
theorem put32_any (A : Option Addr) (n c : Nat) (bs : List UInt8) (v : Nat) (w : World) (B : Nat) (hx : Reads w B 1 A n (bs.map B8)) (hv : v < 4294967296) (hbig : n ≤ 1099511627776) :
    Calls Try.prog 29 #[.slice A n c, .int .u32 (v : Int)] w fun e w' => ∃ u, e = .returned u ∧ w'.ownsRow w.heap.size 5 1 u (n + 4) ((bs ++ leN v 4).map B8) ∧ Below w.heap.size w w' := by
  have HX := Lib.hid hx
  have HC := Lib.hid (clone_any A n c bs w B hx (by omega))
  have HV := Lib.hid hv
  have hv1 : (v : Int) < (4294967296 : Int) := by omega
  have hv0 : (0 : Int) ≤ (v : Int) := Int.natCast_nonneg _
  obtain ⟨i5, hi5, hz0, hz1, hz2⟩ := info_parts byteInfo
  have HM : Hid (∀ k, k ≤ 4 → n + k + 1 ≤ maxLen ∧ (n + k + 1) * 1 ≤ 140737488355328) := Lib.hid fun k hk => ⟨by simp only [maxLen]; omega, by omega⟩
  clear hx hv hbig
  go_enter Try.func29, Try.ntmps29
  go_wp2_with (first
    | (go_at_call 46; refine HC.out.mono ?_; rintro e w1 ⟨v0, rfl, ho, hb⟩; obtain ⟨a0, c0, rfl, _⟩ := own_shape ho; have HO := Lib.hid ho; have HB := Lib.hid hb; clear ho hb)
    | (go_at_call 47; refine (width32_any _).mono ?_; rintro e w' ⟨rfl, rfl⟩))
  go_loopw [5, 6, 10] (fun s5 _ s10 wr => ∃ k : Nat, k ≤ 4 ∧ s10 = .int .i64 k ∧ (∃ a c, s5 = .slice a (n + k) c) ∧ wr.ownsRow w.heap.size 5 1 s5 (n + k) ((bs ++ (leN v 4).take k).map B8) ∧ Below w.heap.size w wr) (fun _ _ s _ => 4 - (intOf s).toNat)
  case atStart => exact ⟨0, Nat.zero_le _, rfl, ⟨_, _, rfl⟩, by rw [List.take_zero, List.append_nil]; exact HO.out, HB.out⟩
  case round =>
    obtain ⟨k, hk, rfl, ⟨a1, c1, rfl⟩, ho, hb⟩ := hrel
    have HO1 := Lib.hid ho
    have HB1 := Lib.hid hb
    have hsz := hb.size
    clear ho hb
    by_cases hlt : k < 4
    · obtain rfl | rfl | rfl | rfl : k = 0 ∨ k = 1 ∨ k = 2 ∨ k = 3 := by omega
      · go_wp2_with (at_builtin; go_loud (refine wpList_append_any _ rfl _ _ 33 rfl w.heap.size 5 i5 _ 1 1 Try.underlying33 hi5 hz0 hz1 hz2 rfl (by omega) _ (n + 0) _ rfl (HO1.out.alloc _) (wr.heap.size + 1) (some ⟨wr.heap.size, 0, none⟩) 1 1 _ rfl (reads_blk (t := 5) (blk_last _ _ _ _ rfl) (by omega) rfl) (by intro u hu; simp at hu; subst hu; rfl) (HM.out 0 (by decide)).1 (HM.out 0 (by decide)).2 (by rw [alloc_size]; omega) ?_); intro v1 w1 hown1 hg1 hat1; obtain ⟨a2, c2, hvs, _⟩ := own_shape hown1; subst hvs; have HOWN := Lib.hid hown1; have HB2 := Lib.hid ((HB1.out.alloc hsz _).grown hg1 (by rw [alloc_size]; omega) (fun i hi => (HO1.out.lt i hi).1)); clear hown1 hg1 hat1)
        go_roundw
        case rel =>
          refine ⟨1, by omega, by go_num, ⟨_, _, rfl⟩, ?_, HB2.out⟩
          have := HOWN.out
          rw [put_step bs v 4 0 (by omega) _ (by first | (simp; done) | (simp; omega))] at this
          exact this
        case measure => first | (simp [intOf]; done) | (simp [intOf]; omega)
      · go_wp2_with (at_builtin; go_loud (refine wpList_append_any _ rfl _ _ 33 rfl w.heap.size 5 i5 _ 1 1 Try.underlying33 hi5 hz0 hz1 hz2 rfl (by omega) _ (n + 1) _ rfl (HO1.out.alloc _) (wr.heap.size + 1) (some ⟨wr.heap.size, 0, none⟩) 1 1 _ rfl (reads_blk (t := 5) (blk_last _ _ _ _ rfl) (by omega) rfl) (by intro u hu; simp at hu; subst hu; rfl) (HM.out 1 (by decide)).1 (HM.out 1 (by decide)).2 (by rw [alloc_size]; omega) ?_); intro v1 w1 hown1 hg1 hat1; obtain ⟨a2, c2, hvs, _⟩ := own_shape hown1; subst hvs; have HOWN := Lib.hid hown1; have HB2 := Lib.hid ((HB1.out.alloc hsz _).grown hg1 (by rw [alloc_size]; omega) (fun i hi => (HO1.out.lt i hi).1)); clear hown1 hg1 hat1)
        go_roundw
        case rel =>
          refine ⟨2, by omega, by go_num, ⟨_, _, rfl⟩, ?_, HB2.out⟩
          have := HOWN.out
          rw [put_step bs v 4 1 (by omega) _ (by first | (simp; done) | (simp; omega))] at this
          exact this
        case measure => first | (simp [intOf]; done) | (simp [intOf]; omega)
      · go_wp2_with (at_builtin; go_loud (refine wpList_append_any _ rfl _ _ 33 rfl w.heap.size 5 i5 _ 1 1 Try.underlying33 hi5 hz0 hz1 hz2 rfl (by omega) _ (n + 2) _ rfl (HO1.out.alloc _) (wr.heap.size + 1) (some ⟨wr.heap.size, 0, none⟩) 1 1 _ rfl (reads_blk (t := 5) (blk_last _ _ _ _ rfl) (by omega) rfl) (by intro u hu; simp at hu; subst hu; rfl) (HM.out 2 (by decide)).1 (HM.out 2 (by decide)).2 (by rw [alloc_size]; omega) ?_); intro v1 w1 hown1 hg1 hat1; obtain ⟨a2, c2, hvs, _⟩ := own_shape hown1; subst hvs; have HOWN := Lib.hid hown1; have HB2 := Lib.hid ((HB1.out.alloc hsz _).grown hg1 (by rw [alloc_size]; omega) (fun i hi => (HO1.out.lt i hi).1)); clear hown1 hg1 hat1)
        go_roundw
        case rel =>
          refine ⟨3, by omega, by go_num, ⟨_, _, rfl⟩, ?_, HB2.out⟩
          have := HOWN.out
          rw [put_step bs v 4 2 (by omega) _ (by first | (simp; done) | (simp; omega))] at this
          exact this
        case measure => first | (simp [intOf]; done) | (simp [intOf]; omega)
      · go_wp2_with (at_builtin; go_loud (refine wpList_append_any _ rfl _ _ 33 rfl w.heap.size 5 i5 _ 1 1 Try.underlying33 hi5 hz0 hz1 hz2 rfl (by omega) _ (n + 3) _ rfl (HO1.out.alloc _) (wr.heap.size + 1) (some ⟨wr.heap.size, 0, none⟩) 1 1 _ rfl (reads_blk (t := 5) (blk_last _ _ _ _ rfl) (by omega) rfl) (by intro u hu; simp at hu; subst hu; rfl) (HM.out 3 (by decide)).1 (HM.out 3 (by decide)).2 (by rw [alloc_size]; omega) ?_); intro v1 w1 hown1 hg1 hat1; obtain ⟨a2, c2, hvs, _⟩ := own_shape hown1; subst hvs; have HOWN := Lib.hid hown1; have HB2 := Lib.hid ((HB1.out.alloc hsz _).grown hg1 (by rw [alloc_size]; omega) (fun i hi => (HO1.out.lt i hi).1)); clear hown1 hg1 hat1)
        go_roundw
        case rel =>
          refine ⟨4, by omega, by go_num, ⟨_, _, rfl⟩, ?_, HB2.out⟩
          have := HOWN.out
          rw [put_step bs v 4 3 (by omega) _ (by first | (simp; done) | (simp; omega))] at this
          exact this
        case measure => first | (simp [intOf]; done) | (simp [intOf]; omega)
    · obtain rfl : k = 4 := by omega
      have HE : Hid ((leN v 4).take 4 = leN v 4) := Lib.hid (List.take_of_length_le (by rw [leN_length]; exact Nat.le_refl _))
      rw [HE.out] at HO1
      go_wp2
      go_ret
      exact ⟨_, rfl, HO1.out, HB1.out⟩

set_option maxRecDepth 100000 in
set_option maxHeartbeats 4000000 in
theorem put64_any (A : Option Addr) (n c : Nat) (bs : List UInt8) (v : Nat) (w : World) (B : Nat) (hx : Reads w B 1 A n (bs.map B8)) (hv : v < 18446744073709551616) (hbig : n ≤ 1099511627776) :
    Calls Try.prog 30 #[.slice A n c, .int .u64 (v : Int)] w fun e w' => ∃ u, e = .returned u ∧ w'.ownsRow w.heap.size 5 1 u (n + 8) ((bs ++ leN v 8).map B8) ∧ Below w.heap.size w w' := by
  have HX := Lib.hid hx
  have HC := Lib.hid (clone_any A n c bs w B hx (by omega))
  have HV := Lib.hid hv
  have hv1 : (v : Int) < (18446744073709551616 : Int) := by omega
  have hv0 : (0 : Int) ≤ (v : Int) := Int.natCast_nonneg _
  obtain ⟨i5, hi5, hz0, hz1, hz2⟩ := info_parts byteInfo
  have HM : Hid (∀ k, k ≤ 8 → n + k + 1 ≤ maxLen ∧ (n + k + 1) * 1 ≤ 140737488355328) := Lib.hid fun k hk => ⟨by simp only [maxLen]; omega, by omega⟩
  clear hx hv hbig
  go_enter Try.func30, Try.ntmps30
  go_wp2_with (first
    | (go_at_call 46; refine HC.out.mono ?_; rintro e w1 ⟨v0, rfl, ho, hb⟩; obtain ⟨a0, c0, rfl, _⟩ := own_shape ho; have HO := Lib.hid ho; have HB := Lib.hid hb; clear ho hb)
    | (go_at_call 48; refine (width64_any _).mono ?_; rintro e w' ⟨rfl, rfl⟩))
  go_loopw [5, 6, 10] (fun s5 _ s10 wr => ∃ k : Nat, k ≤ 8 ∧ s10 = .int .i64 k ∧ (∃ a c, s5 = .slice a (n + k) c) ∧ wr.ownsRow w.heap.size 5 1 s5 (n + k) ((bs ++ (leN v 8).take k).map B8) ∧ Below w.heap.size w wr) (fun _ _ s _ => 8 - (intOf s).toNat)
  case atStart => exact ⟨0, Nat.zero_le _, rfl, ⟨_, _, rfl⟩, by rw [List.take_zero, List.append_nil]; exact HO.out, HB.out⟩
  case round =>
    obtain ⟨k, hk, rfl, ⟨a1, c1, rfl⟩, ho, hb⟩ := hrel
    have HO1 := Lib.hid ho
    have HB1 := Lib.hid hb
    have hsz := hb.size
    clear ho hb
    by_cases hlt : k < 8
    · obtain rfl | rfl | rfl | rfl | rfl | rfl | rfl | rfl : k = 0 ∨ k = 1 ∨ k = 2 ∨ k = 3 ∨ k = 4 ∨ k = 5 ∨ k = 6 ∨ k = 7 := by omega
      · go_wp2_with (at_builtin; go_loud (refine wpList_append_any _ rfl _ _ 33 rfl w.heap.size 5 i5 _ 1 1 Try.underlying33 hi5 hz0 hz1 hz2 rfl (by omega) _ (n + 0) _ rfl (HO1.out.alloc _) (wr.heap.size + 1) (some ⟨wr.heap.size, 0, none⟩) 1 1 _ rfl (reads_blk (t := 5) (blk_last _ _ _ _ rfl) (by omega) rfl) (by intro u hu; simp at hu; subst hu; rfl) (HM.out 0 (by decide)).1 (HM.out 0 (by decide)).2 (by rw [alloc_size]; omega) ?_); intro v1 w1 hown1 hg1 hat1; obtain ⟨a2, c2, hvs, _⟩ := own_shape hown1; subst hvs; have HOWN := Lib.hid hown1; have HB2 := Lib.hid ((HB1.out.alloc hsz _).grown hg1 (by rw [alloc_size]; omega) (fun i hi => (HO1.out.lt i hi).1)); clear hown1 hg1 hat1)
        go_roundw
        case rel =>
          refine ⟨1, by omega, by go_num, ⟨_, _, rfl⟩, ?_, HB2.out⟩
          have := HOWN.out
          rw [put_step bs v 8 0 (by omega) _ (by first | (simp; done) | (simp; omega))] at this
          exact this
        case measure => first | (simp [intOf]; done) | (simp [intOf]; omega)
      · go_wp2_with (at_builtin; go_loud (refine wpList_append_any _ rfl _ _ 33 rfl w.heap.size 5 i5 _ 1 1 Try.underlying33 hi5 hz0 hz1 hz2 rfl (by omega) _ (n + 1) _ rfl (HO1.out.alloc _) (wr.heap.size + 1) (some ⟨wr.heap.size, 0, none⟩) 1 1 _ rfl (reads_blk (t := 5) (blk_last _ _ _ _ rfl) (by omega) rfl) (by intro u hu; simp at hu; subst hu; rfl) (HM.out 1 (by decide)).1 (HM.out 1 (by decide)).2 (by rw [alloc_size]; omega) ?_); intro v1 w1 hown1 hg1 hat1; obtain ⟨a2, c2, hvs, _⟩ := own_shape hown1; subst hvs; have HOWN := Lib.hid hown1; have HB2 := Lib.hid ((HB1.out.alloc hsz _).grown hg1 (by rw [alloc_size]; omega) (fun i hi => (HO1.out.lt i hi).1)); clear hown1 hg1 hat1)
        go_roundw
        case rel =>
          refine ⟨2, by omega, by go_num, ⟨_, _, rfl⟩, ?_, HB2.out⟩
          have := HOWN.out
          rw [put_step bs v 8 1 (by omega) _ (by first | (simp; done) | (simp; omega))] at this
          exact this
        case measure => first | (simp [intOf]; done) | (simp [intOf]; omega)
      · go_wp2_with (at_builtin; go_loud (refine wpList_append_any _ rfl _ _ 33 rfl w.heap.size 5 i5 _ 1 1 Try.underlying33 hi5 hz0 hz1 hz2 rfl (by omega) _ (n + 2) _ rfl (HO1.out.alloc _) (wr.heap.size + 1) (some ⟨wr.heap.size, 0, none⟩) 1 1 _ rfl (reads_blk (t := 5) (blk_last _ _ _ _ rfl) (by omega) rfl) (by intro u hu; simp at hu; subst hu; rfl) (HM.out 2 (by decide)).1 (HM.out 2 (by decide)).2 (by rw [alloc_size]; omega) ?_); intro v1 w1 hown1 hg1 hat1; obtain ⟨a2, c2, hvs, _⟩ := own_shape hown1; subst hvs; have HOWN := Lib.hid hown1; have HB2 := Lib.hid ((HB1.out.alloc hsz _).grown hg1 (by rw [alloc_size]; omega) (fun i hi => (HO1.out.lt i hi).1)); clear hown1 hg1 hat1)
        go_roundw
        case rel =>
          refine ⟨3, by omega, by go_num, ⟨_, _, rfl⟩, ?_, HB2.out⟩
          have := HOWN.out
          rw [put_step bs v 8 2 (by omega) _ (by first | (simp; done) | (simp; omega))] at this
          exact this
        case measure => first | (simp [intOf]; done) | (simp [intOf]; omega)
      · go_wp2_with (at_builtin; go_loud (refine wpList_append_any _ rfl _ _ 33 rfl w.heap.size 5 i5 _ 1 1 Try.underlying33 hi5 hz0 hz1 hz2 rfl (by omega) _ (n + 3) _ rfl (HO1.out.alloc _) (wr.heap.size + 1) (some ⟨wr.heap.size, 0, none⟩) 1 1 _ rfl (reads_blk (t := 5) (blk_last _ _ _ _ rfl) (by omega) rfl) (by intro u hu; simp at hu; subst hu; rfl) (HM.out 3 (by decide)).1 (HM.out 3 (by decide)).2 (by rw [alloc_size]; omega) ?_); intro v1 w1 hown1 hg1 hat1; obtain ⟨a2, c2, hvs, _⟩ := own_shape hown1; subst hvs; have HOWN := Lib.hid hown1; have HB2 := Lib.hid ((HB1.out.alloc hsz _).grown hg1 (by rw [alloc_size]; omega) (fun i hi => (HO1.out.lt i hi).1)); clear hown1 hg1 hat1)
        go_roundw
        case rel =>
          refine ⟨4, by omega, by go_num, ⟨_, _, rfl⟩, ?_, HB2.out⟩
          have := HOWN.out
          rw [put_step bs v 8 3 (by omega) _ (by first | (simp; done) | (simp; omega))] at this
          exact this
        case measure => first | (simp [intOf]; done) | (simp [intOf]; omega)
      · go_wp2_with (at_builtin; go_loud (refine wpList_append_any _ rfl _ _ 33 rfl w.heap.size 5 i5 _ 1 1 Try.underlying33 hi5 hz0 hz1 hz2 rfl (by omega) _ (n + 4) _ rfl (HO1.out.alloc _) (wr.heap.size + 1) (some ⟨wr.heap.size, 0, none⟩) 1 1 _ rfl (reads_blk (t := 5) (blk_last _ _ _ _ rfl) (by omega) rfl) (by intro u hu; simp at hu; subst hu; rfl) (HM.out 4 (by decide)).1 (HM.out 4 (by decide)).2 (by rw [alloc_size]; omega) ?_); intro v1 w1 hown1 hg1 hat1; obtain ⟨a2, c2, hvs, _⟩ := own_shape hown1; subst hvs; have HOWN := Lib.hid hown1; have HB2 := Lib.hid ((HB1.out.alloc hsz _).grown hg1 (by rw [alloc_size]; omega) (fun i hi => (HO1.out.lt i hi).1)); clear hown1 hg1 hat1)
        go_roundw
        case rel =>
          refine ⟨5, by omega, by go_num, ⟨_, _, rfl⟩, ?_, HB2.out⟩
          have := HOWN.out
          rw [put_step bs v 8 4 (by omega) _ (by first | (simp; done) | (simp; omega))] at this
          exact this
        case measure => first | (simp [intOf]; done) | (simp [intOf]; omega)
      · go_wp2_with (at_builtin; go_loud (refine wpList_append_any _ rfl _ _ 33 rfl w.heap.size 5 i5 _ 1 1 Try.underlying33 hi5 hz0 hz1 hz2 rfl (by omega) _ (n + 5) _ rfl (HO1.out.alloc _) (wr.heap.size + 1) (some ⟨wr.heap.size, 0, none⟩) 1 1 _ rfl (reads_blk (t := 5) (blk_last _ _ _ _ rfl) (by omega) rfl) (by intro u hu; simp at hu; subst hu; rfl) (HM.out 5 (by decide)).1 (HM.out 5 (by decide)).2 (by rw [alloc_size]; omega) ?_); intro v1 w1 hown1 hg1 hat1; obtain ⟨a2, c2, hvs, _⟩ := own_shape hown1; subst hvs; have HOWN := Lib.hid hown1; have HB2 := Lib.hid ((HB1.out.alloc hsz _).grown hg1 (by rw [alloc_size]; omega) (fun i hi => (HO1.out.lt i hi).1)); clear hown1 hg1 hat1)
        go_roundw
        case rel =>
          refine ⟨6, by omega, by go_num, ⟨_, _, rfl⟩, ?_, HB2.out⟩
          have := HOWN.out
          rw [put_step bs v 8 5 (by omega) _ (by first | (simp; done) | (simp; omega))] at this
          exact this
        case measure => first | (simp [intOf]; done) | (simp [intOf]; omega)
      · go_wp2_with (at_builtin; go_loud (refine wpList_append_any _ rfl _ _ 33 rfl w.heap.size 5 i5 _ 1 1 Try.underlying33 hi5 hz0 hz1 hz2 rfl (by omega) _ (n + 6) _ rfl (HO1.out.alloc _) (wr.heap.size + 1) (some ⟨wr.heap.size, 0, none⟩) 1 1 _ rfl (reads_blk (t := 5) (blk_last _ _ _ _ rfl) (by omega) rfl) (by intro u hu; simp at hu; subst hu; rfl) (HM.out 6 (by decide)).1 (HM.out 6 (by decide)).2 (by rw [alloc_size]; omega) ?_); intro v1 w1 hown1 hg1 hat1; obtain ⟨a2, c2, hvs, _⟩ := own_shape hown1; subst hvs; have HOWN := Lib.hid hown1; have HB2 := Lib.hid ((HB1.out.alloc hsz _).grown hg1 (by rw [alloc_size]; omega) (fun i hi => (HO1.out.lt i hi).1)); clear hown1 hg1 hat1)
        go_roundw
        case rel =>
          refine ⟨7, by omega, by go_num, ⟨_, _, rfl⟩, ?_, HB2.out⟩
          have := HOWN.out
          rw [put_step bs v 8 6 (by omega) _ (by first | (simp; done) | (simp; omega))] at this
          exact this
        case measure => first | (simp [intOf]; done) | (simp [intOf]; omega)
      · go_wp2_with (at_builtin; go_loud (refine wpList_append_any _ rfl _ _ 33 rfl w.heap.size 5 i5 _ 1 1 Try.underlying33 hi5 hz0 hz1 hz2 rfl (by omega) _ (n + 7) _ rfl (HO1.out.alloc _) (wr.heap.size + 1) (some ⟨wr.heap.size, 0, none⟩) 1 1 _ rfl (reads_blk (t := 5) (blk_last _ _ _ _ rfl) (by omega) rfl) (by intro u hu; simp at hu; subst hu; rfl) (HM.out 7 (by decide)).1 (HM.out 7 (by decide)).2 (by rw [alloc_size]; omega) ?_); intro v1 w1 hown1 hg1 hat1; obtain ⟨a2, c2, hvs, _⟩ := own_shape hown1; subst hvs; have HOWN := Lib.hid hown1; have HB2 := Lib.hid ((HB1.out.alloc hsz _).grown hg1 (by rw [alloc_size]; omega) (fun i hi => (HO1.out.lt i hi).1)); clear hown1 hg1 hat1)
        go_roundw
        case rel =>
          refine ⟨8, by omega, by go_num, ⟨_, _, rfl⟩, ?_, HB2.out⟩
          have := HOWN.out
          rw [put_step bs v 8 7 (by omega) _ (by first | (simp; done) | (simp; omega))] at this
          exact this
        case measure => first | (simp [intOf]; done) | (simp [intOf]; omega)
    · obtain rfl : k = 8 := by omega
      have HE : Hid ((leN v 8).take 8 = leN v 8) := Lib.hid (List.take_of_length_le (by rw [leN_length]; exact Nat.le_refl _))
      rw [HE.out] at HO1
      go_wp2
      go_ret
      exact ⟨_, rfl, HO1.out, HB1.out⟩
end Go.Proofs.Ytdiaihpilniikaa
