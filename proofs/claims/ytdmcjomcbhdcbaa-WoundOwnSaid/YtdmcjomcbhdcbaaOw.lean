/- WoundOwn: the walk. -/
import Derived.Test.YtdmcjomcbhdcbaaOf
namespace Go.Proofs.Ytdmcjomcbhdcbaa
open Go.RowKit Go.Maps

set_option maxRecDepth 100000 in
set_option maxHeartbeats 40000000 in
theorem woundOwn_core (A0 : Option Addr) (n0 c0 n : Nat) (d : List UInt8) (A1 : Option Addr) (n1 c1 m : Nat) (o : List UInt8) (at_ : Int) (w : World) (hn : n = min n0 900) (hm : m = min n1 900) (hdl : d.length = n) (hol : o.length = m) (hr0 : Reads w w.heap.size 1 A0 n (d.map B8)) (hc0 : n0 ≤ c0) (hr1 : Reads w w.heap.size 1 A1 m (o.map B8)) (hc1 : n1 ≤ c1) :
    Calls Try.prog 3 #[.slice A0 n0 c0, .slice A1 n1 c1, .int .i64 at_] w fun e w' => e = .returned (.bool true) ∧ Below w.heap.size w w' := by
  have HRD : Hid (∀ W, Below w.heap.size w W → Reads W w.heap.size 1 A0 n (d.map B8)) := Lib.hid fun W hW => hr0.below hW
  have HRO : Hid (∀ W, Below w.heap.size w W → Reads W w.heap.size 1 A1 m (o.map B8)) := Lib.hid fun W hW => hr1.below hW
  have HDL := Lib.hid hdl
  have HOL := Lib.hid hol
  have hn9 : n ≤ 900 := by omega
  have hm9 : m ≤ 900 := by omega
  have hnn : n ≤ n0 := by omega
  have hmm : m ≤ n1 := by omega
  have hmin0 : min (n0 : Int) 900 = (n : Int) := by omega
  have hmin1 : min (n1 : Int) 900 = (m : Int) := by omega
  have HD9 : Hid (d.length ≤ 900) := Lib.hid (by omega)
  have HO9 : Hid (o.length ≤ 900) := Lib.hid (by omega)
  obtain ⟨x, hx⟩ : ∃ x, x = List.replicate n (99 : UInt8) := ⟨_, rfl⟩
  have HX := Lib.hid hx
  have HXL : Hid (x.length = d.length) := Lib.hid (by rw [hx, List.length_replicate, hdl])
  clear hr0 hr1 hdl hol hn hm hx
  go_enter Try.func3, Try.ntmps3
  go_wp2_with fail
  refine (newb_any 3000 _ (by omega) (by omega)).mono ?_
  rintro e w1 ⟨p, rfl, hd1, hb1⟩
  have HD1 : Hid (Drb w1 w.heap.size p Ow.S0) := Lib.hid hd1
  have HB1 := Lib.hid hb1
  clear hd1 hb1
  go_wp2_with fail
  refine (wnewb_any w.heap.size p Ow.S0 w1 HB1.out.size HD1.out).mono ?_
  rintro e w2 ⟨q, rfl, hd2, hb2⟩
  have HD2 := Lib.hid hd2
  have HB2 : Hid (Below w.heap.size w w2) := Lib.hid (HB1.out.trans (hb2.mono HB1.out.size))
  clear hd2 hb2
  go_wp2_with fail
  refine (known_any w2).mono ?_
  rintro e w3 ⟨rfl, hb3⟩
  obtain ⟨c3, hl3, hw3⟩ := Ow.begin_ HB2.out HD2.out hb3
  have L3 := Lib.hid hl3
  have W3 : Hid (Ow.WDc w3 c3 q p (Ow.kz 0) Ow.S0) := Lib.hid hw3
  clear hl3 hw3 hb3 HD2 HB2 HB1 HD1
  go_wp2_with fail
  refine (roomy_any A0 n c0 d w3 _ (HRD.out _ L3.out.below) (by omega)).mono ?_
  rintro e w4 ⟨g, cg, rfl, ho, hb⟩
  obtain ⟨c4, hs, hj⟩ := Ow.step_new 77 1 hb
  have W4 : Hid (Ow.WDc w4 c4 q p (Ow.kz 0) Ow.S0) := Lib.hid (W3.out.step hs (by decide))
  have L4 := Lib.hid (L3.out.step hs (by decide))
  have b_4 : Hid (RowK w4 c4 1 5 (.slice (some ⟨g, 0, none⟩) (n + 8) cg) (n + 8) ((d ++ mrk 8).map B8)) := Lib.hid (Ow.row_new ho hj)
  clear ho
  clear hb hs hj L3 W3
  go_wp2_with fail
  refine (wcreate_any q p (Ow.kz 0) Ow.S0 _ ⟨#[97]⟩ _ (by decide) W4.out (Ow.zok (by decide) (by decide)) Ow.s0).mono ?_
  rintro e w5 ⟨rfl, hd, ht⟩
  rw [show (ByteArray.mk #[97]).data.toList = [97] from rfl, Ow.zcall, Ow.c1] at hd ⊢
  obtain ⟨c5, hs, hw⟩ := Ow.step_call hd ht
  have W5 : Hid (Ow.WDc w5 c5 q p (Ow.kz 1) (Ow.S1)) := Lib.hid hw
  have L5 := Lib.hid (L4.out.step hs (by decide))
  have b_5 : Hid (RowK w5 c5 1 5 (.slice (some ⟨g, 0, none⟩) (n + 8) cg) (n + 8) ((d ++ mrk 8).map B8)) := Lib.hid (Ow.row_step b_4.out hs (by decide))
  clear b_4
  clear hd ht hs hw L4 W4
  go_wp2_with fail
  refine (wcreate_any q p (Ow.kz 1) Ow.S1 _ ⟨#[98]⟩ _ (by decide) W5.out (Ow.zok (by decide) (by decide)) Ow.s1).mono ?_
  rintro e w6 ⟨rfl, hd, ht⟩
  rw [show (ByteArray.mk #[98]).data.toList = [98] from rfl, Ow.zcall, Ow.c2] at hd ⊢
  obtain ⟨c6, hs, hw⟩ := Ow.step_call hd ht
  have W6 : Hid (Ow.WDc w6 c6 q p (Ow.kz 2) (Ow.S2)) := Lib.hid hw
  have L6 := Lib.hid (L5.out.step hs (by decide))
  have b_6 : Hid (RowK w6 c6 1 5 (.slice (some ⟨g, 0, none⟩) (n + 8) cg) (n + 8) ((d ++ mrk 8).map B8)) := Lib.hid (Ow.row_step b_5.out hs (by decide))
  clear b_5
  clear hd ht hs hw L5 W5
  have hcg : n + 8 ≤ cg := by
    have := own_shape b_6.out.1
    obtain ⟨a, c, e, hle⟩ := this
    injection e with _ _ e3
    omega
  go_wp2_with fail
  have ha := wappend_any q p (Ow.kz 2) Ow.S2 _ ⟨#[97]⟩ w6 (by decide) (some ⟨g, 0, none⟩) cg d (by rw [HDL.out]; exact (Ow.row_prefix b_6.out HDL.out (by omega))) (Ow.row_not b_6.out (by decide)) (by rw [HDL.out]; omega) (by rw [HDL.out]; omega) W6.out (Ow.zok (by decide) (by decide)) Ow.s2
  rw [HDL.out] at ha
  refine (ha).mono ?_
  rintro e w7 ⟨rfl, hd, ht⟩
  rw [show (ByteArray.mk #[97]).data.toList = [97] from rfl, Ow.zapp, Ow.c3 HD9.out] at hd ⊢
  obtain ⟨c7, hs, hw⟩ := Ow.step_call hd ht
  have W7 : Hid (Ow.WDc w7 c7 q p (Ow.kz 3) (Ow.S3 d)) := Lib.hid hw
  have L7 := Lib.hid (L6.out.step hs (by decide))
  have b_7 : Hid (RowK w7 c7 1 5 (.slice (some ⟨g, 0, none⟩) (n + 8) cg) (n + 8) ((d ++ mrk 8).map B8)) := Lib.hid (Ow.row_step b_6.out hs (by decide))
  clear b_6
  clear hd ht hs hw L6 W6 ha
  go_wp2_with fail
  have ha := wappend_any q p (Ow.kz 3) (Ow.S3 d) _ ⟨#[98]⟩ w7 (by decide) (some ⟨g, 0, none⟩) cg d (by rw [HDL.out]; exact (Ow.row_prefix b_7.out HDL.out (by omega))) (Ow.row_not b_7.out (by decide)) (by rw [HDL.out]; omega) (by rw [HDL.out]; omega) W7.out (Ow.zok (by decide) (by decide)) (Ow.s3 d)
  rw [HDL.out] at ha
  refine (ha).mono ?_
  rintro e w8 ⟨rfl, hd, ht⟩
  rw [show (ByteArray.mk #[98]).data.toList = [98] from rfl, Ow.zapp, Ow.c4 HD9.out] at hd ⊢
  obtain ⟨c8, hs, hw⟩ := Ow.step_call hd ht
  have W8 : Hid (Ow.WDc w8 c8 q p (Ow.kz 4) (Ow.S4 d)) := Lib.hid hw
  have L8 := Lib.hid (L7.out.step hs (by decide))
  have b_8 : Hid (RowK w8 c8 1 5 (.slice (some ⟨g, 0, none⟩) (n + 8) cg) (n + 8) ((d ++ mrk 8).map B8)) := Lib.hid (Ow.row_step b_7.out hs (by decide))
  clear b_7
  clear hd ht hs hw L7 W7 ha
  go_wp2_with fail
  refine (stays_any g n cg A0 c0 d w8 HDL.out (Ow.row_reads b_8.out) ((HRD.out _ L8.out.below).more L8.out.below.size) (by omega)).mono ?_
  rintro e w9 ⟨rfl, hb⟩
  obtain ⟨c9, hs, hj⟩ := Ow.step_new 77 9 hb
  have W9 : Hid (Ow.WDc w9 c9 q p (Ow.kz 4) (Ow.S4 d)) := Lib.hid (W8.out.step hs (by decide))
  have L9 := Lib.hid (L8.out.step hs (by decide))
  have b_9 : Hid (RowK w9 c9 1 5 (.slice (some ⟨g, 0, none⟩) (n + 8) cg) (n + 8) ((d ++ mrk 8).map B8)) := Lib.hid (Ow.row_step b_8.out hs (by decide))
  clear b_8
  clear hb hs hj L8 W8
  go_wp2_with fail
  go_loopw [10] (fun s10 wx => ∃ k : Nat, k ≤ n + 8 ∧ s10 = .int .i64 k ∧ Ow.Put99 w9 wx c9 g cg (n + 8) k) (fun s _ => (n + 8) - (intOf s).toNat)
  case atStart => exact ⟨0, Nat.zero_le _, rfl, Ow.Put99.start b_9.out⟩
  case round =>
    obtain ⟨k, hk, rfl, hp⟩ := hrel
    have HP := Lib.hid hp
    by_cases hk2 : k < n + 8
    · obtain ⟨u, hc⟩ := hp.cell hk2
      have hfz := hp.frozen k
      clear hp
      go_wp2
      go_roundw
      case rel => exact ⟨k + 1, by omega, by go_num, HP.out.next hk2⟩
      case measure => simp [intOf]; omega
    · obtain rfl : k = n + 8 := by omega
      obtain ⟨w10, rfl⟩ : ∃ X : World, X = wr := ⟨_, rfl⟩
      have L10 := Lib.hid (L9.out.step hp.stp (by decide))
      have W10 : Hid (Ow.WDc w10 c9 q p (Ow.kz 4) (Ow.S4 d)) := Lib.hid (W9.out.step hp.stp (by decide))
      obtain ⟨c10, hcc⟩ : ∃ c, c = c9 := ⟨_, rfl⟩
      have hrow := hp.full
      rw [← HX.out] at hrow
      rw [← hcc] at L10 W10 hrow
      have b_10 : Hid (RowK w10 c10 1 5 (.slice (some ⟨g, 0, none⟩) (n + 8) cg) (n + 8) ((x ++ List.replicate 8 99).map B8)) := Lib.hid hrow
      clear hp HP L9 W9 b_9 hcc hrow
      go_wp2_with fail
      have ha := wappend_any q p (Ow.kz 4) (Ow.S4 d) _ ⟨#[98]⟩ w10 (by decide) (some ⟨g, 0, none⟩) cg x (by rw [HXL.out.trans HDL.out]; exact (Ow.row_prefix b_10.out (HXL.out.trans HDL.out) (by omega))) (Ow.row_not b_10.out (by decide)) (by rw [HXL.out.trans HDL.out]; omega) (by rw [HXL.out.trans HDL.out]; omega) W10.out (Ow.zok (by decide) (by decide)) (Ow.s4 d)
      rw [HXL.out.trans HDL.out] at ha
      refine (ha).mono ?_
      rintro e w11 ⟨rfl, hd, ht⟩
      rw [show (ByteArray.mk #[98]).data.toList = [98] from rfl, Ow.zapp, Ow.c5 HD9.out HXL.out] at hd ⊢
      obtain ⟨c11, hs, hw⟩ := Ow.step_call hd ht
      have W11 : Hid (Ow.WDc w11 c11 q p (Ow.kz 5) (Ow.S5 d x)) := Lib.hid hw
      have L11 := Lib.hid (L10.out.step hs (by decide))
      have b_11 : Hid (RowK w11 c11 1 5 (.slice (some ⟨g, 0, none⟩) (n + 8) cg) (n + 8) ((x ++ List.replicate 8 99).map B8)) := Lib.hid (Ow.row_step b_10.out hs (by decide))
      clear b_10
      clear hd ht hs hw L10 W10 ha
      obtain ⟨dx, hdx⟩ : ∃ z, z = d ++ x := ⟨_, rfl⟩
      have HDX := Lib.hid hdx
      have HR5 : Hid ((Ow.S5 d x).read [98] = (dx, 0)) := Lib.hid (by rw [hdx]; exact Ow.r5 HD9.out HXL.out)
      obtain ⟨n2, hn2⟩ : ∃ k, dx.length = k := ⟨_, rfl⟩
      have HN2 := Lib.hid hn2
      clear hdx hn2
      go_wp2_with fail
      refine (wread_any q p (Ow.kz 5) (Ow.S5 d x) _ ⟨#[98]⟩ _ (by decide) W11.out (Ow.zok (by decide) (by decide)) (Ow.s5 d x)).mono ?_
      rintro e w12 ⟨v, rfl, ho, hd, ht⟩
      rw [show (ByteArray.mk #[98]).data.toList = [98] from rfl, Ow.zread, HR5.out] at hd ho ⊢
      rw [show (dx, (0 : Int)).1 = dx from rfl, HN2.out] at ho
      obtain ⟨au, cu, rfl, _⟩ := own_shape ho
      obtain ⟨c12, hs, hw, hrow⟩ := Ow.step_read 2 ho hd ht
      have W12 : Hid (Ow.WDc w12 c12 q p (Ow.kz 6) (Ow.S5 d x)) := Lib.hid hw
      have L12 := Lib.hid (L11.out.step hs (by decide))
      have b_12 : Hid (RowK w12 c12 1 5 (.slice (some ⟨g, 0, none⟩) (n + 8) cg) (n + 8) ((x ++ List.replicate 8 99).map B8)) := Lib.hid (Ow.row_step b_11.out hs (by decide))
      clear b_11
      have u_12 : Hid (RowK w12 c12 2 5 (.slice au n2 cu) n2 (dx.map B8)) := Lib.hid hrow
      clear hd ht ho hs hw hrow L11 W11
      go_wp2_with fail
      obtain ⟨sdx, hsdx⟩ : ∃ s : ByteArray, s = ⟨dx.toArray⟩ := ⟨_, rfl⟩
      obtain ⟨sd, hsd⟩ : ∃ s : ByteArray, s = ⟨d.toArray⟩ := ⟨_, rfl⟩
      obtain ⟨sx, hsx⟩ : ∃ s : ByteArray, s = ⟨x.toArray⟩ := ⟨_, rfl⟩
      have HSDX := Lib.hid hsdx
      have HSD := Lib.hid hsd
      have HSX := Lib.hid hsx
      have hnc : n ≤ c0 := by omega
      have hncg : n ≤ cg := by omega
      have hadd : ¬ 9223372036854775807 < sd.size + sx.size := by
        have h1 : sd.size = n := by rw [hsd]; exact List.size_toArray.trans HDL.out
        have h2 : sx.size = n := by rw [hsx]; exact List.size_toArray.trans (HXL.out.trans HDL.out)
        omega
      have heq : (sdx.toList == (sd ++ sx).toList) = true := by
        have h1 : sdx = sd ++ sx := by
          rw [hsdx, HDX.out, hsd, hsx]
          exact ByteArray.ext (by rw [ByteArray.data_append]; simp)
        rw [h1]; simp
      clear hsdx hsd hsx
      have q1 : (convert 22 9 (.slice au n2 cu)).run Try.prog w12.drew = .ok (.string sdx) w12.drew := (Ow.conv_reads ((Ow.row_reads u_12.out).drew) HN2.out cu).trans (by rw [HSDX.out])
      have q2 : (convert 22 9 (.slice A0 n c0)).run Try.prog w12.drew = .ok (.string sd) w12.drew := (Ow.conv_reads ((HRD.out _ L12.out.below).drew) HDL.out c0).trans (by rw [HSD.out])
      have q3 : (convert 22 9 (.slice (some ⟨g, 0, none⟩) n cg)).run Try.prog w12.drew = .ok (.string sx) w12.drew := (Ow.conv_reads ((Ow.row_prefix b_12.out (HXL.out.trans HDL.out) (by omega)).drew) (HXL.out.trans HDL.out) cg).trans (by rw [HSX.out])
      refine wp_region_held_drew (S := (fun w' => (convert 22 9 (.slice au n2 cu)).run Try.prog w' = .ok (.string sdx) w' ∧ (convert 22 9 (.slice A0 n c0)).run Try.prog w' = .ok (.string sd) w' ∧ (convert 22 9 (.slice (some ⟨g, 0, none⟩) n cg)).run Try.prog w' = .ok (.string sx) w')) (by kernel_rfl) ?_ (fun hHeld => ?_)
      · ((try dsimp only); (first | exact ⟨q1, q2, q3⟩ | exact ⟨r1, r2, r3⟩))
      refine wpAnyH_take (i := 0) (oi := ⟨_, _, _, _, _, _⟩) (v := ?_) rfl (by kernel_rfl) (by kernel_rfl) (by kernel_rfl) (fun _ _ _ h => h) (Or.inl ⟨by kernel_rfl, ?_⟩) (by assumption) ?_
      rotate_left
      · (intro wS hSw; (try dsimp only at hSw); go_simp; try with_reducible rfl)
      try simp only [Act.put, List.setIfInBounds_toArray, List.set_cons_zero, List.set_cons_succ]
      refine wpAnyH_take (i := 1) (oi := ⟨_, _, _, _, _, _⟩) (v := ?_) rfl (by kernel_rfl) (by kernel_rfl) (by kernel_rfl) (fun _ _ _ h => h) (Or.inl ⟨by kernel_rfl, ?_⟩) (by assumption) ?_
      rotate_left
      · (intro wS hSw; (try dsimp only at hSw); go_simp; try with_reducible rfl)
      try simp only [Act.put, List.setIfInBounds_toArray, List.set_cons_zero, List.set_cons_succ]
      refine wpAnyH_take (i := 2) (oi := ⟨_, _, _, _, _, _⟩) (v := ?_) rfl (by kernel_rfl) (by kernel_rfl) (by kernel_rfl) (fun _ _ _ h => h) (Or.inl ⟨by kernel_rfl, ?_⟩) (by assumption) ?_
      rotate_left
      · (intro wS hSw; (try dsimp only at hSw); go_simp; try with_reducible rfl)
      try simp only [Act.put, List.setIfInBounds_toArray, List.set_cons_zero, List.set_cons_succ]
      refine wpAnyH_take (i := 3) (oi := ⟨_, _, _, _, _, _⟩) (v := ?_) rfl (by kernel_rfl) (by kernel_rfl) (by kernel_rfl) (fun _ _ _ h => h) (Or.inl ⟨by kernel_rfl, ?_⟩) (by assumption) ?_
      rotate_left
      · (intro wS hSw; (try dsimp only at hSw); go_simp; try with_reducible rfl)
      try simp only [Act.put, List.setIfInBounds_toArray, List.set_cons_zero, List.set_cons_succ]
      refine wpAnyH_take (i := 4) (oi := ⟨_, _, _, _, _, _⟩) (v := ?_) rfl (by kernel_rfl) (by kernel_rfl) (by kernel_rfl) (fun _ _ _ h => h) (Or.inl ⟨by kernel_rfl, ?_⟩) (by assumption) ?_
      rotate_left
      · (intro wS hSw; (try dsimp only at hSw); go_simp; try with_reducible rfl)
      try simp only [Act.put, List.setIfInBounds_toArray, List.set_cons_zero, List.set_cons_succ]
      refine wpAnyH_take (i := 5) (oi := ⟨_, _, _, _, _, _⟩) (v := ?_) rfl (by kernel_rfl) (by kernel_rfl) (by kernel_rfl) (fun _ _ _ h => h) (Or.inl ⟨by kernel_rfl, ?_⟩) (by assumption) ?_
      rotate_left
      · (intro wS hSw; (try dsimp only at hSw); go_simp; try with_reducible rfl)
      try simp only [Act.put, List.setIfInBounds_toArray, List.set_cons_zero, List.set_cons_succ]
      refine wpAnyH_take (i := 6) (oi := ⟨_, _, _, _, _, _⟩) (v := ?_) rfl (by kernel_rfl) (by kernel_rfl) (by kernel_rfl) (fun _ _ _ h => h) (Or.inl ⟨by kernel_rfl, ?_⟩) (by assumption) ?_
      rotate_left
      · (intro wS hSw; (try dsimp only at hSw); go_simp; try with_reducible rfl)
      try simp only [Act.put, List.setIfInBounds_toArray, List.set_cons_zero, List.set_cons_succ]
      refine wpAnyH_take (i := 7) (oi := ⟨_, _, _, _, _, _⟩) (v := ?_) rfl (by kernel_rfl) (by kernel_rfl) (by kernel_rfl) (fun _ _ _ h => h) (Or.inl ⟨by kernel_rfl, ?_⟩) (by assumption) ?_
      rotate_left
      · (intro wS hSw; (try dsimp only at hSw); go_simp; try with_reducible rfl)
      try simp only [Act.put, List.setIfInBounds_toArray, List.set_cons_zero, List.set_cons_succ]
      refine wpAnyH_take (i := 8) (oi := ⟨_, _, _, _, _, _⟩) (v := ?_) rfl (by kernel_rfl) (by kernel_rfl) (by kernel_rfl) (fun _ _ _ h => h) (Or.inl ⟨by kernel_rfl, ?_⟩) (by assumption) ?_
      rotate_left
      · (intro wS hSw; (try dsimp only at hSw); go_simp; try with_reducible rfl)
      try simp only [Act.put, List.setIfInBounds_toArray, List.set_cons_zero, List.set_cons_succ]
      refine wpAnyH_take (i := 9) (oi := ⟨_, _, _, _, _, _⟩) (v := ?_) rfl (by kernel_rfl) (by kernel_rfl) (by kernel_rfl) (fun _ _ _ h => h) (Or.inl ⟨by kernel_rfl, ?_⟩) (by assumption) ?_
      rotate_left
      · (intro wS hSw; (try dsimp only at hSw); go_simp; try with_reducible rfl)
      try simp only [Act.put, List.setIfInBounds_toArray, List.set_cons_zero, List.set_cons_succ]
      refine wpAnyH_take (i := 10) (oi := ⟨_, _, _, _, _, _⟩) (v := ?_) rfl (by kernel_rfl) (by kernel_rfl) (by kernel_rfl) (fun _ _ _ h => h) (Or.inl ⟨by kernel_rfl, ?_⟩) (by assumption) ?_
      rotate_left
      · (intro wS hSw; (try dsimp only at hSw); go_simp; try with_reducible rfl)
      try simp only [Act.put, List.setIfInBounds_toArray, List.set_cons_zero, List.set_cons_succ]
      refine wpAnyH_take (i := 11) (oi := ⟨_, _, _, _, _, _⟩) (v := ?_) rfl (by kernel_rfl) (by kernel_rfl) (by kernel_rfl) (fun _ _ _ h => h) (Or.inl ⟨by kernel_rfl, ?_⟩) (by assumption) ?_
      rotate_left
      · (intro wS hSw; (try dsimp only at hSw); go_simp; try with_reducible rfl)
      try simp only [Act.put, List.setIfInBounds_toArray, List.set_cons_zero, List.set_cons_succ]
      refine wpAnyH_take (i := 12) (oi := ⟨_, _, _, _, _, _⟩) (v := ?_) rfl (by kernel_rfl) (by kernel_rfl) (by kernel_rfl) (fun _ _ _ h => h) (Or.inl ⟨by kernel_rfl, ?_⟩) (by assumption) ?_
      rotate_left
      · (intro wS hSw; (try dsimp only at hSw); go_simp; try with_reducible rfl)
      try simp only [Act.put, List.setIfInBounds_toArray, List.set_cons_zero, List.set_cons_succ]
      refine wpAnyH_take (i := 13) (oi := ⟨_, _, _, _, _, _⟩) (v := ?_) rfl (by kernel_rfl) (by kernel_rfl) (by kernel_rfl) (fun _ _ _ h => h) (Or.inl ⟨by kernel_rfl, ?_⟩) (by assumption) ?_
      rotate_left
      · (intro wS hSw; (try dsimp only at hSw); go_simp; try with_reducible rfl)
      try simp only [Act.put, List.setIfInBounds_toArray, List.set_cons_zero, List.set_cons_succ]
      refine wpAnyH_take (i := 14) (oi := ⟨_, _, _, _, _, _⟩) (v := ?_) rfl (by kernel_rfl) (by kernel_rfl) (by kernel_rfl) (fun _ _ _ h => h) (Or.inl ⟨by kernel_rfl, ?_⟩) (by assumption) ?_
      rotate_left
      · (intro wS hSw; (try dsimp only at hSw); go_simp; try with_reducible rfl)
      try simp only [Act.put, List.setIfInBounds_toArray, List.set_cons_zero, List.set_cons_succ]
      refine wpAnyH_take (i := 15) (oi := ⟨_, _, _, _, _, _⟩) (v := ?_) rfl (by kernel_rfl) (by kernel_rfl) (by kernel_rfl) (fun _ _ _ h => h) (Or.inl ⟨by kernel_rfl, ?_⟩) (by assumption) ?_
      rotate_left
      · (intro wS hSw; (try dsimp only at hSw); go_simp; try with_reducible rfl)
      try simp only [Act.put, List.setIfInBounds_toArray, List.set_cons_zero, List.set_cons_succ]
      refine wpAnyH_take (i := 16) (oi := ⟨_, _, _, _, _, _⟩) (v := ?_) rfl (by kernel_rfl) (by kernel_rfl) (by kernel_rfl) (fun _ _ _ h => h) (Or.inl ⟨by kernel_rfl, ?_⟩) (by assumption) ?_
      rotate_left
      · (intro wS hSw; (try dsimp only at hSw); go_simp; try with_reducible rfl)
      try simp only [Act.put, List.setIfInBounds_toArray, List.set_cons_zero, List.set_cons_succ]
      refine wpAnyH_take (i := 17) (oi := ⟨_, _, _, _, _, _⟩) (v := ?_) rfl (by kernel_rfl) (by kernel_rfl) (by kernel_rfl) (fun _ _ _ h => h) (Or.inl ⟨by kernel_rfl, ?_⟩) (by assumption) ?_
      rotate_left
      · (intro wS hSw; (try dsimp only at hSw); go_simp; try with_reducible rfl)
      try simp only [Act.put, List.setIfInBounds_toArray, List.set_cons_zero, List.set_cons_succ]
      refine wpAnyH_ready (rs := [18]) (by kernel_rfl) (by simp) (AllReadyH.cons (o := _) rfl (fun K hK => ?b1y1x18) AllReadyH.nil)
      go_simp; go_at_call 14; refine (wcreate_any q p (Ow.kz 6) (Ow.S5 d x) _ ⟨#[98]⟩ _ (by decide) (WD.below W12.out (below_drewN (Below.refl _ _) 1)) (Ow.zok (by decide) (by decide)) (Ow.s5 d x)).mono ?_; rintro e w13 ⟨rfl, hd, ht⟩; rw [show (ByteArray.mk #[98]).data.toList = [98] from rfl, Ow.zcall, Ow.c6 HD9.out HXL.out] at hd ⊢; obtain ⟨c13, hs, hw⟩ := Ow.step_call hd ((Touch.drewN w12 1).then ht (fun _ _ h => h)); have W13 : Hid (Ow.WDc w13 c13 q p (Ow.kz 7) (Ow.S6 d x)) := Lib.hid hw; have L13 := Lib.hid (L12.out.step hs (by decide)); have b_13 : Hid (RowK w13 c13 1 5 (.slice (some ⟨g, 0, none⟩) (n + 8) cg) (n + 8) ((x ++ List.replicate 8 99).map B8)) := Lib.hid (Ow.row_step b_12.out hs (by decide)); clear b_12; have u_13 : Hid (RowK w13 c13 2 5 (.slice au n2 cu) n2 (dx.map B8)) := Lib.hid (Ow.row_step u_12.out hs (by decide)); clear u_12; clear hd ht hs hw L12 W12; have r1 : (convert 22 9 (.slice au n2 cu)).run Try.prog w13 = .ok (.string sdx) w13 := (Ow.conv_reads ((Ow.row_reads u_13.out)) HN2.out cu).trans (by rw [HSDX.out]); have r2 : (convert 22 9 (.slice A0 n c0)).run Try.prog w13 = .ok (.string sd) w13 := (Ow.conv_reads ((HRD.out _ L13.out.below)) HDL.out c0).trans (by rw [HSD.out]); have r3 : (convert 22 9 (.slice (some ⟨g, 0, none⟩) n cg)).run Try.prog w13 = .ok (.string sx) w13 := (Ow.conv_reads ((Ow.row_prefix b_13.out (HXL.out.trans HDL.out) (by omega))) (HXL.out.trans HDL.out) cg).trans (by rw [HSX.out])
      refine hK.out _ _ ?_ (fun hHeld => ?_)
      · ((try dsimp only); (first | exact ⟨q1, q2, q3⟩ | exact ⟨r1, r2, r3⟩))
      clear hK K; try simp only [Act.put, List.setIfInBounds_toArray, List.set_cons_zero, List.set_cons_succ]
      refine wpAnyH_take (i := 19) (oi := ⟨_, _, _, _, _, _⟩) (v := ?_) rfl (by kernel_rfl) (by kernel_rfl) (by kernel_rfl) (fun _ _ _ h => h) (Or.inl ⟨by kernel_rfl, ?_⟩) (by assumption) ?_
      rotate_left
      · (intro wS hSw; (try dsimp only at hSw); go_simp; try with_reducible rfl)
      try simp only [Act.put, List.setIfInBounds_toArray, List.set_cons_zero, List.set_cons_succ]
      refine wpAnyH_take (i := 20) (oi := ⟨_, _, _, _, _, _⟩) (v := ?_) rfl (by kernel_rfl) (by kernel_rfl) (by kernel_rfl) (fun _ _ _ h => h) (Or.inl ⟨by kernel_rfl, ?_⟩) (by assumption) ?_
      rotate_left
      · (intro wS hSw; (try dsimp only at hSw); go_simp; try with_reducible rfl)
      try simp only [Act.put, List.setIfInBounds_toArray, List.set_cons_zero, List.set_cons_succ]
      refine wpAnyH_done (by kernel_rfl) ?_ _
      go_wp2_with fail
      refine (twin_any A1 m c1 o w13 _ (HRO.out _ L13.out.below) (by omega)).mono ?_
      rintro e w14 ⟨v, rfl, ho, hb⟩
      obtain ⟨at1, ct, rfl, hct⟩ := own_shape ho
      obtain ⟨c14, hs, hj⟩ := Ow.step_new 77 3 hb
      have W14 : Hid (Ow.WDc w14 c14 q p (Ow.kz 7) (Ow.S6 d x)) := Lib.hid (W13.out.step hs (by decide))
      have L14 := Lib.hid (L13.out.step hs (by decide))
      have t_14 : Hid (RowK w14 c14 3 5 (.slice at1 m ct) m (o.map B8)) := Lib.hid (Ow.row_new ho hj)
      clear ho
      clear hb hs hj L13 W13
      go_wp2_with fail
      have ha := wappend_any q p (Ow.kz 7) (Ow.S6 d x) _ ⟨#[98]⟩ w14 (by decide) at1 ct o (by rw [HOL.out]; exact (Ow.row_reads t_14.out)) (Ow.row_notA t_14.out (by decide)) (by rw [HOL.out]; omega) (by rw [HOL.out]; omega) W14.out (Ow.zok (by decide) (by decide)) (Ow.s6 d x)
      rw [HOL.out] at ha
      refine (ha).mono ?_
      rintro e w15 ⟨rfl, hd, ht⟩
      rw [show (ByteArray.mk #[98]).data.toList = [98] from rfl, Ow.zapp, Ow.c7 HD9.out HXL.out HO9.out] at hd ⊢
      obtain ⟨c15, hs, hw⟩ := Ow.step_call hd ht
      have W15 : Hid (Ow.WDc w15 c15 q p (Ow.kz 8) (Ow.S7 d x o)) := Lib.hid hw
      have L15 := Lib.hid (L14.out.step hs (by decide))
      have t_15 : Hid (RowK w15 c15 3 5 (.slice at1 m ct) m (o.map B8)) := Lib.hid (Ow.row_step t_14.out hs (by decide))
      clear t_14
      clear hd ht hs hw L14 W14 ha
      go_wp2_with fail
      refine (wread_any q p (Ow.kz 8) (Ow.S7 d x o) _ ⟨#[97]⟩ _ (by decide) W15.out (Ow.zok (by decide) (by decide)) (Ow.s7 d x o)).mono ?_
      rintro e w16 ⟨v, rfl, ho, hd, ht⟩
      rw [show (ByteArray.mk #[97]).data.toList = [97] from rfl, Ow.zread, Ow.ra HD9.out HXL.out HO9.out] at hd ho ⊢
      rw [show (d, (0 : Int)).1 = d from rfl, HDL.out] at ho
      obtain ⟨ar1, cr1, rfl, _⟩ := own_shape ho
      obtain ⟨c16, hs, hw, hrow⟩ := Ow.step_read 11 ho hd ht
      have W16 : Hid (Ow.WDc w16 c16 q p (Ow.kz 9) (Ow.S7 d x o)) := Lib.hid hw
      have L16 := Lib.hid (L15.out.step hs (by decide))
      have r1_16 : Hid (RowK w16 c16 11 5 (.slice ar1 n cr1) n (d.map B8)) := Lib.hid hrow
      clear hd ht ho hs hw hrow L15 W15
      go_wp2_with fail
      refine (wread_any q p (Ow.kz 9) (Ow.S7 d x o) _ ⟨#[98]⟩ _ (by decide) W16.out (Ow.zok (by decide) (by decide)) (Ow.s7 d x o)).mono ?_
      rintro e w17 ⟨v, rfl, ho, hd, ht⟩
      rw [show (ByteArray.mk #[98]).data.toList = [98] from rfl, Ow.zread, Ow.rb HD9.out HXL.out HO9.out] at hd ho ⊢
      rw [show (o, (0 : Int)).1 = o from rfl, HOL.out] at ho
      obtain ⟨ar2, cr2, rfl, _⟩ := own_shape ho
      obtain ⟨c17, hs, hw, hrow⟩ := Ow.step_read 12 ho hd ht
      have W17 : Hid (Ow.WDc w17 c17 q p (Ow.kz 10) (Ow.S7 d x o)) := Lib.hid hw
      have L17 := Lib.hid (L16.out.step hs (by decide))
      have r1_17 : Hid (RowK w17 c17 11 5 (.slice ar1 n cr1) n (d.map B8)) := Lib.hid (Ow.row_step r1_16.out hs (by decide))
      clear r1_16
      have r2_17 : Hid (RowK w17 c17 12 5 (.slice ar2 m cr2) m (o.map B8)) := Lib.hid hrow
      clear hd ht ho hs hw hrow L16 W16
      go_wp2_with fail
      refine (wread_any q p (Ow.kz 10) (Ow.S7 d x o) _ ⟨#[97]⟩ _ (by decide) W17.out (Ow.zok (by decide) (by decide)) (Ow.s7 d x o)).mono ?_
      rintro e w18 ⟨v, rfl, ho, hd, ht⟩
      rw [show (ByteArray.mk #[97]).data.toList = [97] from rfl, Ow.zread, Ow.ra HD9.out HXL.out HO9.out] at hd ho ⊢
      rw [show (d, (0 : Int)).1 = d from rfl, HDL.out] at ho
      obtain ⟨ar3, cr3, rfl, _⟩ := own_shape ho
      obtain ⟨c18, hs, hw, hrow⟩ := Ow.step_read 13 ho hd ht
      have W18 : Hid (Ow.WDc w18 c18 q p (Ow.kz 11) (Ow.S7 d x o)) := Lib.hid hw
      have L18 := Lib.hid (L17.out.step hs (by decide))
      have r1_18 : Hid (RowK w18 c18 11 5 (.slice ar1 n cr1) n (d.map B8)) := Lib.hid (Ow.row_step r1_17.out hs (by decide))
      clear r1_17
      have r2_18 : Hid (RowK w18 c18 12 5 (.slice ar2 m cr2) m (o.map B8)) := Lib.hid (Ow.row_step r2_17.out hs (by decide))
      clear r2_17
      have r3_18 : Hid (RowK w18 c18 13 5 (.slice ar3 n cr3) n (d.map B8)) := Lib.hid hrow
      clear hd ht ho hs hw hrow L17 W17
      go_wp2_with fail
      refine (wlist_any q p (Ow.kz 11) (Ow.S7 d x o) _ _ (Ow.z7 HD9.out HXL.out HO9.out) W18.out (Ow.zok (by decide) (by decide)) (Ow.s7 d x o)).mono ?_
      rintro e w19 ⟨v, rfl, ho, hd, ht⟩
      rw [Ow.l7 HD9.out HXL.out HO9.out, Ow.zread] at hd ho ⊢
      obtain ⟨al1, cl1, rfl, _⟩ := own_shape ho
      obtain ⟨c19, hs, hw, hrow⟩ := Ow.step_read 14 ho hd ht
      have W19 : Hid (Ow.WDc w19 c19 q p (Ow.kz 12) (Ow.S7 d x o)) := Lib.hid hw
      have L19 := Lib.hid (L18.out.step hs (by decide))
      have r1_19 : Hid (RowK w19 c19 11 5 (.slice ar1 n cr1) n (d.map B8)) := Lib.hid (Ow.row_step r1_18.out hs (by decide))
      clear r1_18
      have r2_19 : Hid (RowK w19 c19 12 5 (.slice ar2 m cr2) m (o.map B8)) := Lib.hid (Ow.row_step r2_18.out hs (by decide))
      clear r2_18
      have r3_19 : Hid (RowK w19 c19 13 5 (.slice ar3 n cr3) n (d.map B8)) := Lib.hid (Ow.row_step r3_18.out hs (by decide))
      clear r3_18
      have l1_19 : Hid (RowK w19 c19 14 9 (.slice al1 2 cl1) 2 ([[97], [98]].map strV)) := Lib.hid hrow
      clear hd ht ho hs hw hrow L18 W18
      go_wp2_with fail
      refine (wlist_any q p (Ow.kz 12) (Ow.S7 d x o) _ _ (Ow.z7 HD9.out HXL.out HO9.out) W19.out (Ow.zok (by decide) (by decide)) (Ow.s7 d x o)).mono ?_
      rintro e w20 ⟨v, rfl, ho, hd, ht⟩
      rw [Ow.l7 HD9.out HXL.out HO9.out, Ow.zread] at hd ho ⊢
      obtain ⟨al2, cl2, rfl, _⟩ := own_shape ho
      obtain ⟨c20, hs, hw, hrow⟩ := Ow.step_read 15 ho hd ht
      have W20 : Hid (Ow.WDc w20 c20 q p (Ow.kz 13) (Ow.S7 d x o)) := Lib.hid hw
      have L20 := Lib.hid (L19.out.step hs (by decide))
      have r1_20 : Hid (RowK w20 c20 11 5 (.slice ar1 n cr1) n (d.map B8)) := Lib.hid (Ow.row_step r1_19.out hs (by decide))
      clear r1_19
      have r2_20 : Hid (RowK w20 c20 12 5 (.slice ar2 m cr2) m (o.map B8)) := Lib.hid (Ow.row_step r2_19.out hs (by decide))
      clear r2_19
      have r3_20 : Hid (RowK w20 c20 13 5 (.slice ar3 n cr3) n (d.map B8)) := Lib.hid (Ow.row_step r3_19.out hs (by decide))
      clear r3_19
      have l1_20 : Hid (RowK w20 c20 14 9 (.slice al1 2 cl1) 2 ([[97], [98]].map strV)) := Lib.hid (Ow.row_step l1_19.out hs (by decide))
      clear l1_19
      have l2_20 : Hid (RowK w20 c20 15 9 (.slice al2 2 cl2) 2 ([[97], [98]].map strV)) := Lib.hid hrow
      clear hd ht ho hs hw hrow L19 W19
      obtain ⟨so, hso⟩ : ∃ s : ByteArray, s = ⟨o.toArray⟩ := ⟨_, rfl⟩
      have HSO := Lib.hid hso
      have hmc : m ≤ c1 := by omega
      obtain ⟨gl, rfl⟩ := own_head l1_20.out.1 (by decide)
      clear hso heq hadd
      go_wp2_with fail
      have f1 : (convert 22 9 (.slice ar1 n cr1)).run Try.prog w20.drew = .ok (.string sd) w20.drew := (Ow.conv_reads ((Ow.row_reads r1_20.out).drew) HDL.out cr1).trans (by rw [HSD.out])
      have f2 : (convert 22 9 (.slice A0 n c0)).run Try.prog w20.drew = .ok (.string sd) w20.drew := (Ow.conv_reads ((HRD.out _ L20.out.below).drew) HDL.out c0).trans (by rw [HSD.out])
      have f3 : (convert 22 9 (.slice ar2 m cr2)).run Try.prog w20.drew = .ok (.string so) w20.drew := (Ow.conv_reads ((Ow.row_reads r2_20.out).drew) HOL.out cr2).trans (by rw [HSO.out])
      have f4 : (convert 22 9 (.slice A1 m c1)).run Try.prog w20.drew = .ok (.string so) w20.drew := (Ow.conv_reads ((HRO.out _ L20.out.below).drew) HOL.out c1).trans (by rw [HSO.out])
      have f5 : (convert 22 9 (.slice ar3 n cr3)).run Try.prog w20.drew = .ok (.string sd) w20.drew := (Ow.conv_reads ((Ow.row_reads r3_20.out).drew) HDL.out cr3).trans (by rw [HSD.out])
      have f6 : w20.drew.cell? ⟨gl, 0, none⟩ = some (.string ⟨#[97]⟩) := l1_20.out.1.cellAt 0 (by decide)
      have f7 : w20.drew.cell? ⟨gl, 1, none⟩ = some (.string ⟨#[98]⟩) := l1_20.out.1.cellAt 1 (by decide)
      refine wp_region_held_drew (S := (fun w' => (convert 22 9 (.slice ar1 n cr1)).run Try.prog w' = .ok (.string sd) w' ∧ (convert 22 9 (.slice A0 n c0)).run Try.prog w' = .ok (.string sd) w' ∧ (convert 22 9 (.slice ar2 m cr2)).run Try.prog w' = .ok (.string so) w' ∧ (convert 22 9 (.slice A1 m c1)).run Try.prog w' = .ok (.string so) w' ∧ (convert 22 9 (.slice ar3 n cr3)).run Try.prog w' = .ok (.string sd) w' ∧ w'.cell? ⟨gl, 0, none⟩ = some (.string ⟨#[97]⟩) ∧ w'.cell? ⟨gl, 1, none⟩ = some (.string ⟨#[98]⟩))) (by kernel_rfl) ?_ (fun hHeld => ?_)
      · ((try dsimp only); (first | exact ⟨f1, f2, f3, f4, f5, f6, f7⟩ | exact ⟨h1, h2, h3, h4, h5, h6, h7⟩))
      refine wpAnyH_take (i := 0) (oi := ⟨_, _, _, _, _, _⟩) (v := ?_) rfl (by kernel_rfl) (by kernel_rfl) (by kernel_rfl) (fun _ _ _ h => h) (Or.inl ⟨by kernel_rfl, ?_⟩) (by assumption) ?_
      rotate_left
      · (intro wS hSw; (try dsimp only at hSw); go_simp; try with_reducible rfl)
      try simp only [Act.put, List.setIfInBounds_toArray, List.set_cons_zero, List.set_cons_succ]
      refine wpAnyH_take (i := 1) (oi := ⟨_, _, _, _, _, _⟩) (v := ?_) rfl (by kernel_rfl) (by kernel_rfl) (by kernel_rfl) (fun _ _ _ h => h) (Or.inl ⟨by kernel_rfl, ?_⟩) (by assumption) ?_
      rotate_left
      · (intro wS hSw; (try dsimp only at hSw); go_simp; try with_reducible rfl)
      try simp only [Act.put, List.setIfInBounds_toArray, List.set_cons_zero, List.set_cons_succ]
      refine wpAnyH_take (i := 2) (oi := ⟨_, _, _, _, _, _⟩) (v := ?_) rfl (by kernel_rfl) (by kernel_rfl) (by kernel_rfl) (fun _ _ _ h => h) (Or.inl ⟨by kernel_rfl, ?_⟩) (by assumption) ?_
      rotate_left
      · (intro wS hSw; (try dsimp only at hSw); go_simp; try with_reducible rfl)
      try simp only [Act.put, List.setIfInBounds_toArray, List.set_cons_zero, List.set_cons_succ]
      refine wpAnyH_take (i := 3) (oi := ⟨_, _, _, _, _, _⟩) (v := ?_) rfl (by kernel_rfl) (by kernel_rfl) (by kernel_rfl) (fun _ _ _ h => h) (Or.inl ⟨by kernel_rfl, ?_⟩) (by assumption) ?_
      rotate_left
      · (intro wS hSw; (try dsimp only at hSw); go_simp; try with_reducible rfl)
      try simp only [Act.put, List.setIfInBounds_toArray, List.set_cons_zero, List.set_cons_succ]
      refine wpAnyH_take (i := 4) (oi := ⟨_, _, _, _, _, _⟩) (v := ?_) rfl (by kernel_rfl) (by kernel_rfl) (by kernel_rfl) (fun _ _ _ h => h) (Or.inl ⟨by kernel_rfl, ?_⟩) (by assumption) ?_
      rotate_left
      · (intro wS hSw; (try dsimp only at hSw); go_simp; try with_reducible rfl)
      try simp only [Act.put, List.setIfInBounds_toArray, List.set_cons_zero, List.set_cons_succ]
      refine wpAnyH_take (i := 5) (oi := ⟨_, _, _, _, _, _⟩) (v := ?_) rfl (by kernel_rfl) (by kernel_rfl) (by kernel_rfl) (fun _ _ _ h => h) (Or.inl ⟨by kernel_rfl, ?_⟩) (by assumption) ?_
      rotate_left
      · (intro wS hSw; (try dsimp only at hSw); go_simp; try with_reducible rfl)
      try simp only [Act.put, List.setIfInBounds_toArray, List.set_cons_zero, List.set_cons_succ]
      refine wpAnyH_take (i := 6) (oi := ⟨_, _, _, _, _, _⟩) (v := ?_) rfl (by kernel_rfl) (by kernel_rfl) (by kernel_rfl) (fun _ _ _ h => h) (Or.inl ⟨by kernel_rfl, ?_⟩) (by assumption) ?_
      rotate_left
      · (intro wS hSw; (try dsimp only at hSw); go_simp; try with_reducible rfl)
      try simp only [Act.put, List.setIfInBounds_toArray, List.set_cons_zero, List.set_cons_succ]
      refine wpAnyH_take (i := 7) (oi := ⟨_, _, _, _, _, _⟩) (v := ?_) rfl (by kernel_rfl) (by kernel_rfl) (by kernel_rfl) (fun _ _ _ h => h) (Or.inl ⟨by kernel_rfl, ?_⟩) (by assumption) ?_
      rotate_left
      · (intro wS hSw; (try dsimp only at hSw); go_simp; try with_reducible rfl)
      try simp only [Act.put, List.setIfInBounds_toArray, List.set_cons_zero, List.set_cons_succ]
      refine wpAnyH_take (i := 8) (oi := ⟨_, _, _, _, _, _⟩) (v := ?_) rfl (by kernel_rfl) (by kernel_rfl) (by kernel_rfl) (fun _ _ _ h => h) (Or.inl ⟨by kernel_rfl, ?_⟩) (by assumption) ?_
      rotate_left
      · (intro wS hSw; (try dsimp only at hSw); go_simp; try with_reducible rfl)
      try simp only [Act.put, List.setIfInBounds_toArray, List.set_cons_zero, List.set_cons_succ]
      refine wpAnyH_take (i := 9) (oi := ⟨_, _, _, _, _, _⟩) (v := ?_) rfl (by kernel_rfl) (by kernel_rfl) (by kernel_rfl) (fun _ _ _ h => h) (Or.inl ⟨by kernel_rfl, ?_⟩) (by assumption) ?_
      rotate_left
      · (intro wS hSw; (try dsimp only at hSw); go_simp; try with_reducible rfl)
      try simp only [Act.put, List.setIfInBounds_toArray, List.set_cons_zero, List.set_cons_succ]
      refine wpAnyH_take (i := 10) (oi := ⟨_, _, _, _, _, _⟩) (v := ?_) rfl (by kernel_rfl) (by kernel_rfl) (by kernel_rfl) (fun _ _ _ h => h) (Or.inl ⟨by kernel_rfl, ?_⟩) (by assumption) ?_
      rotate_left
      · (intro wS hSw; (try dsimp only at hSw); go_simp; try with_reducible rfl)
      try simp only [Act.put, List.setIfInBounds_toArray, List.set_cons_zero, List.set_cons_succ]
      refine wpAnyH_take (i := 11) (oi := ⟨_, _, _, _, _, _⟩) (v := ?_) rfl (by kernel_rfl) (by kernel_rfl) (by kernel_rfl) (fun _ _ _ h => h) (Or.inl ⟨by kernel_rfl, ?_⟩) (by assumption) ?_
      rotate_left
      · (intro wS hSw; (try dsimp only at hSw); go_simp; try with_reducible rfl)
      try simp only [Act.put, List.setIfInBounds_toArray, List.set_cons_zero, List.set_cons_succ]
      refine wpAnyH_take (i := 12) (oi := ⟨_, _, _, _, _, _⟩) (v := ?_) rfl (by kernel_rfl) (by kernel_rfl) (by kernel_rfl) (fun _ _ _ h => h) (Or.inl ⟨by kernel_rfl, ?_⟩) (by assumption) ?_
      rotate_left
      · (intro wS hSw; (try dsimp only at hSw); go_simp; try with_reducible rfl)
      try simp only [Act.put, List.setIfInBounds_toArray, List.set_cons_zero, List.set_cons_succ]
      refine wpAnyH_take (i := 13) (oi := ⟨_, _, _, _, _, _⟩) (v := ?_) rfl (by kernel_rfl) (by kernel_rfl) (by kernel_rfl) (fun _ _ _ h => h) (Or.inl ⟨by kernel_rfl, ?_⟩) (by assumption) ?_
      rotate_left
      · (intro wS hSw; (try dsimp only at hSw); go_simp; try with_reducible rfl)
      try simp only [Act.put, List.setIfInBounds_toArray, List.set_cons_zero, List.set_cons_succ]
      refine wpAnyH_take (i := 14) (oi := ⟨_, _, _, _, _, _⟩) (v := ?_) rfl (by kernel_rfl) (by kernel_rfl) (by kernel_rfl) (fun _ _ _ h => h) (Or.inl ⟨by kernel_rfl, ?_⟩) (by assumption) ?_
      rotate_left
      · (intro wS hSw; (try dsimp only at hSw); go_simp; try with_reducible rfl)
      try simp only [Act.put, List.setIfInBounds_toArray, List.set_cons_zero, List.set_cons_succ]
      refine wpAnyH_take (i := 15) (oi := ⟨_, _, _, _, _, _⟩) (v := ?_) rfl (by kernel_rfl) (by kernel_rfl) (by kernel_rfl) (fun _ _ _ h => h) (Or.inl ⟨by kernel_rfl, ?_⟩) (by assumption) ?_
      rotate_left
      · (intro wS hSw; (try dsimp only at hSw); go_simp; try with_reducible rfl)
      try simp only [Act.put, List.setIfInBounds_toArray, List.set_cons_zero, List.set_cons_succ]
      refine wpAnyH_take (i := 16) (oi := ⟨_, _, _, _, _, _⟩) (v := ?_) rfl (by kernel_rfl) (by kernel_rfl) (by kernel_rfl) (fun _ _ _ h => h) (Or.inl ⟨by kernel_rfl, ?_⟩) (by assumption) ?_
      rotate_left
      · (intro wS hSw; (try dsimp only at hSw); go_simp; try with_reducible rfl)
      try simp only [Act.put, List.setIfInBounds_toArray, List.set_cons_zero, List.set_cons_succ]
      refine wpAnyH_take (i := 17) (oi := ⟨_, _, _, _, _, _⟩) (v := ?_) rfl (by kernel_rfl) (by kernel_rfl) (by kernel_rfl) (fun _ _ _ h => h) (Or.inl ⟨by kernel_rfl, ?_⟩) (by assumption) ?_
      rotate_left
      · (intro wS hSw; (try dsimp only at hSw); go_simp; try with_reducible rfl)
      try simp only [Act.put, List.setIfInBounds_toArray, List.set_cons_zero, List.set_cons_succ]
      refine wpAnyH_take (i := 18) (oi := ⟨_, _, _, _, _, _⟩) (v := ?_) rfl (by kernel_rfl) (by kernel_rfl) (by kernel_rfl) (fun _ _ _ h => h) (Or.inl ⟨by kernel_rfl, ?_⟩) (by assumption) ?_
      rotate_left
      · (intro wS hSw; (try dsimp only at hSw); go_simp; try with_reducible rfl)
      try simp only [Act.put, List.setIfInBounds_toArray, List.set_cons_zero, List.set_cons_succ]
      refine wpAnyH_take (i := 19) (oi := ⟨_, _, _, _, _, _⟩) (v := ?_) rfl (by kernel_rfl) (by kernel_rfl) (by kernel_rfl) (fun _ _ _ h => h) (Or.inl ⟨by kernel_rfl, ?_⟩) (by assumption) ?_
      rotate_left
      · (intro wS hSw; (try dsimp only at hSw); go_simp; try with_reducible rfl)
      try simp only [Act.put, List.setIfInBounds_toArray, List.set_cons_zero, List.set_cons_succ]
      refine wpAnyH_take (i := 20) (oi := ⟨_, _, _, _, _, _⟩) (v := ?_) rfl (by kernel_rfl) (by kernel_rfl) (by kernel_rfl) (fun _ _ _ h => h) (Or.inl ⟨by kernel_rfl, ?_⟩) (by assumption) ?_
      rotate_left
      · (intro wS hSw; (try dsimp only at hSw); go_simp; try with_reducible rfl)
      try simp only [Act.put, List.setIfInBounds_toArray, List.set_cons_zero, List.set_cons_succ]
      refine wpAnyH_take (i := 21) (oi := ⟨_, _, _, _, _, _⟩) (v := ?_) rfl (by kernel_rfl) (by kernel_rfl) (by kernel_rfl) (fun _ _ _ h => h) (Or.inl ⟨by kernel_rfl, ?_⟩) (by assumption) ?_
      rotate_left
      · (intro wS hSw; (try dsimp only at hSw); go_simp; try with_reducible rfl)
      try simp only [Act.put, List.setIfInBounds_toArray, List.set_cons_zero, List.set_cons_succ]
      refine wpAnyH_take (i := 22) (oi := ⟨_, _, _, _, _, _⟩) (v := ?_) rfl (by kernel_rfl) (by kernel_rfl) (by kernel_rfl) (fun _ _ _ h => h) (Or.inl ⟨by kernel_rfl, ?_⟩) (by assumption) ?_
      rotate_left
      · (intro wS hSw; (try dsimp only at hSw); go_simp; try with_reducible rfl)
      try simp only [Act.put, List.setIfInBounds_toArray, List.set_cons_zero, List.set_cons_succ]
      refine wpAnyH_take (i := 23) (oi := ⟨_, _, _, _, _, _⟩) (v := ?_) rfl (by kernel_rfl) (by kernel_rfl) (by kernel_rfl) (fun _ _ _ h => h) (Or.inl ⟨by kernel_rfl, ?_⟩) (by assumption) ?_
      rotate_left
      · (intro wS hSw; (try dsimp only at hSw); go_simp; try with_reducible rfl)
      try simp only [Act.put, List.setIfInBounds_toArray, List.set_cons_zero, List.set_cons_succ]
      refine wpAnyH_take (i := 24) (oi := ⟨_, _, _, _, _, _⟩) (v := ?_) rfl (by kernel_rfl) (by kernel_rfl) (by kernel_rfl) (fun _ _ _ h => h) (Or.inl ⟨by kernel_rfl, ?_⟩) (by assumption) ?_
      rotate_left
      · (intro wS hSw; (try dsimp only at hSw); go_simp; try with_reducible rfl)
      try simp only [Act.put, List.setIfInBounds_toArray, List.set_cons_zero, List.set_cons_succ]
      refine wpAnyH_take (i := 25) (oi := ⟨_, _, _, _, _, _⟩) (v := ?_) rfl (by kernel_rfl) (by kernel_rfl) (by kernel_rfl) (fun _ _ _ h => h) (Or.inl ⟨by kernel_rfl, ?_⟩) (by assumption) ?_
      rotate_left
      · (intro wS hSw; (try dsimp only at hSw); go_simp; try with_reducible rfl)
      try simp only [Act.put, List.setIfInBounds_toArray, List.set_cons_zero, List.set_cons_succ]
      refine wpAnyH_take (i := 26) (oi := ⟨_, _, _, _, _, _⟩) (v := ?_) rfl (by kernel_rfl) (by kernel_rfl) (by kernel_rfl) (fun _ _ _ h => h) (Or.inl ⟨by kernel_rfl, ?_⟩) (by assumption) ?_
      rotate_left
      · (intro wS hSw; (try dsimp only at hSw); go_simp; try with_reducible rfl)
      try simp only [Act.put, List.setIfInBounds_toArray, List.set_cons_zero, List.set_cons_succ]
      refine wpAnyH_take (i := 27) (oi := ⟨_, _, _, _, _, _⟩) (v := ?_) rfl (by kernel_rfl) (by kernel_rfl) (by kernel_rfl) (fun _ _ _ h => h) (Or.inl ⟨by kernel_rfl, ?_⟩) (by assumption) ?_
      rotate_left
      · (intro wS hSw; (try dsimp only at hSw); go_simp; try with_reducible rfl)
      try simp only [Act.put, List.setIfInBounds_toArray, List.set_cons_zero, List.set_cons_succ]
      refine wpAnyH_take (i := 28) (oi := ⟨_, _, _, _, _, _⟩) (v := ?_) rfl (by kernel_rfl) (by kernel_rfl) (by kernel_rfl) (fun _ _ _ h => h) (Or.inl ⟨by kernel_rfl, ?_⟩) (by assumption) ?_
      rotate_left
      · (intro wS hSw; (try dsimp only at hSw); go_simp; try with_reducible rfl)
      try simp only [Act.put, List.setIfInBounds_toArray, List.set_cons_zero, List.set_cons_succ]
      refine wpAnyH_take (i := 29) (oi := ⟨_, _, _, _, _, _⟩) (v := ?_) rfl (by kernel_rfl) (by kernel_rfl) (by kernel_rfl) (fun _ _ _ h => h) (Or.inl ⟨by kernel_rfl, ?_⟩) (by assumption) ?_
      rotate_left
      · (intro wS hSw; (try dsimp only at hSw); go_simp; try with_reducible rfl)
      try simp only [Act.put, List.setIfInBounds_toArray, List.set_cons_zero, List.set_cons_succ]
      refine wpAnyH_take (i := 30) (oi := ⟨_, _, _, _, _, _⟩) (v := ?_) rfl (by kernel_rfl) (by kernel_rfl) (by kernel_rfl) (fun _ _ _ h => h) (Or.inl ⟨by kernel_rfl, ?_⟩) (by assumption) ?_
      rotate_left
      · (intro wS hSw; (try dsimp only at hSw); go_simp; try with_reducible rfl)
      try simp only [Act.put, List.setIfInBounds_toArray, List.set_cons_zero, List.set_cons_succ]
      refine wpAnyH_take (i := 31) (oi := ⟨_, _, _, _, _, _⟩) (v := ?_) rfl (by kernel_rfl) (by kernel_rfl) (by kernel_rfl) (fun _ _ _ h => h) (Or.inl ⟨by kernel_rfl, ?_⟩) (by assumption) ?_
      rotate_left
      · (intro wS hSw; (try dsimp only at hSw); go_simp; try with_reducible rfl)
      try simp only [Act.put, List.setIfInBounds_toArray, List.set_cons_zero, List.set_cons_succ]
      refine wpAnyH_take (i := 32) (oi := ⟨_, _, _, _, _, _⟩) (v := ?_) rfl (by kernel_rfl) (by kernel_rfl) (by kernel_rfl) (fun _ _ _ h => h) (Or.inl ⟨by kernel_rfl, ?_⟩) (by assumption) ?_
      rotate_left
      · (intro wS hSw; (try dsimp only at hSw); go_simp; try with_reducible rfl)
      try simp only [Act.put, List.setIfInBounds_toArray, List.set_cons_zero, List.set_cons_succ]
      refine wpAnyH_take (i := 33) (oi := ⟨_, _, _, _, _, _⟩) (v := ?_) rfl (by kernel_rfl) (by kernel_rfl) (by kernel_rfl) (fun _ _ _ h => h) (Or.inl ⟨by kernel_rfl, ?_⟩) (by assumption) ?_
      rotate_left
      · (intro wS hSw; (try dsimp only at hSw); go_simp; try with_reducible rfl)
      try simp only [Act.put, List.setIfInBounds_toArray, List.set_cons_zero, List.set_cons_succ]
      refine wpAnyH_take (i := 34) (oi := ⟨_, _, _, _, _, _⟩) (v := ?_) rfl (by kernel_rfl) (by kernel_rfl) (by kernel_rfl) (fun _ _ _ h => h) (Or.inl ⟨by kernel_rfl, ?_⟩) (by assumption) ?_
      rotate_left
      · (intro wS hSw; (try dsimp only at hSw); go_simp; try with_reducible rfl)
      try simp only [Act.put, List.setIfInBounds_toArray, List.set_cons_zero, List.set_cons_succ]
      refine wpAnyH_take (i := 35) (oi := ⟨_, _, _, _, _, _⟩) (v := ?_) rfl (by kernel_rfl) (by kernel_rfl) (by kernel_rfl) (fun _ _ _ h => h) (Or.inl ⟨by kernel_rfl, ?_⟩) (by assumption) ?_
      rotate_left
      · (intro wS hSw; (try dsimp only at hSw); go_simp; try with_reducible rfl)
      try simp only [Act.put, List.setIfInBounds_toArray, List.set_cons_zero, List.set_cons_succ]
      refine wpAnyH_take (i := 36) (oi := ⟨_, _, _, _, _, _⟩) (v := ?_) rfl (by kernel_rfl) (by kernel_rfl) (by kernel_rfl) (fun _ _ _ h => h) (Or.inl ⟨by kernel_rfl, ?_⟩) (by assumption) ?_
      rotate_left
      · (intro wS hSw; (try dsimp only at hSw); go_simp; try with_reducible rfl)
      try simp only [Act.put, List.setIfInBounds_toArray, List.set_cons_zero, List.set_cons_succ]
      refine wpAnyH_take (i := 37) (oi := ⟨_, _, _, _, _, _⟩) (v := ?_) rfl (by kernel_rfl) (by kernel_rfl) (by kernel_rfl) (fun _ _ _ h => h) (Or.inl ⟨by kernel_rfl, ?_⟩) (by assumption) ?_
      rotate_left
      · (intro wS hSw; (try dsimp only at hSw); go_simp; try with_reducible rfl)
      try simp only [Act.put, List.setIfInBounds_toArray, List.set_cons_zero, List.set_cons_succ]
      refine wpAnyH_take (i := 38) (oi := ⟨_, _, _, _, _, _⟩) (v := ?_) rfl (by kernel_rfl) (by kernel_rfl) (by kernel_rfl) (fun _ _ _ h => h) (Or.inl ⟨by kernel_rfl, ?_⟩) (by assumption) ?_
      rotate_left
      · (intro wS hSw; (try dsimp only at hSw); go_simp; try with_reducible rfl)
      try simp only [Act.put, List.setIfInBounds_toArray, List.set_cons_zero, List.set_cons_succ]
      refine wpAnyH_take (i := 39) (oi := ⟨_, _, _, _, _, _⟩) (v := ?_) rfl (by kernel_rfl) (by kernel_rfl) (by kernel_rfl) (fun _ _ _ h => h) (Or.inl ⟨by kernel_rfl, ?_⟩) (by assumption) ?_
      rotate_left
      · (intro wS hSw; (try dsimp only at hSw); go_simp; try with_reducible rfl)
      try simp only [Act.put, List.setIfInBounds_toArray, List.set_cons_zero, List.set_cons_succ]
      refine wpAnyH_take (i := 40) (oi := ⟨_, _, _, _, _, _⟩) (v := ?_) rfl (by kernel_rfl) (by kernel_rfl) (by kernel_rfl) (fun _ _ _ h => h) (Or.inl ⟨by kernel_rfl, ?_⟩) (by assumption) ?_
      rotate_left
      · (intro wS hSw; (try dsimp only at hSw); go_simp; try with_reducible rfl)
      try simp only [Act.put, List.setIfInBounds_toArray, List.set_cons_zero, List.set_cons_succ]
      refine wpAnyH_take (i := 41) (oi := ⟨_, _, _, _, _, _⟩) (v := ?_) rfl (by kernel_rfl) (by kernel_rfl) (by kernel_rfl) (fun _ _ _ h => h) (Or.inl ⟨by kernel_rfl, ?_⟩) (by assumption) ?_
      rotate_left
      · (intro wS hSw; (try dsimp only at hSw); go_simp; try with_reducible rfl)
      try simp only [Act.put, List.setIfInBounds_toArray, List.set_cons_zero, List.set_cons_succ]
      refine wpAnyH_take (i := 42) (oi := ⟨_, _, _, _, _, _⟩) (v := ?_) rfl (by kernel_rfl) (by kernel_rfl) (by kernel_rfl) (fun _ _ _ h => h) (Or.inl ⟨by kernel_rfl, ?_⟩) (by assumption) ?_
      rotate_left
      · (intro wS hSw; (try dsimp only at hSw); go_simp; try with_reducible rfl)
      try simp only [Act.put, List.setIfInBounds_toArray, List.set_cons_zero, List.set_cons_succ]
      refine wpAnyH_take (i := 43) (oi := ⟨_, _, _, _, _, _⟩) (v := ?_) rfl (by kernel_rfl) (by kernel_rfl) (by kernel_rfl) (fun _ _ _ h => h) (Or.inl ⟨by kernel_rfl, ?_⟩) (by assumption) ?_
      rotate_left
      · (intro wS hSw; (try dsimp only at hSw); go_simp; try with_reducible rfl)
      try simp only [Act.put, List.setIfInBounds_toArray, List.set_cons_zero, List.set_cons_succ]
      refine wpAnyH_take (i := 44) (oi := ⟨_, _, _, _, _, _⟩) (v := ?_) rfl (by kernel_rfl) (by kernel_rfl) (by kernel_rfl) (fun _ _ _ h => h) (Or.inl ⟨by kernel_rfl, ?_⟩) (by assumption) ?_
      rotate_left
      · (intro wS hSw; (try dsimp only at hSw); go_simp; try with_reducible rfl)
      try simp only [Act.put, List.setIfInBounds_toArray, List.set_cons_zero, List.set_cons_succ]
      refine wpAnyH_take (i := 45) (oi := ⟨_, _, _, _, _, _⟩) (v := ?_) rfl (by kernel_rfl) (by kernel_rfl) (by kernel_rfl) (fun _ _ _ h => h) (Or.inl ⟨by kernel_rfl, ?_⟩) (by assumption) ?_
      rotate_left
      · (intro wS hSw; (try dsimp only at hSw); go_simp; try with_reducible rfl)
      try simp only [Act.put, List.setIfInBounds_toArray, List.set_cons_zero, List.set_cons_succ]
      refine wpAnyH_take (i := 46) (oi := ⟨_, _, _, _, _, _⟩) (v := ?_) rfl (by kernel_rfl) (by kernel_rfl) (by kernel_rfl) (fun _ _ _ h => h) (Or.inl ⟨by kernel_rfl, ?_⟩) (by assumption) ?_
      rotate_left
      · (intro wS hSw; (try dsimp only at hSw); go_simp; try with_reducible rfl)
      try simp only [Act.put, List.setIfInBounds_toArray, List.set_cons_zero, List.set_cons_succ]
      refine wpAnyH_ready (rs := [47]) (by kernel_rfl) (by simp) (AllReadyH.cons (o := _) rfl (fun K hK => ?b2y1x47) AllReadyH.nil)
      go_simp; go_at_call 20; refine (alike_any _ _ (Ow.nms [[97], [98]]) 0 0 w20.drew (Ow.said_names l2_20.out.1 rfl) (Ow.said_names l1_20.out.1 rfl) (by show 2 ≤ _; omega) (by show 0 ≤ _; omega)).mono ?_; rintro e w21 ⟨rfl, hb⟩; obtain ⟨c21, hs, hj⟩ := Ow.step_new 77 9 (w := w20) (c := c20) ((below_drewN (Below.refl _ w20) 1).trans hb); have W21 : Hid (Ow.WDc w21 c21 q p (Ow.kz 13) (Ow.S7 d x o)) := Lib.hid (W20.out.step hs (by decide)); have L21 := Lib.hid (L20.out.step hs (by decide)); have r1_21 : Hid (RowK w21 c21 11 5 (.slice ar1 n cr1) n (d.map B8)) := Lib.hid (Ow.row_step r1_20.out hs (by decide)); clear r1_20; have r2_21 : Hid (RowK w21 c21 12 5 (.slice ar2 m cr2) m (o.map B8)) := Lib.hid (Ow.row_step r2_20.out hs (by decide)); clear r2_20; have r3_21 : Hid (RowK w21 c21 13 5 (.slice ar3 n cr3) n (d.map B8)) := Lib.hid (Ow.row_step r3_20.out hs (by decide)); clear r3_20; have l1_21 : Hid (RowK w21 c21 14 9 (.slice (some ⟨gl, 0, none⟩) 2 cl1) 2 ([[97], [98]].map strV)) := Lib.hid (Ow.row_step l1_20.out hs (by decide)); clear l1_20; have l2_21 : Hid (RowK w21 c21 15 9 (.slice al2 2 cl2) 2 ([[97], [98]].map strV)) := Lib.hid (Ow.row_step l2_20.out hs (by decide)); clear l2_20; clear hb hs hj L20 W20; have h1 : (convert 22 9 (.slice ar1 n cr1)).run Try.prog w21 = .ok (.string sd) w21 := (Ow.conv_reads ((Ow.row_reads r1_21.out)) HDL.out cr1).trans (by rw [HSD.out]); have h2 : (convert 22 9 (.slice A0 n c0)).run Try.prog w21 = .ok (.string sd) w21 := (Ow.conv_reads ((HRD.out _ L21.out.below)) HDL.out c0).trans (by rw [HSD.out]); have h3 : (convert 22 9 (.slice ar2 m cr2)).run Try.prog w21 = .ok (.string so) w21 := (Ow.conv_reads ((Ow.row_reads r2_21.out)) HOL.out cr2).trans (by rw [HSO.out]); have h4 : (convert 22 9 (.slice A1 m c1)).run Try.prog w21 = .ok (.string so) w21 := (Ow.conv_reads ((HRO.out _ L21.out.below)) HOL.out c1).trans (by rw [HSO.out]); have h5 : (convert 22 9 (.slice ar3 n cr3)).run Try.prog w21 = .ok (.string sd) w21 := (Ow.conv_reads ((Ow.row_reads r3_21.out)) HDL.out cr3).trans (by rw [HSD.out]); have h6 : w21.cell? ⟨gl, 0, none⟩ = some (.string ⟨#[97]⟩) := l1_21.out.1.cellAt 0 (by decide); have h7 : w21.cell? ⟨gl, 1, none⟩ = some (.string ⟨#[98]⟩) := l1_21.out.1.cellAt 1 (by decide)
      refine hK.out _ _ ?_ (fun hHeld => ?_)
      · ((try dsimp only); (first | exact ⟨f1, f2, f3, f4, f5, f6, f7⟩ | exact ⟨h1, h2, h3, h4, h5, h6, h7⟩))
      clear hK K; try simp only [Act.put, List.setIfInBounds_toArray, List.set_cons_zero, List.set_cons_succ]
      refine wpAnyH_take (i := 48) (oi := ⟨_, _, _, _, _, _⟩) (v := ?_) rfl (by kernel_rfl) (by kernel_rfl) (by kernel_rfl) (fun _ _ _ h => h) (Or.inl ⟨by kernel_rfl, ?_⟩) (by assumption) ?_
      rotate_left
      · (intro wS hSw; (try dsimp only at hSw); go_simp; try with_reducible rfl)
      try simp only [Act.put, List.setIfInBounds_toArray, List.set_cons_zero, List.set_cons_succ]
      refine wpAnyH_take (i := 49) (oi := ⟨_, _, _, _, _, _⟩) (v := ?_) rfl (by kernel_rfl) (by kernel_rfl) (by kernel_rfl) (fun _ _ _ h => h) (Or.inl ⟨by kernel_rfl, ?_⟩) (by assumption) ?_
      rotate_left
      · (intro wS hSw; (try dsimp only at hSw); go_simp; try with_reducible rfl)
      try simp only [Act.put, List.setIfInBounds_toArray, List.set_cons_zero, List.set_cons_succ]
      refine wpAnyH_done (by kernel_rfl) ?_ _
      clear f1 f2 f3 f4 f5 f6 f7 h1 h2 h3 h4 h5 h6 h7
      go_wp2_with fail
      refine (Ow.apart_here w21 c21 _ _ _ _ _ _ _ _ _ _ _ _ _ _ _ _ _ r1_21.out r2_21.out r3_21.out l1_21.out l2_21.out hn9 hm9).mono ?_
      rintro e w22 ⟨rfl, ht⟩
      obtain ⟨c22, hl, hw⟩ := Ow.step_set L21.out W21.out ht (fun k hk => ⟨by omega, by omega⟩)
      have L22 := Lib.hid hl
      have W22 : Hid (Ow.WDc w22 c22 q p (Ow.kz 13) (Ow.S7 d x o)) := Lib.hid hw
      clear hl hw ht L21 W21 r1_21 r2_21 r3_21 l1_21 l2_21
      have ht1 := Int.tmod_lt_of_pos at_ (show (0 : Int) < 6 by omega)
      have ht2 : -6 < at_.tmod 6 := by
        have := Int.tmod_lt_of_pos (-at_) (show (0 : Int) < 6 by omega)
        rw [Int.neg_tmod] at this; omega
      have ht3 := Int.tmod_lt_of_pos (at_.tmod 6 + 6) (show (0 : Int) < 6 by omega)
      have ht4 := Int.tmod_nonneg 6 (show 0 ≤ at_.tmod 6 + 6 by omega)
      obtain ⟨z, hz⟩ : ∃ z, z = (at_.tmod 6 + 6).tmod 6 := ⟨_, rfl⟩
      rw [← hz] at ht3 ht4
      obtain ⟨k, rfl⟩ : ∃ k : Nat, z = k := ⟨z.toNat, by omega⟩
      have hk6 : k < 6 := by omega
      have hzz : (at_.tmod 6 + 6).tmod 6 = (k : Int) := hz.symm
      clear hz ht3 ht4
      go_wp2_with fail
      refine (Ow.arm_here L22.out W22.out k).mono ?_
      rintro e w23 ⟨rfl, hB, c23, hl, hw, h20⟩
      have g0 : w23.cell? ⟨w22.heap.size, 0, none⟩ = some (.int .i64 (k : Int)) := hB.cell 0
      have g1 : w23.cell? ⟨w22.heap.size, 1, none⟩ = some (.int .i64 1) := hB.cell 1
      have g2 : w23.cell? ⟨w22.heap.size, 2, none⟩ = some (.int .i64 99) := hB.cell 2
      have gf : ∀ j, w23.frozen? ⟨w22.heap.size, j, none⟩ = false := fun j => hB.frozen j
      obtain ⟨c24, hl2, hw2⟩ := Ow.step_set (w' := (w23.setCell ⟨w22.heap.size, 0, none⟩ (.int .i64 77)).setCell ⟨w22.heap.size, 1, none⟩ (.int .i64 2)) hl hw (F := fun b => b = w22.heap.size) (((Touch.refl (fun b => b = w22.heap.size) w23).put (p := ⟨w22.heap.size, 0, none⟩) rfl (.int .i64 77)).put (p := ⟨w22.heap.size, 1, none⟩) rfl (.int .i64 2)) (fun b hb => by rw [hb, h20]; exact ⟨by decide, by decide⟩)
      have HD24 := Lib.hid (hl2.wdb hw2)
      have HB24 := Lib.hid hl2.below
      clear hB hl hw hl2 hw2 h20 L22 W22
      go_wp2_with fail
      clear g0 g1 g2 gf
      go_loopw [26, 27, 28] (fun s26 _ _ wx => ∃ j : Nat, j ≤ 7 ∧ s26 = .int .i64 j ∧ WDb wx w.heap.size q p (Ow.kA k j) (Ow.S7 d x o) ∧ Below w.heap.size w wx) (fun s _ _ _ => 7 - (intOf s).toNat)
      case atStart => exact ⟨0, Nat.zero_le _, rfl, HD24.out, HB24.out⟩
      case round =>
        obtain ⟨j, hj, rfl, hdj, hbj⟩ := hrel
        have HDJ := Lib.hid hdj
        have HBJ := Lib.hid hbj
        clear hdj hbj
        by_cases hj2 : j < 7
        · go_wp2_with fail
          refine (wread_any q p (Ow.kA k j) (Ow.S7 d x o) _ ⟨#[97]⟩ _ (by decide) HDJ.out (Ow.aok (by omega) (by omega)) (Ow.s7 d x o)).mono ?_
          rintro e wn ⟨v, rfl, ho, hd, ht⟩
          rw [show (ByteArray.mk #[97]).data.toList = [97] from rfl, Ow.ra HD9.out HXL.out HO9.out, Ow.aread] at hd ho ⊢
          have hbn := ht.below HBJ.out.size fun k hk => hk.1
          have HBN : Hid (Below w.heap.size w wn) := Lib.hid (HBJ.out.trans hbn)
          have hsz := ht.size
          have HDD : Hid (∀ Z, WD wn q p Z (Ow.S7 d x o) (fun k => w.heap.size ≤ k ∧ k < wr.heap.size) → WDb wn w.heap.size q p Z (Ow.S7 d x o)) := Lib.hid fun Z h => h.mono fun b hb => ⟨hb.1, Nat.lt_of_lt_of_le hb.2 hsz⟩
          clear ht hbn hsz
          by_cases hjk : k = j
          · subst hjk
            rw [if_pos rfl] at hd ho ⊢
            have ho2 : wn.ownsRow wr.heap.size 5 1 v 0 [] := ho
            obtain ⟨av, cv, rfl, _⟩ := own_shape ho2
            have HDN : Hid (WDb wn w.heap.size q p (Ow.kA k ((k : Int) + 1)) (Ow.S7 d x o)) := Lib.hid (HDD.out _ hd)
            clear hd ho ho2
            have f2 : (convert 22 9 (.slice A0 n c0)).run Try.prog wn.drew = .ok (.string sd) wn.drew := (Ow.conv_reads (HRD.out _ HBN.out).drew HDL.out c0).trans (by rw [HSD.out])
            go_wp2_with fail
            refine wp_region_held_drew (S := (fun w' => (convert 22 9 (.slice A0 n c0)).run Try.prog w' = .ok (.string sd) w')) (by kernel_rfl) ?_ (fun hHeld => ?_)
            · ((try dsimp only); exact f2)
            refine wpAnyH_take (i := 0) (oi := ⟨_, _, _, _, _, _⟩) (v := ?_) rfl (by kernel_rfl) (by kernel_rfl) (by kernel_rfl) (fun _ _ _ h => h) (Or.inl ⟨by kernel_rfl, ?_⟩) (by assumption) ?_
            rotate_left
            · (intro wS hSw; (try dsimp only at hSw); go_simp; try with_reducible rfl)
            try simp only [Act.put, List.setIfInBounds_toArray, List.set_cons_zero, List.set_cons_succ]
            refine wpAnyH_take (i := 1) (oi := ⟨_, _, _, _, _, _⟩) (v := ?_) rfl (by kernel_rfl) (by kernel_rfl) (by kernel_rfl) (fun _ _ _ h => h) (Or.inl ⟨by kernel_rfl, ?_⟩) (by assumption) ?_
            rotate_left
            · (intro wS hSw; (try dsimp only at hSw); go_simp; try with_reducible rfl)
            try simp only [Act.put, List.setIfInBounds_toArray, List.set_cons_zero, List.set_cons_succ]
            refine wpAnyH_take (i := 2) (oi := ⟨_, _, _, _, _, _⟩) (v := ?_) rfl (by kernel_rfl) (by kernel_rfl) (by kernel_rfl) (fun _ _ _ h => h) (Or.inl ⟨by kernel_rfl, ?_⟩) (by assumption) ?_
            rotate_left
            · (intro wS hSw; (try dsimp only at hSw); go_simp; try with_reducible rfl)
            try simp only [Act.put, List.setIfInBounds_toArray, List.set_cons_zero, List.set_cons_succ]
            refine wpAnyH_take (i := 3) (oi := ⟨_, _, _, _, _, _⟩) (v := ?_) rfl (by kernel_rfl) (by kernel_rfl) (by kernel_rfl) (fun _ _ _ h => h) (Or.inl ⟨by kernel_rfl, ?_⟩) (by assumption) ?_
            rotate_left
            · (intro wS hSw; (try dsimp only at hSw); go_simp; try with_reducible rfl)
            try simp only [Act.put, List.setIfInBounds_toArray, List.set_cons_zero, List.set_cons_succ]
            refine wpAnyH_take (i := 4) (oi := ⟨_, _, _, _, _, _⟩) (v := ?_) rfl (by kernel_rfl) (by kernel_rfl) (by kernel_rfl) (fun _ _ _ h => h) (Or.inl ⟨by kernel_rfl, ?_⟩) (by assumption) ?_
            rotate_left
            · (intro wS hSw; (try dsimp only at hSw); go_simp; try with_reducible rfl)
            try simp only [Act.put, List.setIfInBounds_toArray, List.set_cons_zero, List.set_cons_succ]
            refine wpAnyH_take (i := 5) (oi := ⟨_, _, _, _, _, _⟩) (v := ?_) rfl (by kernel_rfl) (by kernel_rfl) (by kernel_rfl) (fun _ _ _ h => h) (Or.inl ⟨by kernel_rfl, ?_⟩) (by assumption) ?_
            rotate_left
            · (intro wS hSw; (try dsimp only at hSw); go_simp; try with_reducible rfl)
            try simp only [Act.put, List.setIfInBounds_toArray, List.set_cons_zero, List.set_cons_succ]
            refine wpAnyH_take (i := 6) (oi := ⟨_, _, _, _, _, _⟩) (v := ?_) rfl (by kernel_rfl) (by kernel_rfl) (by kernel_rfl) (fun _ _ _ h => h) (Or.inl ⟨by kernel_rfl, ?_⟩) (by assumption) ?_
            rotate_left
            · (intro wS hSw; (try dsimp only at hSw); go_simp; try with_reducible rfl)
            try simp only [Act.put, List.setIfInBounds_toArray, List.set_cons_zero, List.set_cons_succ]
            refine wpAnyH_take (i := 7) (oi := ⟨_, _, _, _, _, _⟩) (v := ?_) rfl (by kernel_rfl) (by kernel_rfl) (by kernel_rfl) (fun _ _ _ h => h) (Or.inl ⟨by kernel_rfl, ?_⟩) (by assumption) ?_
            rotate_left
            · (intro wS hSw; (try dsimp only at hSw); go_simp; try with_reducible rfl)
            try simp only [Act.put, List.setIfInBounds_toArray, List.set_cons_zero, List.set_cons_succ]
            refine wpAnyH_take (i := 8) (oi := ⟨_, _, _, _, _, _⟩) (v := ?_) rfl (by kernel_rfl) (by kernel_rfl) (by kernel_rfl) (fun _ _ _ h => h) (Or.inl ⟨by kernel_rfl, ?_⟩) (by assumption) ?_
            rotate_left
            · (intro wS hSw; (try dsimp only at hSw); go_simp; try with_reducible rfl)
            try simp only [Act.put, List.setIfInBounds_toArray, List.set_cons_zero, List.set_cons_succ]
            refine wpAnyH_take (i := 9) (oi := ⟨_, _, _, _, _, _⟩) (v := ?_) rfl (by kernel_rfl) (by kernel_rfl) (by kernel_rfl) (fun _ _ _ h => h) (Or.inl ⟨by kernel_rfl, ?_⟩) (by assumption) ?_
            rotate_left
            · (intro wS hSw; (try dsimp only at hSw); go_simp; try with_reducible rfl)
            try simp only [Act.put, List.setIfInBounds_toArray, List.set_cons_zero, List.set_cons_succ]
            refine wpAnyH_take (i := 10) (oi := ⟨_, _, _, _, _, _⟩) (v := ?_) rfl (by kernel_rfl) (by kernel_rfl) (by kernel_rfl) (fun _ _ _ h => h) (Or.inl ⟨by kernel_rfl, ?_⟩) (by assumption) ?_
            rotate_left
            · (intro wS hSw; (try dsimp only at hSw); go_simp; try with_reducible rfl)
            try simp only [Act.put, List.setIfInBounds_toArray, List.set_cons_zero, List.set_cons_succ]
            refine wpAnyH_take (i := 11) (oi := ⟨_, _, _, _, _, _⟩) (v := undef) rfl (by kernel_rfl) (by kernel_rfl) (by kernel_rfl) (fun _ _ _ h => h) (Or.inr ⟨by kernel_rfl, rfl⟩) (by assumption) ?_
            try simp only [Act.put, List.setIfInBounds_toArray, List.set_cons_zero, List.set_cons_succ]
            refine wpAnyH_take (i := 12) (oi := ⟨_, _, _, _, _, _⟩) (v := undef) rfl (by kernel_rfl) (by kernel_rfl) (by kernel_rfl) (fun _ _ _ h => h) (Or.inr ⟨by kernel_rfl, rfl⟩) (by assumption) ?_
            try simp only [Act.put, List.setIfInBounds_toArray, List.set_cons_zero, List.set_cons_succ]
            refine wpAnyH_take (i := 13) (oi := ⟨_, _, _, _, _, _⟩) (v := undef) rfl (by kernel_rfl) (by kernel_rfl) (by kernel_rfl) (fun _ _ _ h => h) (Or.inr ⟨by kernel_rfl, rfl⟩) (by assumption) ?_
            try simp only [Act.put, List.setIfInBounds_toArray, List.set_cons_zero, List.set_cons_succ]
            refine wpAnyH_take (i := 14) (oi := ⟨_, _, _, _, _, _⟩) (v := undef) rfl (by kernel_rfl) (by kernel_rfl) (by kernel_rfl) (fun _ _ _ h => h) (Or.inr ⟨by kernel_rfl, rfl⟩) (by assumption) ?_
            try simp only [Act.put, List.setIfInBounds_toArray, List.set_cons_zero, List.set_cons_succ]
            refine wpAnyH_take (i := 15) (oi := ⟨_, _, _, _, _, _⟩) (v := undef) rfl (by kernel_rfl) (by kernel_rfl) (by kernel_rfl) (fun _ _ _ h => h) (Or.inr ⟨by kernel_rfl, rfl⟩) (by assumption) ?_
            try simp only [Act.put, List.setIfInBounds_toArray, List.set_cons_zero, List.set_cons_succ]
            refine wpAnyH_take (i := 16) (oi := ⟨_, _, _, _, _, _⟩) (v := undef) rfl (by kernel_rfl) (by kernel_rfl) (by kernel_rfl) (fun _ _ _ h => h) (Or.inr ⟨by kernel_rfl, rfl⟩) (by assumption) ?_
            try simp only [Act.put, List.setIfInBounds_toArray, List.set_cons_zero, List.set_cons_succ]
            refine wpAnyH_take (i := 17) (oi := ⟨_, _, _, _, _, _⟩) (v := undef) rfl (by kernel_rfl) (by kernel_rfl) (by kernel_rfl) (fun _ _ _ h => h) (Or.inr ⟨by kernel_rfl, rfl⟩) (by assumption) ?_
            try simp only [Act.put, List.setIfInBounds_toArray, List.set_cons_zero, List.set_cons_succ]
            refine wpAnyH_take (i := 18) (oi := ⟨_, _, _, _, _, _⟩) (v := undef) rfl (by kernel_rfl) (by kernel_rfl) (by kernel_rfl) (fun _ _ _ h => h) (Or.inr ⟨by kernel_rfl, rfl⟩) (by assumption) ?_
            try simp only [Act.put, List.setIfInBounds_toArray, List.set_cons_zero, List.set_cons_succ]
            refine wpAnyH_take (i := 19) (oi := ⟨_, _, _, _, _, _⟩) (v := undef) rfl (by kernel_rfl) (by kernel_rfl) (by kernel_rfl) (fun _ _ _ h => h) (Or.inr ⟨by kernel_rfl, rfl⟩) (by assumption) ?_
            try simp only [Act.put, List.setIfInBounds_toArray, List.set_cons_zero, List.set_cons_succ]
            refine wpAnyH_take (i := 20) (oi := ⟨_, _, _, _, _, _⟩) (v := undef) rfl (by kernel_rfl) (by kernel_rfl) (by kernel_rfl) (fun _ _ _ h => h) (Or.inr ⟨by kernel_rfl, rfl⟩) (by assumption) ?_
            try simp only [Act.put, List.setIfInBounds_toArray, List.set_cons_zero, List.set_cons_succ]
            refine wpAnyH_take (i := 21) (oi := ⟨_, _, _, _, _, _⟩) (v := undef) rfl (by kernel_rfl) (by kernel_rfl) (by kernel_rfl) (fun _ _ _ h => h) (Or.inr ⟨by kernel_rfl, rfl⟩) (by assumption) ?_
            try simp only [Act.put, List.setIfInBounds_toArray, List.set_cons_zero, List.set_cons_succ]
            refine wpAnyH_take (i := 22) (oi := ⟨_, _, _, _, _, _⟩) (v := ?_) rfl (by kernel_rfl) (by kernel_rfl) (by kernel_rfl) (fun _ _ _ h => h) (Or.inl ⟨by kernel_rfl, ?_⟩) (by assumption) ?_
            rotate_left
            · (intro wS hSw; (try dsimp only at hSw); go_simp; try with_reducible rfl)
            try simp only [Act.put, List.setIfInBounds_toArray, List.set_cons_zero, List.set_cons_succ]
            refine wpAnyH_take (i := 23) (oi := ⟨_, _, _, _, _, _⟩) (v := ?_) rfl (by kernel_rfl) (by kernel_rfl) (by kernel_rfl) (fun _ _ _ h => h) (Or.inl ⟨by kernel_rfl, ?_⟩) (by assumption) ?_
            rotate_left
            · (intro wS hSw; (try dsimp only at hSw); go_simp; try with_reducible rfl)
            try simp only [Act.put, List.setIfInBounds_toArray, List.set_cons_zero, List.set_cons_succ]
            refine wpAnyH_take (i := 24) (oi := ⟨_, _, _, _, _, _⟩) (v := ?_) rfl (by kernel_rfl) (by kernel_rfl) (by kernel_rfl) (fun _ _ _ h => h) (Or.inl ⟨by kernel_rfl, ?_⟩) (by assumption) ?_
            rotate_left
            · (intro wS hSw; (try dsimp only at hSw); go_simp; try with_reducible rfl)
            try simp only [Act.put, List.setIfInBounds_toArray, List.set_cons_zero, List.set_cons_succ]
            refine wpAnyH_take (i := 25) (oi := ⟨_, _, _, _, _, _⟩) (v := ?_) rfl (by kernel_rfl) (by kernel_rfl) (by kernel_rfl) (fun _ _ _ h => h) (Or.inl ⟨by kernel_rfl, ?_⟩) (by assumption) ?_
            rotate_left
            · (intro wS hSw; (try dsimp only at hSw); go_simp; try with_reducible rfl)
            try simp only [Act.put, List.setIfInBounds_toArray, List.set_cons_zero, List.set_cons_succ]
            refine wpAnyH_take (i := 26) (oi := ⟨_, _, _, _, _, _⟩) (v := ?_) rfl (by kernel_rfl) (by kernel_rfl) (by kernel_rfl) (fun _ _ _ h => h) (Or.inl ⟨by kernel_rfl, ?_⟩) (by assumption) ?_
            rotate_left
            · (intro wS hSw; (try dsimp only at hSw); go_simp; try with_reducible rfl)
            try simp only [Act.put, List.setIfInBounds_toArray, List.set_cons_zero, List.set_cons_succ]
            refine wpAnyH_take (i := 27) (oi := ⟨_, _, _, _, _, _⟩) (v := ?_) rfl (by kernel_rfl) (by kernel_rfl) (by kernel_rfl) (fun _ _ _ h => h) (Or.inl ⟨by kernel_rfl, ?_⟩) (by assumption) ?_
            rotate_left
            · (intro wS hSw; (try dsimp only at hSw); go_simp; try with_reducible rfl)
            try simp only [Act.put, List.setIfInBounds_toArray, List.set_cons_zero, List.set_cons_succ]
            refine wpAnyH_take (i := 28) (oi := ⟨_, _, _, _, _, _⟩) (v := ?_) rfl (by kernel_rfl) (by kernel_rfl) (by kernel_rfl) (fun _ _ _ h => h) (Or.inl ⟨by kernel_rfl, ?_⟩) (by assumption) ?_
            rotate_left
            · (intro wS hSw; (try dsimp only at hSw); go_simp; try with_reducible rfl)
            try simp only [Act.put, List.setIfInBounds_toArray, List.set_cons_zero, List.set_cons_succ]
            refine wpAnyH_take (i := 29) (oi := ⟨_, _, _, _, _, _⟩) (v := ?_) rfl (by kernel_rfl) (by kernel_rfl) (by kernel_rfl) (fun _ _ _ h => h) (Or.inl ⟨by kernel_rfl, ?_⟩) (by assumption) ?_
            rotate_left
            · (intro wS hSw; (try dsimp only at hSw); go_simp; try with_reducible rfl)
            try simp only [Act.put, List.setIfInBounds_toArray, List.set_cons_zero, List.set_cons_succ]
            refine wpAnyH_take (i := 30) (oi := ⟨_, _, _, _, _, _⟩) (v := ?_) rfl (by kernel_rfl) (by kernel_rfl) (by kernel_rfl) (fun _ _ _ h => h) (Or.inl ⟨by kernel_rfl, ?_⟩) (by assumption) ?_
            rotate_left
            · (intro wS hSw; (try dsimp only at hSw); go_simp; try with_reducible rfl)
            try simp only [Act.put, List.setIfInBounds_toArray, List.set_cons_zero, List.set_cons_succ]
            refine wpAnyH_take (i := 31) (oi := ⟨_, _, _, _, _, _⟩) (v := ?_) rfl (by kernel_rfl) (by kernel_rfl) (by kernel_rfl) (fun _ _ _ h => h) (Or.inl ⟨by kernel_rfl, ?_⟩) (by assumption) ?_
            rotate_left
            · (intro wS hSw; (try dsimp only at hSw); go_simp; try with_reducible rfl)
            try simp only [Act.put, List.setIfInBounds_toArray, List.set_cons_zero, List.set_cons_succ]
            refine wpAnyH_take (i := 32) (oi := ⟨_, _, _, _, _, _⟩) (v := ?_) rfl (by kernel_rfl) (by kernel_rfl) (by kernel_rfl) (fun _ _ _ h => h) (Or.inl ⟨by kernel_rfl, ?_⟩) (by assumption) ?_
            rotate_left
            · (intro wS hSw; (try dsimp only at hSw); go_simp; try with_reducible rfl)
            try simp only [Act.put, List.setIfInBounds_toArray, List.set_cons_zero, List.set_cons_succ]
            refine wpAnyH_take (i := 33) (oi := ⟨_, _, _, _, _, _⟩) (v := ?_) rfl (by kernel_rfl) (by kernel_rfl) (by kernel_rfl) (fun _ _ _ h => h) (Or.inl ⟨by kernel_rfl, ?_⟩) (by assumption) ?_
            rotate_left
            · (intro wS hSw; (try dsimp only at hSw); go_simp; try with_reducible rfl)
            try simp only [Act.put, List.setIfInBounds_toArray, List.set_cons_zero, List.set_cons_succ]
            refine wpAnyH_done (by kernel_rfl) ?_ _
            go_wp2
            go_roundw
            case rel => exact ⟨k + 1, by omega, by go_num, by rw [Int.natCast_add]; exact HDN.out.below (below_drewN (Below.refl _ wn) 1), HBN.out.trans ((below_drewN (Below.refl _ wn) 1).mono HBN.out.size)⟩
            case measure => simp [intOf]; omega
          · rw [if_neg (show ¬ (k : Int) = (j : Int) by omega)] at hd ho ⊢
            have ho2 : wn.ownsRow wr.heap.size 5 1 v d.length (d.map B8) := ho
            rw [show (Ow.kA k ((j : Int) + 1), ((d, (0 : Int)).1, (d, (0 : Int)).2)).2.1 = d from rfl, HDL.out] at ho
            obtain ⟨av, cv, rfl, _⟩ := own_shape ho
            rw [HDL.out] at ho2
            have HDN : Hid (WDb wn w.heap.size q p (Ow.kA k ((j : Int) + 1)) (Ow.S7 d x o)) := Lib.hid (HDD.out _ hd)
            have f1 : (convert 22 9 (.slice av n cv)).run Try.prog wn.drew = .ok (.string sd) wn.drew := (Ow.conv_reads (Reads.of_own ho2).drew HDL.out cv).trans (by rw [HSD.out])
            have f2 : (convert 22 9 (.slice A0 n c0)).run Try.prog wn.drew = .ok (.string sd) wn.drew := (Ow.conv_reads (HRD.out _ HBN.out).drew HDL.out c0).trans (by rw [HSD.out])
            have hjk2 : ((j : Int) == (k : Int)) = false := by simp; omega
            have hjk3 : ((j : Int) != (k : Int)) = true := by simp; omega
            clear hd ho ho2
            go_wp2_with fail
            refine wp_region_held_drew (S := (fun w' => (convert 22 9 (.slice av n cv)).run Try.prog w' = .ok (.string sd) w' ∧ (convert 22 9 (.slice A0 n c0)).run Try.prog w' = .ok (.string sd) w')) (by kernel_rfl) ?_ (fun hHeld => ?_)
            · ((try dsimp only); exact ⟨f1, f2⟩)
            refine wpAnyH_take (i := 0) (oi := ⟨_, _, _, _, _, _⟩) (v := ?_) rfl (by kernel_rfl) (by kernel_rfl) (by kernel_rfl) (fun _ _ _ h => h) (Or.inl ⟨by kernel_rfl, ?_⟩) (by assumption) ?_
            rotate_left
            · (intro wS hSw; (try dsimp only at hSw); go_simp; try with_reducible rfl)
            try simp only [Act.put, List.setIfInBounds_toArray, List.set_cons_zero, List.set_cons_succ]
            refine wpAnyH_take (i := 1) (oi := ⟨_, _, _, _, _, _⟩) (v := ?_) rfl (by kernel_rfl) (by kernel_rfl) (by kernel_rfl) (fun _ _ _ h => h) (Or.inl ⟨by kernel_rfl, ?_⟩) (by assumption) ?_
            rotate_left
            · (intro wS hSw; (try dsimp only at hSw); go_simp; try with_reducible rfl)
            try simp only [Act.put, List.setIfInBounds_toArray, List.set_cons_zero, List.set_cons_succ]
            refine wpAnyH_take (i := 2) (oi := ⟨_, _, _, _, _, _⟩) (v := ?_) rfl (by kernel_rfl) (by kernel_rfl) (by kernel_rfl) (fun _ _ _ h => h) (Or.inl ⟨by kernel_rfl, ?_⟩) (by assumption) ?_
            rotate_left
            · (intro wS hSw; (try dsimp only at hSw); go_simp; try with_reducible rfl)
            try simp only [Act.put, List.setIfInBounds_toArray, List.set_cons_zero, List.set_cons_succ]
            refine wpAnyH_take (i := 3) (oi := ⟨_, _, _, _, _, _⟩) (v := ?_) rfl (by kernel_rfl) (by kernel_rfl) (by kernel_rfl) (fun _ _ _ h => h) (Or.inl ⟨by kernel_rfl, ?_⟩) (by assumption) ?_
            rotate_left
            · (intro wS hSw; (try dsimp only at hSw); go_simp; try with_reducible rfl)
            try simp only [Act.put, List.setIfInBounds_toArray, List.set_cons_zero, List.set_cons_succ]
            refine wpAnyH_take (i := 4) (oi := ⟨_, _, _, _, _, _⟩) (v := ?_) rfl (by kernel_rfl) (by kernel_rfl) (by kernel_rfl) (fun _ _ _ h => h) (Or.inl ⟨by kernel_rfl, ?_⟩) (by assumption) ?_
            rotate_left
            · (intro wS hSw; (try dsimp only at hSw); go_simp; try with_reducible rfl)
            try simp only [Act.put, List.setIfInBounds_toArray, List.set_cons_zero, List.set_cons_succ]
            refine wpAnyH_take (i := 5) (oi := ⟨_, _, _, _, _, _⟩) (v := ?_) rfl (by kernel_rfl) (by kernel_rfl) (by kernel_rfl) (fun _ _ _ h => h) (Or.inl ⟨by kernel_rfl, ?_⟩) (by assumption) ?_
            rotate_left
            · (intro wS hSw; (try dsimp only at hSw); go_simp; try with_reducible rfl)
            try simp only [Act.put, List.setIfInBounds_toArray, List.set_cons_zero, List.set_cons_succ]
            refine wpAnyH_take (i := 6) (oi := ⟨_, _, _, _, _, _⟩) (v := ?_) rfl (by kernel_rfl) (by kernel_rfl) (by kernel_rfl) (fun _ _ _ h => h) (Or.inl ⟨by kernel_rfl, ?_⟩) (by assumption) ?_
            rotate_left
            · (intro wS hSw; (try dsimp only at hSw); go_simp; try with_reducible rfl)
            try simp only [Act.put, List.setIfInBounds_toArray, List.set_cons_zero, List.set_cons_succ]
            refine wpAnyH_take (i := 7) (oi := ⟨_, _, _, _, _, _⟩) (v := ?_) rfl (by kernel_rfl) (by kernel_rfl) (by kernel_rfl) (fun _ _ _ h => h) (Or.inl ⟨by kernel_rfl, ?_⟩) (by assumption) ?_
            rotate_left
            · (intro wS hSw; (try dsimp only at hSw); go_simp; try with_reducible rfl)
            try simp only [Act.put, List.setIfInBounds_toArray, List.set_cons_zero, List.set_cons_succ]
            refine wpAnyH_take (i := 8) (oi := ⟨_, _, _, _, _, _⟩) (v := ?_) rfl (by kernel_rfl) (by kernel_rfl) (by kernel_rfl) (fun _ _ _ h => h) (Or.inl ⟨by kernel_rfl, ?_⟩) (by assumption) ?_
            rotate_left
            · (intro wS hSw; (try dsimp only at hSw); go_simp; try with_reducible rfl)
            try simp only [Act.put, List.setIfInBounds_toArray, List.set_cons_zero, List.set_cons_succ]
            refine wpAnyH_take (i := 9) (oi := ⟨_, _, _, _, _, _⟩) (v := ?_) rfl (by kernel_rfl) (by kernel_rfl) (by kernel_rfl) (fun _ _ _ h => h) (Or.inl ⟨by kernel_rfl, ?_⟩) (by assumption) ?_
            rotate_left
            · (intro wS hSw; (try dsimp only at hSw); go_simp; try with_reducible rfl)
            try simp only [Act.put, List.setIfInBounds_toArray, List.set_cons_zero, List.set_cons_succ]
            refine wpAnyH_take (i := 10) (oi := ⟨_, _, _, _, _, _⟩) (v := ?_) rfl (by kernel_rfl) (by kernel_rfl) (by kernel_rfl) (fun _ _ _ h => h) (Or.inl ⟨by kernel_rfl, ?_⟩) (by assumption) ?_
            rotate_left
            · (intro wS hSw; (try dsimp only at hSw); go_simp; try with_reducible rfl)
            try simp only [Act.put, List.setIfInBounds_toArray, List.set_cons_zero, List.set_cons_succ]
            refine wpAnyH_take (i := 11) (oi := ⟨_, _, _, _, _, _⟩) (v := ?_) rfl (by kernel_rfl) (by kernel_rfl) (by kernel_rfl) (fun _ _ _ h => h) (Or.inl ⟨by kernel_rfl, ?_⟩) (by assumption) ?_
            rotate_left
            · (intro wS hSw; (try dsimp only at hSw); go_simp; try with_reducible rfl)
            try simp only [Act.put, List.setIfInBounds_toArray, List.set_cons_zero, List.set_cons_succ]
            refine wpAnyH_take (i := 12) (oi := ⟨_, _, _, _, _, _⟩) (v := ?_) rfl (by kernel_rfl) (by kernel_rfl) (by kernel_rfl) (fun _ _ _ h => h) (Or.inl ⟨by kernel_rfl, ?_⟩) (by assumption) ?_
            rotate_left
            · (intro wS hSw; (try dsimp only at hSw); go_simp; try with_reducible rfl)
            try simp only [Act.put, List.setIfInBounds_toArray, List.set_cons_zero, List.set_cons_succ]
            refine wpAnyH_take (i := 13) (oi := ⟨_, _, _, _, _, _⟩) (v := ?_) rfl (by kernel_rfl) (by kernel_rfl) (by kernel_rfl) (fun _ _ _ h => h) (Or.inl ⟨by kernel_rfl, ?_⟩) (by assumption) ?_
            rotate_left
            · (intro wS hSw; (try dsimp only at hSw); go_simp; try with_reducible rfl)
            try simp only [Act.put, List.setIfInBounds_toArray, List.set_cons_zero, List.set_cons_succ]
            refine wpAnyH_take (i := 14) (oi := ⟨_, _, _, _, _, _⟩) (v := ?_) rfl (by kernel_rfl) (by kernel_rfl) (by kernel_rfl) (fun _ _ _ h => h) (Or.inl ⟨by kernel_rfl, ?_⟩) (by assumption) ?_
            rotate_left
            · (intro wS hSw; (try dsimp only at hSw); go_simp; try with_reducible rfl)
            try simp only [Act.put, List.setIfInBounds_toArray, List.set_cons_zero, List.set_cons_succ]
            refine wpAnyH_take (i := 15) (oi := ⟨_, _, _, _, _, _⟩) (v := ?_) rfl (by kernel_rfl) (by kernel_rfl) (by kernel_rfl) (fun _ _ _ h => h) (Or.inl ⟨by kernel_rfl, ?_⟩) (by assumption) ?_
            rotate_left
            · (intro wS hSw; (try dsimp only at hSw); go_simp; try with_reducible rfl)
            try simp only [Act.put, List.setIfInBounds_toArray, List.set_cons_zero, List.set_cons_succ]
            refine wpAnyH_take (i := 16) (oi := ⟨_, _, _, _, _, _⟩) (v := ?_) rfl (by kernel_rfl) (by kernel_rfl) (by kernel_rfl) (fun _ _ _ h => h) (Or.inl ⟨by kernel_rfl, ?_⟩) (by assumption) ?_
            rotate_left
            · (intro wS hSw; (try dsimp only at hSw); go_simp; try with_reducible rfl)
            try simp only [Act.put, List.setIfInBounds_toArray, List.set_cons_zero, List.set_cons_succ]
            refine wpAnyH_take (i := 17) (oi := ⟨_, _, _, _, _, _⟩) (v := ?_) rfl (by kernel_rfl) (by kernel_rfl) (by kernel_rfl) (fun _ _ _ h => h) (Or.inl ⟨by kernel_rfl, ?_⟩) (by assumption) ?_
            rotate_left
            · (intro wS hSw; (try dsimp only at hSw); go_simp; try with_reducible rfl)
            try simp only [Act.put, List.setIfInBounds_toArray, List.set_cons_zero, List.set_cons_succ]
            refine wpAnyH_take (i := 18) (oi := ⟨_, _, _, _, _, _⟩) (v := ?_) rfl (by kernel_rfl) (by kernel_rfl) (by kernel_rfl) (fun _ _ _ h => h) (Or.inl ⟨by kernel_rfl, ?_⟩) (by assumption) ?_
            rotate_left
            · (intro wS hSw; (try dsimp only at hSw); go_simp; try with_reducible rfl)
            try simp only [Act.put, List.setIfInBounds_toArray, List.set_cons_zero, List.set_cons_succ]
            refine wpAnyH_take (i := 19) (oi := ⟨_, _, _, _, _, _⟩) (v := ?_) rfl (by kernel_rfl) (by kernel_rfl) (by kernel_rfl) (fun _ _ _ h => h) (Or.inl ⟨by kernel_rfl, ?_⟩) (by assumption) ?_
            rotate_left
            · (intro wS hSw; (try dsimp only at hSw); go_simp; try with_reducible rfl)
            try simp only [Act.put, List.setIfInBounds_toArray, List.set_cons_zero, List.set_cons_succ]
            refine wpAnyH_take (i := 20) (oi := ⟨_, _, _, _, _, _⟩) (v := ?_) rfl (by kernel_rfl) (by kernel_rfl) (by kernel_rfl) (fun _ _ _ h => h) (Or.inl ⟨by kernel_rfl, ?_⟩) (by assumption) ?_
            rotate_left
            · (intro wS hSw; (try dsimp only at hSw); go_simp; try with_reducible rfl)
            try simp only [Act.put, List.setIfInBounds_toArray, List.set_cons_zero, List.set_cons_succ]
            refine wpAnyH_take (i := 21) (oi := ⟨_, _, _, _, _, _⟩) (v := ?_) rfl (by kernel_rfl) (by kernel_rfl) (by kernel_rfl) (fun _ _ _ h => h) (Or.inl ⟨by kernel_rfl, ?_⟩) (by assumption) ?_
            rotate_left
            · (intro wS hSw; (try dsimp only at hSw); go_simp; try with_reducible rfl)
            try simp only [Act.put, List.setIfInBounds_toArray, List.set_cons_zero, List.set_cons_succ]
            refine wpAnyH_take (i := 22) (oi := ⟨_, _, _, _, _, _⟩) (v := ?_) rfl (by kernel_rfl) (by kernel_rfl) (by kernel_rfl) (fun _ _ _ h => h) (Or.inl ⟨by kernel_rfl, ?_⟩) (by assumption) ?_
            rotate_left
            · (intro wS hSw; (try dsimp only at hSw); go_simp; try with_reducible rfl)
            try simp only [Act.put, List.setIfInBounds_toArray, List.set_cons_zero, List.set_cons_succ]
            refine wpAnyH_take (i := 23) (oi := ⟨_, _, _, _, _, _⟩) (v := ?_) rfl (by kernel_rfl) (by kernel_rfl) (by kernel_rfl) (fun _ _ _ h => h) (Or.inl ⟨by kernel_rfl, ?_⟩) (by assumption) ?_
            rotate_left
            · (intro wS hSw; (try dsimp only at hSw); go_simp; try with_reducible rfl)
            try simp only [Act.put, List.setIfInBounds_toArray, List.set_cons_zero, List.set_cons_succ]
            refine wpAnyH_take (i := 24) (oi := ⟨_, _, _, _, _, _⟩) (v := ?_) rfl (by kernel_rfl) (by kernel_rfl) (by kernel_rfl) (fun _ _ _ h => h) (Or.inl ⟨by kernel_rfl, ?_⟩) (by assumption) ?_
            rotate_left
            · (intro wS hSw; (try dsimp only at hSw); go_simp; try with_reducible rfl)
            try simp only [Act.put, List.setIfInBounds_toArray, List.set_cons_zero, List.set_cons_succ]
            refine wpAnyH_take (i := 25) (oi := ⟨_, _, _, _, _, _⟩) (v := ?_) rfl (by kernel_rfl) (by kernel_rfl) (by kernel_rfl) (fun _ _ _ h => h) (Or.inl ⟨by kernel_rfl, ?_⟩) (by assumption) ?_
            rotate_left
            · (intro wS hSw; (try dsimp only at hSw); go_simp; try with_reducible rfl)
            try simp only [Act.put, List.setIfInBounds_toArray, List.set_cons_zero, List.set_cons_succ]
            refine wpAnyH_take (i := 26) (oi := ⟨_, _, _, _, _, _⟩) (v := ?_) rfl (by kernel_rfl) (by kernel_rfl) (by kernel_rfl) (fun _ _ _ h => h) (Or.inl ⟨by kernel_rfl, ?_⟩) (by assumption) ?_
            rotate_left
            · (intro wS hSw; (try dsimp only at hSw); go_simp; try with_reducible rfl)
            try simp only [Act.put, List.setIfInBounds_toArray, List.set_cons_zero, List.set_cons_succ]
            refine wpAnyH_take (i := 27) (oi := ⟨_, _, _, _, _, _⟩) (v := ?_) rfl (by kernel_rfl) (by kernel_rfl) (by kernel_rfl) (fun _ _ _ h => h) (Or.inl ⟨by kernel_rfl, ?_⟩) (by assumption) ?_
            rotate_left
            · (intro wS hSw; (try dsimp only at hSw); go_simp; try with_reducible rfl)
            try simp only [Act.put, List.setIfInBounds_toArray, List.set_cons_zero, List.set_cons_succ]
            refine wpAnyH_take (i := 28) (oi := ⟨_, _, _, _, _, _⟩) (v := ?_) rfl (by kernel_rfl) (by kernel_rfl) (by kernel_rfl) (fun _ _ _ h => h) (Or.inl ⟨by kernel_rfl, ?_⟩) (by assumption) ?_
            rotate_left
            · (intro wS hSw; (try dsimp only at hSw); go_simp; try with_reducible rfl)
            try simp only [Act.put, List.setIfInBounds_toArray, List.set_cons_zero, List.set_cons_succ]
            refine wpAnyH_take (i := 29) (oi := ⟨_, _, _, _, _, _⟩) (v := undef) rfl (by kernel_rfl) (by kernel_rfl) (by kernel_rfl) (fun _ _ _ h => h) (Or.inr ⟨by kernel_rfl, rfl⟩) (by assumption) ?_
            try simp only [Act.put, List.setIfInBounds_toArray, List.set_cons_zero, List.set_cons_succ]
            refine wpAnyH_take (i := 30) (oi := ⟨_, _, _, _, _, _⟩) (v := undef) rfl (by kernel_rfl) (by kernel_rfl) (by kernel_rfl) (fun _ _ _ h => h) (Or.inr ⟨by kernel_rfl, rfl⟩) (by assumption) ?_
            try simp only [Act.put, List.setIfInBounds_toArray, List.set_cons_zero, List.set_cons_succ]
            refine wpAnyH_take (i := 31) (oi := ⟨_, _, _, _, _, _⟩) (v := undef) rfl (by kernel_rfl) (by kernel_rfl) (by kernel_rfl) (fun _ _ _ h => h) (Or.inr ⟨by kernel_rfl, rfl⟩) (by assumption) ?_
            try simp only [Act.put, List.setIfInBounds_toArray, List.set_cons_zero, List.set_cons_succ]
            refine wpAnyH_take (i := 32) (oi := ⟨_, _, _, _, _, _⟩) (v := ?_) rfl (by kernel_rfl) (by kernel_rfl) (by kernel_rfl) (fun _ _ _ h => h) (Or.inl ⟨by kernel_rfl, ?_⟩) (by assumption) ?_
            rotate_left
            · (intro wS hSw; (try dsimp only at hSw); go_simp; try with_reducible rfl)
            try simp only [Act.put, List.setIfInBounds_toArray, List.set_cons_zero, List.set_cons_succ]
            refine wpAnyH_take (i := 33) (oi := ⟨_, _, _, _, _, _⟩) (v := ?_) rfl (by kernel_rfl) (by kernel_rfl) (by kernel_rfl) (fun _ _ _ h => h) (Or.inl ⟨by kernel_rfl, ?_⟩) (by assumption) ?_
            rotate_left
            · (intro wS hSw; (try dsimp only at hSw); go_simp; try with_reducible rfl)
            try simp only [Act.put, List.setIfInBounds_toArray, List.set_cons_zero, List.set_cons_succ]
            refine wpAnyH_done (by kernel_rfl) ?_ _
            go_wp2
            go_roundw
            case rel => exact ⟨j + 1, by omega, by go_num, by rw [Int.natCast_add]; exact HDN.out.below (below_drewN (Below.refl _ wn) 1), HBN.out.trans ((below_drewN (Below.refl _ wn) 1).mono HBN.out.size)⟩
            case measure => simp [intOf]; omega
        · obtain rfl : j = 7 := by omega
          go_wp2_with fail
          refine (wlist_any q p (Ow.kA k (7 : Nat)) (Ow.S7 d x o) _ _ (Ow.z7 HD9.out HXL.out HO9.out) HDJ.out (Ow.aok (by omega) (by omega)) (Ow.s7 d x o)).mono ?_
          rintro e wl ⟨v, rfl, ho, hd, ht⟩
          rw [Ow.l7 HD9.out HXL.out HO9.out, Ow.aread, if_neg (show ¬ (k : Int) = ((7 : Nat) : Int) by omega)] at ho ⊢
          have ho2 : wl.ownsRow wr.heap.size 9 1 v 2 ([[97], [98]].map strV) := ho
          obtain ⟨av, cv, rfl, _⟩ := own_shape ho2
          have HBL : Hid (Below w.heap.size w wl) := Lib.hid (HBJ.out.trans (ht.below HBJ.out.size fun k hk => hk.1))
          have HO2 := Lib.hid (ownsRow_below (ownsRow_base_a ho2 (Nat.zero_le _)) ((Below.refl _ wl).alloc (Nat.le_refl _) (.cells #[.string ⟨#[97]⟩, .string ⟨#[98]⟩] 9)))
          clear hd ho ho2 ht
          go_wp2_with fail
          refine (alike_any _ _ (Ow.nms [[97], [98]]) 0 0 _ (Ow.said_names HO2.out rfl) (Ow.said_names (Ow.own_names wl) rfl) (by show 2 ≤ _; omega) (by show 0 ≤ _; omega)).mono ?_
          rintro e wz ⟨rfl, hb⟩
          have HBZ : Hid (Below w.heap.size w wz) := Lib.hid ((HBL.out.alloc HBL.out.size _).trans (hb.mono (by have := HBL.out.size; rw [alloc_size]; omega)))
          clear hb
          go_wp2
          go_ret
          exact ⟨rfl, HBZ.out⟩
theorem woundOwn_walk (A0 : Option Addr) (n0 c0 : Nat) (bs0 : List UInt8) (A1 : Option Addr) (n1 c1 : Nat) (bs1 : List UInt8) (at_ : Int) (w : World) (hr0 : Reads w w.heap.size 1 A0 n0 (bs0.map B8)) (hc0 : n0 ≤ c0) (hr1 : Reads w w.heap.size 1 A1 n1 (bs1.map B8)) (hc1 : n1 ≤ c1) :
    Calls Try.prog 3 #[.slice A0 n0 c0, .slice A1 n1 c1, .int .i64 at_] w fun e w' => e = .returned (.bool true) ∧ Below w.heap.size w w' := by
  have hl0 : bs0.length = n0 := by have := hr0.1; simpa using this
  have hl1 : bs1.length = n1 := by have := hr1.1; simpa using this
  have h0 := hr0.cutTo (Nat.min_le_left n0 900)
  have h1 := hr1.cutTo (Nat.min_le_left n1 900)
  rw [← List.map_take] at h0 h1
  exact woundOwn_core A0 n0 c0 _ _ A1 n1 c1 _ _ at_ w rfl rfl (by rw [List.length_take]; omega) (by rw [List.length_take]; omega) h0 hc0 h1 hc1
end Go.Proofs.Ytdmcjomcbhdcbaa
