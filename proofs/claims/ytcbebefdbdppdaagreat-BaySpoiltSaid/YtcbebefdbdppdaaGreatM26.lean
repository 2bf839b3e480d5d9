/- cairnref08: Fits, Sizes; cairnplay.Pick.; cairnref08.Sizes of a head that fits.; cairnref08: Sizes and Check of any head. -/
import Derived.Test.YtcbebefdbdppdaaGreatM25
namespace Go.Proofs.YtcbebefdbdppdaaGreat
open Go.RowKit Go.Maps

set_option maxHeartbeats 1000000 in
theorem rfits_any (k m b : Int) (w : World) : Calls Tryz.prog 115 #[.agg #[.int .i64 k, .int .i64 m, .int .i64 b]] w fun e w' => e = .returned (.bool (Hd.shapeOk k m b)) ∧ Below w.heap.size w w' := by
  by_cases g : 1 ≤ m ∧ m ≤ k ∧ k ≤ 255 ∧ k + m ≤ 255 ∧ 1 ≤ b ∧ b ≤ 65536
  · have hs : Hd.shapeOk k m b = true := decide_eq_true g
    rw [hs]
    obtain ⟨h1, h2, h3, h4, h5, h6⟩ := g
    have hw : wrap64 (k + m) = k + m := IntWalk.wrap64_in _ (by omega)
    clear hs
    go_enter Tryz.func115, Tryz.ntmps115
    go_wp2
    go_ret
    exact ⟨rfl, (Below.refl _ w).alloc (Nat.le_refl _) _⟩
  · have hs : Hd.shapeOk k m b = false := decide_eq_false g
    rw [hs]
    clear hs
    rcases (show ¬1 ≤ m ∨ (1 ≤ m ∧ ¬m ≤ k) ∨ (1 ≤ m ∧ m ≤ k ∧ ¬k ≤ 255) ∨ (1 ≤ m ∧ m ≤ k ∧ k ≤ 255 ∧ ¬k + m ≤ 255) ∨ (1 ≤ m ∧ m ≤ k ∧ k ≤ 255 ∧ k + m ≤ 255 ∧ ¬1 ≤ b) ∨ (1 ≤ m ∧ m ≤ k ∧ k ≤ 255 ∧ k + m ≤ 255 ∧ 1 ≤ b ∧ ¬b ≤ 65536) by omega) with h1 | ⟨h1, h2⟩ | ⟨h1, h2, h3⟩ | ⟨h1, h2, h3, h4⟩ | ⟨h1, h2, h3, h4, h5⟩ | ⟨h1, h2, h3, h4, h5, h6⟩ <;> clear g
    · go_enter Tryz.func115, Tryz.ntmps115
      go_wp2
      go_ret
      exact ⟨rfl, (Below.refl _ w).alloc (Nat.le_refl _) _⟩
    · go_enter Tryz.func115, Tryz.ntmps115
      go_wp2
      go_ret
      exact ⟨rfl, (Below.refl _ w).alloc (Nat.le_refl _) _⟩
    · go_enter Tryz.func115, Tryz.ntmps115
      go_wp2
      go_ret
      exact ⟨rfl, (Below.refl _ w).alloc (Nat.le_refl _) _⟩
    · have hw : wrap64 (k + m) = k + m := IntWalk.wrap64_in _ (by omega)
      go_enter Tryz.func115, Tryz.ntmps115
      go_wp2
      go_ret
      exact ⟨rfl, (Below.refl _ w).alloc (Nat.le_refl _) _⟩
    · have hw : wrap64 (k + m) = k + m := IntWalk.wrap64_in _ (by omega)
      go_enter Tryz.func115, Tryz.ntmps115
      go_wp2
      go_ret
      exact ⟨rfl, (Below.refl _ w).alloc (Nat.le_refl _) _⟩
    · have hw : wrap64 (k + m) = k + m := IntWalk.wrap64_in _ (by omega)
      go_enter Tryz.func115, Tryz.ntmps115
      go_wp2
      go_ret
      exact ⟨rfl, (Below.refl _ w).alloc (Nat.le_refl _) _⟩

set_option maxHeartbeats 1000000 in
theorem pick_any (at_ : Int) (n : Nat) (hn : 1 ≤ n) (hn2 : n ≤ 1152921504606846976) (w : World) : Calls Tryz.prog 18 #[.int .i64 at_, .int .i64 (n : Int)] w fun e w' => ∃ b : Nat, b < n ∧ e = .returned (.int .i64 (b : Int)) ∧ w = w' := by
  have h1 : ¬ (n : Int) < 1 := by omega
  obtain ⟨r, hr⟩ : ∃ r, r = at_.tmod (n : Int) := ⟨_, rfl⟩
  have h3 : ((n : Int) == 0) = false := beq_eq_false_iff_ne.2 (by omega)
  have hb1 : r < (n : Int) := by rw [hr]; exact Int.tmod_lt_of_pos _ (by omega)
  have hb2 : -(n : Int) < r := by rw [hr]; exact Int.lt_tmod_of_pos at_ (by omega)
  have h4 : wrap64 r = r := IntWalk.wrap64_in _ (by omega)
  have h5 : at_.tmod (n : Int) = r := hr.symm
  clear hr
  by_cases hr0 : r < 0
  · have hs : wrap64 (r + (n : Int)) = r + (n : Int) := IntWalk.wrap64_in _ (by omega)
    have hend : ∃ b : Nat, b < n ∧ r + (n : Int) = (b : Int) := ⟨(r + (n : Int)).toNat, by omega, by omega⟩
    have HE := Lib.hid hend
    clear hb1 hb2 hn hn2 hend
    go_enter Tryz.func18, Tryz.ntmps18
    go_wp2
    go_ret
    obtain ⟨b, hb, e⟩ := HE.out
    exact ⟨b, hb, by rw [show _ = (b : Int) from e]; rfl, rfl⟩
  · have hend : ∃ b : Nat, b < n ∧ r = (b : Int) := ⟨r.toNat, by omega, by omega⟩
    have HE := Lib.hid hend
    clear hb1 hb2 hn hn2 hend
    go_enter Tryz.func18, Tryz.ntmps18
    go_wp2
    go_ret
    obtain ⟨b, hb, e⟩ := HE.out
    exact ⟨b, hb, by rw [show _ = (b : Int) from e]; rfl, rfl⟩

theorem ceilK {K r y : Nat} (hK : 1 ≤ K) (hy : y = r / K) : (r + K - 1) / K = if y * K < r then y + 1 else y := by
  subst hy
  have h1 := Nat.div_add_mod r K
  have h2 := Nat.mod_lt r hK
  rw [Nat.mul_comm] at h1
  obtain ⟨q, hq⟩ : ∃ q, q = r / K := ⟨_, rfl⟩
  rw [← hq] at h1 ⊢
  split
  · rename_i h
    have : r + K - 1 = K * (q + 1) + (r % K - 1) := by rw [Nat.mul_add, Nat.mul_comm K q]; omega
    rw [this, Nat.mul_add_div hK, Nat.div_eq_of_lt (by omega), Nat.add_zero]
  · rename_i h
    have : r + K - 1 = K * q + (K - 1) := by rw [Nat.mul_comm K q]; omega
    rw [this, Nat.mul_add_div hK, Nat.div_eq_of_lt (by omega), Nat.add_zero]
theorem lensN_len {K B S : Nat} (hK : 1 ≤ K) (hB : 1 ≤ B) : (Hd.lensN K B S).length = (S + K * B - 1) / (K * B) := by
  have hz : 1 ≤ K * B := Nat.mul_pos hK hB
  have h := ceilK hz (rfl : S / (K * B) = S / (K * B))
  rw [h]
  have h1 := Nat.div_add_mod S (K * B)
  rw [Nat.mul_comm] at h1
  unfold Hd.lensN
  split
  · rename_i h0
    rw [if_neg (by omega), List.length_replicate]
  · rename_i h0
    rw [if_pos (by omega), List.length_append, List.length_replicate]; rfl
theorem lensN_at {K B S j : Nat} (hK : 1 ≤ K) (hB : 1 ≤ B) (h : j * (K * B) < S) : (Hd.lensN K B S)[j]? = some ((min (K * B) (S - j * (K * B)) + K - 1) / K) := by
  have hz : 1 ≤ K * B := Nat.mul_pos hK hB
  have h1 := Nat.div_add_mod S (K * B)
  have h2 := Nat.mod_lt S hz
  have hfull : (K * B + K - 1) / K = B := by rw [show K * B + K - 1 = K * B + (K - 1) by omega, Nat.mul_add_div hK, Nat.div_eq_of_lt (by omega), Nat.add_zero]
  have hle : j ≤ S / (K * B) := (Nat.le_div_iff_mul_le hz).2 (Nat.le_of_lt h)
  have hlt : j < S / (K * B) → K * B ≤ S - j * (K * B) := fun hj => by
    have := Nat.mul_le_mul_right (K * B) hj
    rw [Nat.succ_mul] at this
    have h3 := (Nat.le_div_iff_mul_le hz).1 (Nat.le_refl (S / (K * B)))
    omega
  unfold Hd.lensN
  split
  · rename_i h0
    have hj : j < S / (K * B) := by
      rcases Nat.lt_or_ge j (S / (K * B)) with h3 | h3
      · exact h3
      · have : j = S / (K * B) := by omega
        rw [this, Nat.mul_comm] at h
        omega
    rw [List.getElem?_replicate, if_pos hj, Nat.min_eq_left (hlt hj), hfull]
  · rename_i h0
    rcases Nat.lt_or_ge j (S / (K * B)) with hj | hj
    · rw [List.getElem?_append_left (by rw [List.length_replicate]; exact hj), List.getElem?_replicate, if_pos hj, Nat.min_eq_left (hlt hj), hfull]
    · have e : j = S / (K * B) := by omega
      have e2 : S - j * (K * B) = S % (K * B) := by rw [e, Nat.mul_comm (S / (K * B))]; omega
      rw [List.getElem?_append_right (by rw [List.length_replicate]; exact hj), List.length_replicate, e2, Nat.min_eq_right (Nat.le_of_lt h2), show j - S / (K * B) = 0 by omega]
      rfl
end Go.Proofs.YtcbebefdbdppdaaGreat
namespace Go.Proofs.YtcbebefdbdppdaaGreat
open Go.RowKit Go.Maps

set_option maxRecDepth 100000 in
set_option maxHeartbeats 4000000 in
theorem rsizes_in (K B S : Nat) (m : Int) (hok : Hd.shapeOk (K : Int) m (B : Int) = true) (hS : S ≤ 1048576) (w : World) :
    Calls Tryz.prog 59 #[.agg #[.int .i64 (K : Int), .int .i64 m, .int .i64 (B : Int)], .int .i64 (S : Int)] w fun e w' =>
      ∃ v, e = .returned (.tuple #[v, .int .i64 (if 4096 < (Hd.lensN K B S).length then 3 else 0)]) ∧ w'.ownsRow w.heap.size 3 1 v (if 4096 < (Hd.lensN K B S).length then [] else Hd.lensN K B S).length ((if 4096 < (Hd.lensN K B S).length then [] else Hd.lensN K B S).map lenV) ∧ Below w.heap.size w w' := by
  have HFI := Lib.hid fun W => rfits_any (K : Int) m (B : Int) W
  rw [hok] at HFI
  obtain ⟨h1, h2, h3, h4, h5, h6⟩ := of_decide_eq_true hok
  have hK1 : 1 ≤ K := by omega
  have hK2 : K ≤ 255 := by omega
  have hB1 : 1 ≤ B := by omega
  have hB2 : B ≤ 65536 := by omega
  clear hok h1 h2 h3 h4 h5 h6
  obtain ⟨z, hz⟩ : ∃ z, z = K * B := ⟨_, rfl⟩
  have hz1 : 1 ≤ z := by rw [hz]; exact Nat.mul_pos hK1 hB1
  have hz2 : z ≤ 16711680 := by rw [hz]; have := Nat.mul_le_mul hK2 hB2; omega
  obtain ⟨L, hL⟩ : ∃ L, L = Hd.lensN K B S := ⟨_, rfl⟩
  have HLN : Hid (L.length = (S + z - 1) / z) := Lib.hid (by rw [hL, hz]; exact lensN_len hK1 hB1)
  have HLA : Hid (∀ j, j * z < S → L[j]? = some ((min z (S - j * z) + K - 1) / K)) := Lib.hid (by rw [hL, hz]; exact fun j => lensN_at hK1 hB1)
  have HLL : Hid (∀ j, j < L.length ↔ j * z < S) := Lib.hid fun j => by
    rw [HLN.out]
    constructor
    · intro h
      have := (Nat.le_div_iff_mul_le hz1).1 (Nat.succ_le_of_lt h)
      rw [Nat.succ_mul] at this
      omega
    · intro h
      refine Nat.lt_of_succ_le ((Nat.le_div_iff_mul_le hz1).2 ?_)
      rw [Nat.succ_mul]; omega
  rw [← hL]
  clear hL HLN
  obtain ⟨E, hE⟩ : ∃ E : Int, E = if 4096 < L.length then 3 else 0 := ⟨_, rfl⟩
  obtain ⟨LL, hLL⟩ : ∃ LL : List Nat, LL = if 4096 < L.length then [] else L := ⟨_, rfl⟩
  rw [← hE, ← hLL]
  have HE0 := Lib.hid hE
  have HL0 := Lib.hid hLL
  clear hE hLL
  have hKn : ¬K = 0 := Nat.pos_iff_ne_zero.1 hK1
  have a0 : wrap64 ((K : Int) * (B : Int)) = (z : Int) := by rw [← Int.natCast_mul, ← hz]; exact w64 (by omega) (by omega)
  have a0' : wrap64 ((B : Int) * (K : Int)) = (z : Int) := by rw [Int.mul_comm]; exact a0
  have a1 : (z : Int).tdiv (K : Int) = (B : Int) := by rw [hz, Int.tdiv_eq_ediv_of_nonneg (by omega), Int.natCast_mul, Int.mul_ediv_cancel_left _ (by omega)]
  have a2 : wrap64 (B : Int) = (B : Int) := w64 (by omega) (by omega)
  have a3 : ((K : Int) == 0) = false := beq_eq_false_iff_ne.2 (by omega)
  have HB' : Hid ((z + K - 1) / K = B) := Lib.hid (by rw [hz, show K * B + K - 1 = K * B + (K - 1) by omega, Nat.mul_add_div hK1, Nat.div_eq_of_lt (by omega), Nat.add_zero])
  have HSB : Hid (S ≤ 1048576 ∧ 1 ≤ z ∧ z ≤ 16711680 ∧ 1 ≤ K ∧ K ≤ 255) := Lib.hid ⟨hS, hz1, hz2, hK1, hK2⟩
  have b1 : ¬ (S : Int) < 0 := by omega
  have b2 : ¬ (1048576 : Int) < (S : Int) := by omega
  clear hz hS hz1 hz2 hK1 hK2 hB1 hB2
  obtain ⟨i9, hi9, hz0, hz1, hz2⟩ := info_parts intInfoB
  go_enter Tryz.func59, Tryz.ntmps59
  go_wp2_with (go_at_call 115; refine (HFI.out _).mono ?_; rintro e w1 ⟨rfl, hb1⟩; have HB1 : Hid (Below w.heap.size w w1 ∧ w.heap.size + 1 ≤ w1.heap.size ∧ Blk w1 w.heap.size 24 #[.int .i64 (K : Int), .int .i64 m, .int .i64 (B : Int)]) := Lib.hid ⟨((Below.refl _ w).alloc (Nat.le_refl _) _).trans (hb1.mono (by rw [alloc_size]; omega)), by have := hb1.size; rw [alloc_size] at this; omega, (Blk.new w _ _).below hb1 (by rw [alloc_size]; omega)⟩; clear hb1)
  go_loopw [7, 8, 9, 10] (fun s7 s8 _ _ wr => ∃ (j : Nat) (r : Int), j ≤ L.length ∧ r = (S : Int) - ((j * z : Nat) : Int) ∧ s8 = .int .i64 r ∧ wr.ownsRow (w.heap.size + 1) 3 1 s7 j ((L.take j).map lenV) ∧ Below (w.heap.size + 1) w1 wr) (fun _ s8 _ _ _ => (intOf s8).toNat)
  case atStart => exact ⟨0, _, Nat.zero_le _, by rw [Nat.zero_mul]; exact (Int.sub_zero _).symm, rfl, World.ownsRow_nil _ _ _ _, Below.refl _ _⟩
  case round =>
    obtain ⟨j, r, hj, hr, rfl, ho, hb⟩ := hrel
    have HO := Lib.hid ho
    have HBW := Lib.hid hb
    have hszq : w.heap.size + 1 ≤ wr.heap.size := Nat.le_trans HB1.out.2.1 hb.size
    have HBX : Hid (Blk wr w.heap.size 24 #[.int .i64 (K : Int), .int .i64 m, .int .i64 (B : Int)]) := Lib.hid (HB1.out.2.2.below hb (Nat.lt_succ_self _))
    have y0 : wr.cell? ⟨w.heap.size, 0, none⟩ = some (.int .i64 (K : Int)) := HBX.out.cell 0
    have y2 : wr.cell? ⟨w.heap.size, 2, none⟩ = some (.int .i64 (B : Int)) := HBX.out.cell 2
    clear ho hb
    by_cases hlt : 0 < r
    · have HJ : Hid (j * z < S) := Lib.hid (by omega)
      obtain ⟨R, hR⟩ : ∃ R : Nat, R = S - j * z := ⟨_, rfl⟩
      obtain rfl : r = (R : Int) := by rw [hR, hr]; have := HJ.out; omega
      have HR : Hid (R = S - j * z ∧ 0 < R) := Lib.hid ⟨hR, by omega⟩
      have HLJ : Hid (L[j]? = some ((min z R + K - 1) / K)) := Lib.hid (by rw [hR]; exact HLA.out j HJ.out)
      have HJ1 : Hid (j + 1 ≤ L.length) := Lib.hid ((HLL.out j).2 HJ.out)
      have HJM : Hid (j < 1048576) := Lib.hid (by
        have h1 := HJ.out
        have h2 := Nat.mul_le_mul_left j HSB.out.2.1
        have h3 := HSB.out.1
        omega)
      have HNX : Hid ((R : Int) - (z : Int) = (S : Int) - (((j + 1) * z : Nat) : Int)) := Lib.hid (by rw [Nat.succ_mul]; have := HR.out.1; have := HJ.out; omega)
      have HSU : Hid (wrap64 ((R : Int) - (z : Int)) = (R : Int) - (z : Int)) := Lib.hid (by have := HR.out; have := HSB.out; exact IntWalk.wrap64_in _ (by omega))
      clear hr hR hj
      by_cases hzr : (z : Int) < (R : Int)
      · have HE : Hid ((min z R + K - 1) / K = B) := Lib.hid (by rw [Nat.min_eq_left (by omega)]; exact HB'.out)
        have hzz : ¬ (z : Int) < (z : Int) := Int.lt_irrefl _
        go_wp2_with (at_builtin; (refine wpList_append_any _ rfl _ _ 88 rfl (w.heap.size + 1) 3 i9 _ 1 8 Tryz.underlying88 hi9 hz0 hz1 hz2 rfl (by decide) _ j _ rfl (HO.out.alloc _) (wr.heap.size + 1) (some ⟨wr.heap.size, 0, none⟩) 1 1 [.int .i64 (B : Int)] rfl (reads_blk (t := 3) (blk_last _ _ _ _ rfl) (by omega) rfl) (by intro u hu; simp at hu; subst hu; rfl) (by have := HJM.out; unfold maxLen; omega) (by have := HJM.out; omega) (by simp only [alloc_size]; omega) ?_); intro v3 w3 hown3 hg3 hat3; have HO3 := Lib.hid hown3; have HG3 := Lib.hid hg3; clear hown3 hg3 hat3; have HB3 : Hid (Below (w.heap.size + 1) w1 w3) := Lib.hid ((HBW.out.alloc hszq _).grown HG3.out (by rw [alloc_size]; omega) (fun b hb => (HO.out.lt b hb).1)); have HX3 : Hid (Blk w3 w.heap.size 24 #[.int .i64 (K : Int), .int .i64 m, .int .i64 (B : Int)]) := Lib.hid (HB1.out.2.2.below HB3.out (Nat.lt_succ_self _)); have z0 : w3.cell? ⟨w.heap.size, 0, none⟩ = some (.int .i64 (K : Int)) := HX3.out.cell 0; have z2 : w3.cell? ⟨w.heap.size, 2, none⟩ = some (.int .i64 (B : Int)) := HX3.out.cell 2)
        go_roundw
        case rel =>
          refine ⟨j + 1, _, HJ1.out, HNX.out, by rw [HSU.out], ?_, HB3.out⟩
          rw [List.take_add_one, HLJ.out, Option.toList_some, List.map_append]
          have h9 := HO3.out
          rw [HE.out]
          exact h9
        case measure => have := HR.out; have := HSB.out; rw [HSU.out]; simp only [intOf]; omega
      · obtain ⟨y, hy⟩ : ∃ y, y = R / K := ⟨_, rfl⟩
        have HMN : Hid (min z R = R) := Lib.hid (Nat.min_eq_right (by omega))
        have HC := Lib.hid (ceilK (K := K) (r := R) HSB.out.2.2.2.1 hy)
        obtain ⟨p, hp⟩ : ∃ p, p = y * K := ⟨_, rfl⟩
        have hpR : p ≤ R := by rw [hp, hy]; exact Nat.div_mul_le_self _ _
        have hyR : y ≤ R := by rw [hy]; exact Nat.div_le_self _ _
        have hRb : R ≤ 1048576 := by have := HR.out.1; have := HSB.out.1; omega
        have d1 : (y : Int) ≤ 100000000 := by omega
        have d2 : (y : Int) + 1 ≤ 100000000 := by omega
        have d3 : (p : Int) ≤ 100000000 := by omega
        have d4 : (0 : Int) ≤ (y : Int) + 1 := by omega
        have c1 : (R : Int).tdiv (K : Int) = (y : Int) := by rw [hy, Int.tdiv_eq_ediv_of_nonneg (Int.natCast_nonneg _), Int.natCast_ediv]
        have c2 : wrap64 (y : Int) = (y : Int) := w64 (Int.natCast_nonneg _) d1
        have c3 : wrap64 ((y : Int) * (K : Int)) = (p : Int) := by rw [← Int.natCast_mul, ← hp]; exact w64 (Int.natCast_nonneg _) d3
        have c4 : wrap64 ((y : Int) + 1) = (y : Int) + 1 := w64 d4 d2
        clear d1 d2 d3 d4
        rw [← hp] at HC
        clear hp hy hyR hRb
        by_cases hpr : (p : Int) < (R : Int)
        · have HE : Hid ((min z R + K - 1) / K = y + 1) := Lib.hid (by rw [HMN.out, HC.out, if_pos (Int.ofNat_lt.1 hpr)])
          clear hpR
          go_wp2_with (at_builtin; (refine wpList_append_any _ rfl _ _ 88 rfl (w.heap.size + 1) 3 i9 _ 1 8 Tryz.underlying88 hi9 hz0 hz1 hz2 rfl (by decide) _ j _ rfl (HO.out.alloc _) (wr.heap.size + 1) (some ⟨wr.heap.size, 0, none⟩) 1 1 [.int .i64 ((y : Int) + 1)] rfl (reads_blk (t := 3) (blk_last _ _ _ _ rfl) (by omega) rfl) (by intro u hu; simp at hu; subst hu; rfl) (by have := HJM.out; unfold maxLen; omega) (by have := HJM.out; omega) (by simp only [alloc_size]; omega) ?_); intro v3 w3 hown3 hg3 hat3; have HO3 := Lib.hid hown3; have HG3 := Lib.hid hg3; clear hown3 hg3 hat3; have HB3 : Hid (Below (w.heap.size + 1) w1 w3) := Lib.hid ((HBW.out.alloc hszq _).grown HG3.out (by rw [alloc_size]; omega) (fun b hb => (HO.out.lt b hb).1)); have HX3 : Hid (Blk w3 w.heap.size 24 #[.int .i64 (K : Int), .int .i64 m, .int .i64 (B : Int)]) := Lib.hid (HB1.out.2.2.below HB3.out (Nat.lt_succ_self _)); have z0 : w3.cell? ⟨w.heap.size, 0, none⟩ = some (.int .i64 (K : Int)) := HX3.out.cell 0; have z2 : w3.cell? ⟨w.heap.size, 2, none⟩ = some (.int .i64 (B : Int)) := HX3.out.cell 2)
          go_roundw
          case rel =>
            refine ⟨j + 1, _, HJ1.out, HNX.out, by rw [HSU.out], ?_, HB3.out⟩
            rw [List.take_add_one, HLJ.out, Option.toList_some, List.map_append]
            have h9 := HO3.out
            rw [HE.out]
            exact h9
          case measure => have := HR.out; have := HSB.out; rw [HSU.out]; simp only [intOf]; omega
        · have HE : Hid ((min z R + K - 1) / K = y) := Lib.hid (by rw [HMN.out, HC.out, if_neg (fun h => hpr (Int.ofNat_lt.2 h))])
          clear hpR
          go_wp2_with (at_builtin; (refine wpList_append_any _ rfl _ _ 88 rfl (w.heap.size + 1) 3 i9 _ 1 8 Tryz.underlying88 hi9 hz0 hz1 hz2 rfl (by decide) _ j _ rfl (HO.out.alloc _) (wr.heap.size + 1) (some ⟨wr.heap.size, 0, none⟩) 1 1 [.int .i64 (y : Int)] rfl (reads_blk (t := 3) (blk_last _ _ _ _ rfl) (by omega) rfl) (by intro u hu; simp at hu; subst hu; rfl) (by have := HJM.out; unfold maxLen; omega) (by have := HJM.out; omega) (by simp only [alloc_size]; omega) ?_); intro v3 w3 hown3 hg3 hat3; have HO3 := Lib.hid hown3; have HG3 := Lib.hid hg3; clear hown3 hg3 hat3; have HB3 : Hid (Below (w.heap.size + 1) w1 w3) := Lib.hid ((HBW.out.alloc hszq _).grown HG3.out (by rw [alloc_size]; omega) (fun b hb => (HO.out.lt b hb).1)); have HX3 : Hid (Blk w3 w.heap.size 24 #[.int .i64 (K : Int), .int .i64 m, .int .i64 (B : Int)]) := Lib.hid (HB1.out.2.2.below HB3.out (Nat.lt_succ_self _)); have z0 : w3.cell? ⟨w.heap.size, 0, none⟩ = some (.int .i64 (K : Int)) := HX3.out.cell 0; have z2 : w3.cell? ⟨w.heap.size, 2, none⟩ = some (.int .i64 (B : Int)) := HX3.out.cell 2)
          go_roundw
          case rel =>
            refine ⟨j + 1, _, HJ1.out, HNX.out, by rw [HSU.out], ?_, HB3.out⟩
            rw [List.take_add_one, HLJ.out, Option.toList_some, List.map_append]
            have h9 := HO3.out
            rw [HE.out]
            exact h9
          case measure => have := HR.out; have := HSB.out; rw [HSU.out]; simp only [intOf]; omega
    · obtain rfl : j = L.length := by
        rcases Nat.lt_or_ge j L.length with h | h
        · have := (HLL.out j).1 h; omega
        · omega
      have HFO : Hid (wr.ownsRow w.heap.size 3 1 _ L.length (L.map lenV)) := Lib.hid (by have h9 := HO.out; rw [List.take_length] at h9; exact ownsRow_base_a h9 (Nat.le_succ _))
      have HFB : Hid (Below w.heap.size w wr) := Lib.hid (HB1.out.1.trans (HBW.out.mono (Nat.le_succ _)))
      obtain ⟨A, c, rfl, _⟩ := own_shape HFO.out
      clear hr hj
      obtain ⟨N, hN⟩ : ∃ N, N = L.length := ⟨_, rfl⟩
      by_cases hbig : 4096 < L.length
      · have e1 : (4096 : Int) < (L.length : Int) := by omega
        obtain rfl : E = 3 := HE0.out.trans (if_pos hbig)
        obtain rfl : LL = [] := HL0.out.trans (if_pos hbig)
        clear hbig hN
        go_wp2_with fail
        go_ret2
        exact ⟨_, rfl, World.ownsRow_nil _ _ _ _, HFB.out⟩
      · have e1 : ¬ (4096 : Int) < (L.length : Int) := by omega
        obtain rfl : E = 0 := HE0.out.trans (if_neg hbig)
        obtain rfl : LL = L := HL0.out.trans (if_neg hbig)
        clear hbig hN
        go_wp2_with fail
        go_ret2
        exact ⟨_, rfl, HFO.out, HFB.out⟩
end Go.Proofs.YtcbebefdbdppdaaGreat
namespace Go.Proofs.YtcbebefdbdppdaaGreat
open Go.RowKit Go.Maps

theorem fitsE_nat {K B S : Nat} (hK : 1 ≤ K) (hB : 1 ≤ B) : Hd.fitsE (K : Int) (B : Int) (S : Int) = if 1048576 < S then 3 else if 4096 < (Hd.lensN K B S).length then 3 else 0 := by
  have h1 : (((S : Int) + (K : Int) * (B : Int) - 1) / ((K : Int) * (B : Int))) = (((S + K * B - 1) / (K * B) : Nat) : Int) := by
    have h0 : 1 ≤ K * B := Nat.mul_pos hK hB
    rw [← Int.natCast_mul, show (S : Int) + ((K * B : Nat) : Int) - 1 = ((S + K * B - 1 : Nat) : Int) by omega, ← Int.natCast_ediv]
  unfold Hd.fitsE
  rw [if_neg (by omega), h1, lensN_len hK hB]
  by_cases g1 : 1048576 < S
  · rw [if_pos g1, if_pos (.inl (by omega))]
  · rw [if_neg g1]
    by_cases g2 : 4096 < (S + K * B - 1) / (K * B)
    · rw [if_pos g2, if_pos (.inr (by omega))]
    · rw [if_neg g2, if_neg (by omega)]
/-- What Sizes answers. -/
def sizesE (k m b size : Int) : Int := if Hd.shapeOk k m b = false then 4 else Hd.fitsE k b size
def sizesL (k m b size : Int) : List Nat := if sizesE k m b size = 0 then Hd.lensN k.toNat b.toNat size.toNat else []
set_option maxRecDepth 100000 in
set_option maxHeartbeats 4000000 in
theorem rsizes_any (k m b size : Int) (w : World) :
    Calls Tryz.prog 59 #[.agg #[.int .i64 k, .int .i64 m, .int .i64 b], .int .i64 size] w fun e w' =>
      ∃ v, e = .returned (.tuple #[v, .int .i64 (sizesE k m b size)]) ∧ w'.ownsRow w.heap.size 3 1 v (sizesL k m b size).length ((sizesL k m b size).map lenV) ∧ Below w.heap.size w w' := by
  by_cases g0 : Hd.shapeOk k m b = false
  · have e1 : sizesE k m b size = 4 := if_pos g0
    have e2 : sizesL k m b size = [] := if_neg (by rw [e1]; decide)
    have HFI := Lib.hid fun W => rfits_any k m b W
    rw [g0] at HFI
    rw [e1, e2]
    clear e1 e2 g0
    go_enter Tryz.func59, Tryz.ntmps59
    go_wp2_with (go_at_call 115; refine (HFI.out _).mono ?_; rintro e w1 ⟨rfl, hb1⟩; have HB1 : Hid (Below w.heap.size w w1) := Lib.hid (((Below.refl _ w).alloc (Nat.le_refl _) _).trans (hb1.mono (by rw [alloc_size]; omega))); clear hb1)
    go_ret2
    exact ⟨_, rfl, World.ownsRow_nil _ _ _ _, HB1.out⟩
  · have g0' : Hd.shapeOk k m b = true := by simpa using g0
    have e1 : sizesE k m b size = Hd.fitsE k b size := if_neg g0
    have HFI := Lib.hid fun W => rfits_any k m b W
    rw [g0'] at HFI
    by_cases g1 : size < 0
    · have e3 : Hd.fitsE k b size = 2 := if_pos g1
      have e2 : sizesL k m b size = [] := if_neg (by rw [e1, e3]; decide)
      rw [e1, e2, e3]
      clear e1 e2 e3 g0 g0'
      go_enter Tryz.func59, Tryz.ntmps59
      go_wp2_with (go_at_call 115; refine (HFI.out _).mono ?_; rintro e w1 ⟨rfl, hb1⟩; have HB1 : Hid (Below w.heap.size w w1) := Lib.hid (((Below.refl _ w).alloc (Nat.le_refl _) _).trans (hb1.mono (by rw [alloc_size]; omega))); clear hb1)
      go_ret2
      exact ⟨_, rfl, World.ownsRow_nil _ _ _ _, HB1.out⟩
    · by_cases g2 : 1048576 < size
      · have e3 : Hd.fitsE k b size = 3 := by unfold Hd.fitsE; rw [if_neg g1, if_pos (.inl g2)]
        have e2 : sizesL k m b size = [] := if_neg (by rw [e1, e3]; decide)
        rw [e1, e2, e3]
        clear e1 e2 e3 g0 g0'
        go_enter Tryz.func59, Tryz.ntmps59
        go_wp2_with (go_at_call 115; refine (HFI.out _).mono ?_; rintro e w1 ⟨rfl, hb1⟩; have HB1 : Hid (Below w.heap.size w w1) := Lib.hid (((Below.refl _ w).alloc (Nat.le_refl _) _).trans (hb1.mono (by rw [alloc_size]; omega))); clear hb1)
        go_ret2
        exact ⟨_, rfl, World.ownsRow_nil _ _ _ _, HB1.out⟩
      · obtain ⟨h1, h2, h3, h4, h5, h6⟩ := of_decide_eq_true g0'
        obtain ⟨K, rfl⟩ : ∃ K : Nat, k = (K : Int) := ⟨k.toNat, by omega⟩
        obtain ⟨B, rfl⟩ : ∃ B : Nat, b = (B : Int) := ⟨b.toNat, by omega⟩
        obtain ⟨S, rfl⟩ : ∃ S : Nat, size = (S : Int) := ⟨size.toNat, by omega⟩
        have e3 := fitsE_nat (K := K) (B := B) (S := S) (by omega) (by omega)
        rw [if_neg (by omega)] at e3
        have e2 : sizesL (K : Int) m (B : Int) (S : Int) = if 4096 < (Hd.lensN K B S).length then [] else Hd.lensN K B S := by
          unfold sizesL
          rw [e1, e3]
          by_cases h7 : 4096 < (Hd.lensN K B S).length
          · rw [if_pos h7, if_pos h7, if_neg (by decide)]
          · rw [if_neg h7, if_neg h7, if_pos rfl]; rfl
        rw [e1, e2, e3]
        exact rsizes_in K B S m g0' (by omega) w
set_option maxRecDepth 100000 in
set_option maxHeartbeats 4000000 in
theorem rcheck_any (h : Hd) (hw : h.st.length = 8) (w : World) : Calls Tryz.prog 58 #[hdV h] w fun e w' => e = .returned (.int .i64 h.may) ∧ Below w.heap.size w w' := by
  obtain ⟨a0, a1, a2, a3, a4, a5, a6, a7, hst⟩ := lab_eight hw
  have hE : h.may = if Hd.shapeOk h.k h.m h.b = false then 4 else if h.key.length = 0 ∨ 255 < h.key.length then 90 else if Hd.fitsE h.k h.b h.size ≠ 0 then Hd.fitsE h.k h.b h.size else if h.idx < 0 ∨ h.k + h.m ≤ h.idx then 2 else if h.ep < 1 ∨ 4294967295 < h.ep ∨ h.cn < 1 ∨ 4294967295 < h.cn then 2 else 0 := rfl
  rw [hE]
  obtain ⟨st, k, m, b, key, size, idx, ep, cn⟩ := h
  simp only at hst hE ⊢
  subst hst
  clear hE hw
  unfold hdV hdCells strV
  simp only [List.map_cons, List.map_nil, List.cons_append, List.nil_append]
  unfold B8
  obtain ⟨s, hs⟩ : ∃ s : ByteArray, s = ⟨key.toArray⟩ := ⟨_, rfl⟩
  have hsz : s.size = key.length := by rw [hs]; exact size_toBA key
  rw [← hs, ← hsz]
  clear hs hsz
  have HF := Lib.hid (fun W => rsizes_any k m b size W)
  have HSE : Hid (Hd.shapeOk k m b = true → sizesE k m b size = Hd.fitsE k b size) := Lib.hid fun h => if_neg (by rw [h]; decide)
  obtain ⟨R, hR⟩ : ∃ R, R = if Hd.shapeOk k m b = false then (4 : Int) else if s.size = 0 ∨ 255 < s.size then 90 else if Hd.fitsE k b size ≠ 0 then Hd.fitsE k b size else if idx < 0 ∨ k + m ≤ idx then 2 else if ep < 1 ∨ 4294967295 < ep ∨ cn < 1 ∨ 4294967295 < cn then 2 else 0 := ⟨_, rfl⟩
  rw [← hR]
  have HR := Lib.hid hR
  clear hR
  go_enter Tryz.func58, Tryz.ntmps58
  go_wp2_with fail
  refine (rfits_any k m b _).mono ?_
  rintro e w1 ⟨rfl, hb1⟩
  have K1 := Lib.hid ((Blk.new w 28 #[.int .u8 (a0.toNat : Int), .int .u8 (a1.toNat : Int), .int .u8 (a2.toNat : Int), .int .u8 (a3.toNat : Int), .int .u8 (a4.toNat : Int), .int .u8 (a5.toNat : Int), .int .u8 (a6.toNat : Int), .int .u8 (a7.toNat : Int), .int .i64 k, .int .i64 m, .int .i64 b, .string s, .int .i64 size, .int .i64 idx, .int .i64 ep, .int .i64 cn]).below hb1 (by rw [alloc_size]; omega))
  have HB1 : Hid (Below w.heap.size w w1) := Lib.hid (((Below.refl _ w).alloc (Nat.le_refl _) _).trans (hb1.mono (by rw [alloc_size]; omega)))
  clear hb1
  by_cases g1 : Hd.shapeOk k m b = false
  · obtain rfl : R = 4 := HR.out.trans (if_pos g1)
    rw [g1]
    go_wp2
    go_ret
    exact ⟨rfl, HB1.out⟩
  · replace HR := Lib.hid (HR.out.trans (if_neg g1))
    have g1' : Hd.shapeOk k m b = true := by simpa using g1
    rw [g1']
    have y8 : w1.cell? ⟨w.heap.size, 8, none⟩ = some (.int .i64 k) := K1.out.cell 8
    have y9 : w1.cell? ⟨w.heap.size, 9, none⟩ = some (.int .i64 m) := K1.out.cell 9
    have y10 : w1.cell? ⟨w.heap.size, 10, none⟩ = some (.int .i64 b) := K1.out.cell 10
    have y11 : w1.cell? ⟨w.heap.size, 11, none⟩ = some (.string s) := K1.out.cell 11
    have y12 : w1.cell? ⟨w.heap.size, 12, none⟩ = some (.int .i64 size) := K1.out.cell 12
    by_cases g2 : s.size = 0 ∨ 255 < s.size
    · obtain rfl : R = 90 := HR.out.trans (if_pos g2)
      rcases (show s.size = 0 ∨ (¬ s.size = 0 ∧ 255 < s.size) by omega) with q1 | ⟨q1, q2⟩
      · have t1 : (s.size : Int) < 1 := by omega
        clear g2 g1
        go_wp2
        go_ret
        exact ⟨rfl, HB1.out⟩
      · have t1 : ¬ (s.size : Int) < 1 := by omega
        have t2 : (255 : Int) < (s.size : Int) := by omega
        clear g2 g1
        go_wp2
        go_ret
        exact ⟨rfl, HB1.out⟩
    · replace HR := Lib.hid (HR.out.trans (if_neg g2))
      have t1 : ¬ (s.size : Int) < 1 := by omega
      have t2 : ¬ (255 : Int) < (s.size : Int) := by omega
      go_wp2_with fail
      refine (HF.out _).mono ?_
      rintro e w2 ⟨v, rfl, ho, hb2⟩
      obtain ⟨sa, sc, rfl, _⟩ := own_shape ho
      rw [HSE.out g1']
      clear ho
      have K2 := Lib.hid (K1.out.below hb2 K1.out.lt)
      have HB2 : Hid (Below w.heap.size w w2) := Lib.hid (HB1.out.trans (hb2.mono HB1.out.size))
      clear hb2 y8 y9 y10 y11 y12
      by_cases g3 : Hd.fitsE k b size ≠ 0
      · obtain rfl : R = Hd.fitsE k b size := HR.out.trans (if_pos g3)
        have t3 : (Hd.fitsE k b size == 0) = false := beq_eq_false_iff_ne.2 (by omega)
        clear g1 g2
        go_wp2
        go_ret
        exact ⟨rfl, HB2.out⟩
      · replace HR := Lib.hid (HR.out.trans (if_neg g3))
        rw [show Hd.fitsE k b size = 0 by omega]
        have z8 : w2.cell? ⟨w.heap.size, 8, none⟩ = some (.int .i64 k) := K2.out.cell 8
        have z9 : w2.cell? ⟨w.heap.size, 9, none⟩ = some (.int .i64 m) := K2.out.cell 9
        have z13 : w2.cell? ⟨w.heap.size, 13, none⟩ = some (.int .i64 idx) := K2.out.cell 13
        have z14 : w2.cell? ⟨w.heap.size, 14, none⟩ = some (.int .i64 ep) := K2.out.cell 14
        have z15 : w2.cell? ⟨w.heap.size, 15, none⟩ = some (.int .i64 cn) := K2.out.cell 15
        obtain ⟨q1, q2, q3, q4, q5, q6⟩ := of_decide_eq_true g1'
        have hkm : wrap64 (k + m) = k + m := IntWalk.wrap64_in _ (by omega)
        clear g1 g2 g3 q3 q5 q6
        by_cases g4 : idx < 0 ∨ k + m ≤ idx
        · obtain rfl : R = 2 := HR.out.trans (if_pos g4)
          rcases (show idx < 0 ∨ (¬ idx < 0 ∧ k + m ≤ idx) by omega) with p1 | ⟨p1, p2⟩
          · clear g4
            go_wp2
            go_ret
            exact ⟨rfl, HB2.out⟩
          · clear g4
            go_wp2
            go_ret
            exact ⟨rfl, HB2.out⟩
        · replace HR := Lib.hid (HR.out.trans (if_neg g4))
          have p1 : ¬ idx < 0 := by omega
          have p2 : ¬ k + m ≤ idx := by omega
          clear g4
          by_cases g5 : ep < 1 ∨ 4294967295 < ep ∨ cn < 1 ∨ 4294967295 < cn
          · obtain rfl : R = 2 := HR.out.trans (if_pos g5)
            rcases (show ep < 1 ∨ (¬ep < 1 ∧ 4294967295 < ep) ∨ (¬ep < 1 ∧ ¬4294967295 < ep ∧ cn < 1) ∨ (¬ep < 1 ∧ ¬4294967295 < ep ∧ ¬cn < 1 ∧ 4294967295 < cn) by omega) with r1 | ⟨r1, r2⟩ | ⟨r1, r2, r3⟩ | ⟨r1, r2, r3, r4⟩
            · clear g5
              go_wp2
              go_ret
              exact ⟨rfl, HB2.out⟩
            · clear g5
              go_wp2
              go_ret
              exact ⟨rfl, HB2.out⟩
            · clear g5
              go_wp2
              go_ret
              exact ⟨rfl, HB2.out⟩
            · clear g5
              go_wp2
              go_ret
              exact ⟨rfl, HB2.out⟩
          · obtain rfl : R = 0 := HR.out.trans (if_neg g5)
            have r1 : ¬ep < 1 := by omega
            have r2 : ¬4294967295 < ep := by omega
            have r3 : ¬cn < 1 := by omega
            have r4 : ¬4294967295 < cn := by omega
            clear g5
            go_wp2
            go_ret
            exact ⟨rfl, HB2.out⟩
end Go.Proofs.YtcbebefdbdppdaaGreat
