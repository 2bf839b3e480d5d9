/- The document's sum is the program's. -/
import Derived.Test.YtdiaihpilniikaaKyc
namespace Go.Proofs.Ytdiaihpilniikaa
open Go.RowKit Go.Maps

set_option maxRecDepth 100000 in
set_option maxHeartbeats 4000000 in
theorem gone_any (r : Nat) (hr : r < 4294967296) (A : Option Addr) (n c : Nat) (bs : List UInt8) (w : World) (B : Nat) (hx : Reads w B 1 A n (bs.map B8)) (hB : B ≤ w.heap.size) (hbig : n ≤ 1099511627776) :
    Calls Try.prog 45 #[.int .u32 (r : Int), .slice A n c] w fun e w' => e = .returned (.int .u32 ((over r bs : Nat) : Int)) ∧ Below w.heap.size w w' := by
  have hlen : bs.length = n := by have := hx.1; simpa using this
  have HBITS := Lib.hid (bits_any A n c bs w B hx hB hbig)
  obtain ⟨m, hm⟩ : ∃ m, m = msgBit bs := ⟨_, rfl⟩
  obtain ⟨N, hN⟩ : ∃ N, N = 8 * n := ⟨_, rfl⟩
  have HZ : Hid (∀ j, m (N + j) = false) := Lib.hid fun j => by
    rw [hm, hN]; unfold msgBit; rw [List.getElem?_eq_none (by omega)]
  obtain ⟨R, hR⟩ : ∃ R, R = over r bs := ⟨_, rfl⟩
  have HREST : Hid (∀ j, divUpto (fun j => r.testBit j != m j) N (N + j) = R.testBit j) := Lib.hid fun j => by
    rw [hR, hN, ← hlen]; exact div_rest r bs _ (fun j => by rw [hm]) j
  have HRL : Hid (R < 4294967296) := Lib.hid (by rw [hR]; exact over_lt hr bs)
  have HRB : Hid (∀ j, 32 ≤ j → r.testBit j = false) := Lib.hid fun j hj => Nat.testBit_lt_two_pow (Nat.lt_of_lt_of_le hr (by have := Nat.pow_le_pow_right (n := 2) (by decide) hj; omega))
  rw [← hm, ← hN] at HBITS
  rw [← hR]
  have hNb : N ≤ 8796093022208 := by omega
  obtain ⟨i3, hi3, hz0, hz1, hz2⟩ := info_parts intInfo
  have HM : Hid (∀ k, k ≤ 32 → N + k + 1 ≤ maxLen ∧ (N + k + 1) * 8 ≤ 140737488355328) := Lib.hid fun k hk => ⟨by simp only [maxLen]; omega, by omega⟩
  clear hx hm hN hR hbig hlen
  have HRR := Lib.hid hr
  clear hr
  go_enter Try.func45, Try.ntmps45
  go_wp2_with (go_at_call 61; refine HBITS.out.mono ?_; rintro e w1 ⟨v0, rfl, ho, hb⟩; obtain ⟨a0, c0, rfl, _⟩ := own_shape ho; have HO := Lib.hid ho; have HB1 := Lib.hid hb; clear ho hb)
  go_loopw [5, 7] (fun s5 s7 wr => ∃ j : Nat, j ≤ 32 ∧ s7 = .int .i64 j ∧ (∃ a c, s5 = .slice a (N + j) c) ∧ wr.ownsRow w.heap.size 3 1 s5 (N + j) (rowB m (N + j)) ∧ Below w.heap.size w wr) (fun _ s _ => 32 - (intOf s).toNat)
  case atStart => exact ⟨0, Nat.zero_le _, rfl, ⟨_, _, rfl⟩, HO.out, HB1.out⟩
  case round =>
    obtain ⟨j, hj, rfl, ⟨a1, c1, rfl⟩, ho, hb⟩ := hrel
    have HO2 := Lib.hid ho
    have HB2 := Lib.hid hb
    have hsz := hb.size
    clear ho hb
    have hj0 : (0 : Int) ≤ (j : Int) := Int.natCast_nonneg _
    by_cases hlt : j < 32
    · have hj1 : (j : Int) < 32 := by omega
      have HMk := Lib.hid (HM.out j (by omega))
      go_wp2_with (at_builtin; go_loud (refine wpList_append_any _ rfl _ _ 43 rfl w.heap.size 3 i3 _ 1 8 Try.underlying43 hi3 hz0 hz1 hz2 rfl (by omega) _ (N + j) _ rfl (HO2.out.alloc _) (wr.heap.size + 1) (some ⟨wr.heap.size, 0, none⟩) 1 1 [bV false] rfl (reads_blk (t := 3) (blk_last _ _ _ _ rfl) (by omega) rfl) (by intro u hu; simp at hu; subst hu; rfl) HMk.out.1 HMk.out.2 (by rw [alloc_size]; omega) ?_); intro v1 w1 hown1 hg1 hat1; obtain ⟨a2, c2, hvs, _⟩ := own_shape hown1; subst hvs; have HOWN := Lib.hid hown1; have HB3 := Lib.hid ((HB2.out.alloc hsz _).grown hg1 (by rw [alloc_size]; omega) (fun i hi => (HO2.out.lt i hi).1)); clear hown1 hg1 hat1)
      go_roundw
      case rel =>
        refine ⟨j + 1, by omega, by go_num, ⟨_, _, rfl⟩, ?_, HB3.out⟩
        have := HOWN.out
        rw [← HZ.out j, ← rowB_succ] at this
        exact this
      case measure => simp [intOf]; omega
    · obtain rfl : j = 32 := by omega
      obtain ⟨g, hg0, hgb⟩ : ∃ g, a1 = some ⟨g, 0, none⟩ ∧ w.heap.size ≤ g := by
        obtain ⟨g, c', e1, e2, _⟩ := row_some HO2.out (by omega)
        injection e1 with e1
        exact ⟨g, e1, e2⟩
      subst hg0
      have HO3 : Hid (wr.ownsRow w.heap.size 3 1 (.slice (some ⟨g, 0, none⟩) (N + 32) c1) (N + 32) (rowB (laidUpto r m 0) (N + 32))) := HO2
      clear HO2
      go_wp2_with fail
      go_loopw [8] (fun s8 wr => ∃ i : Nat, i ≤ 32 ∧ s8 = .int .i64 i ∧ wr.ownsRow w.heap.size 3 1 (.slice (some ⟨g, 0, none⟩) (N + 32) c1) (N + 32) (rowB (laidUpto r m i) (N + 32)) ∧ Below w.heap.size w wr) (fun s _ => 32 - (intOf s).toNat)
      case atStart => exact ⟨0, Nat.zero_le _, rfl, HO3.out, HB2.out⟩
      case round =>
        obtain ⟨i, hi, rfl, ho, hb⟩ := hrel
        have HO4 := Lib.hid ho
        have HB4 := Lib.hid hb
        clear ho hb
        have hi0 : (0 : Int) ≤ (i : Int) := Int.natCast_nonneg _
        by_cases hlt : i < 32
        · have hi1 : (i : Int) < 32 := by omega
          have hiN : (i : Int) < (N : Int) + 32 := by omega
          obtain ⟨z, hz⟩ : ∃ z : Nat, z = bitN (m i) := ⟨_, rfl⟩
          obtain ⟨y, hy⟩ : ∃ y : Nat, y = bitN (r.testBit i) := ⟨_, rfl⟩
          have hyle : y ≤ 1 := by rw [hy]; unfold bitN; split <;> omega
          have hc : wr.cell? ⟨g, i, none⟩ = some (.int .i64 (z : Int)) := by
            rw [HO4.out.cellAt i (by omega), rowB_get _ (by omega)]; unfold laidUpto; rw [if_neg (by omega), hz]; rfl
          have hfr : ∀ j, wr.frozen? ⟨g, j, none⟩ = false := fun j => HO4.out.frozenAt j
          obtain ⟨t, ht⟩ : ∃ t : Nat, t = bitN (m i != r.testBit i) := ⟨_, rfl⟩
          have hxor : bits .xor .i64 (z : Int) (y : Int) = (t : Int) := by rw [hz, hy, ht]; exact xor_bit _ _
          have hand : bits .and .u32 ((r : Int) / 2 ^ i) 1 = (y : Int) := by
            rw [show ((r : Int) / 2 ^ i) = ((r / 2 ^ i : Nat) : Int) by simp, show (1 : Int) = ((1 : Nat) : Int) from rfl, u32_and_nat _ 1 (Nat.lt_of_le_of_lt (Nat.div_le_self _ _) HRR.out) (by decide), Nat.and_one_is_mod, bit_at, hy]
          have HS : Hid ((rowB (laidUpto r m i) (N + 32)).set i (.int .i64 (t : Int)) = rowB (laidUpto r m (i + 1)) (N + 32)) := Lib.hid (by
            rw [ht]; exact (rowB_set _ _ _ _).trans (by rw [laidUpto_succ]))
          have hic : (i : Int) % 18446744073709551616 = (i : Int) := by omega
          have hmin : min i 32 = i := by omega
          clear hz hy ht
          go_wp2
          go_roundw
          case rel => exact ⟨i + 1, by omega, by go_num, by have := row_set HO4.out (j := i) (.int .i64 (t : Int)); rw [HS.out] at this; exact this, HB4.out.setCell hgb _⟩
          case measure => simp [intOf]; omega
        · obtain rfl : i = 32 := by omega
          obtain ⟨f, hf⟩ : ∃ f, f = fun j => r.testBit j != m j := ⟨_, rfl⟩
          have HF : Hid (rowB (laidUpto r m 32) (N + 32) = rowB f (N + 32)) := Lib.hid (rowB_congr fun j _ => by
            rw [hf]; unfold laidUpto
            by_cases h : j < 32
            · rw [if_pos h]
            · rw [if_neg h]; show m j = (r.testBit j != m j); rw [HRB.out j (by omega)]; simp)
          rw [← hf] at HREST
          rw [HF.out] at HO4
          clear HF hf
          have hgw : g < wr.heap.size := (HO4.out.lt g rfl).2
          go_wp2_with (go_at_call 62; refine (terms_any wr).mono ?_; rintro e w2 ⟨rfl, ht, hb⟩; have HT := Lib.hid ht; have HBT := Lib.hid hb; clear ht hb)
          obtain ⟨T, hT⟩ : ∃ T, T = wr.heap.size := ⟨_, rfl⟩
          rw [← hT] at hgw HT HBT ⊢
          have HO5 : Hid (w2.ownsRow w.heap.size 3 1 (.slice (some ⟨g, 0, none⟩) (N + 32) c1) (N + 32) (rowB f (N + 32))) := Lib.hid (ownsRow_keep HO4.out fun k hk => HBT.out.block k (by rw [hT]; exact (HO4.out.lt k hk).2))
          have HB5 : Hid (Below w.heap.size w w2) := Lib.hid (HB4.out.trans (HBT.out.mono (by rw [hT]; exact HB4.out.size)))
          clear hT
          go_loopw [10, 11] (fun s10 _ wr => ∃ i : Nat, i ≤ N ∧ s10 = .int .i64 i ∧ wr.ownsRow w.heap.size 3 1 (.slice (some ⟨g, 0, none⟩) (N + 32) c1) (N + 32) (rowB (divUpto f i) (N + 32)) ∧ Blk wr T 3 termV ∧ Below w.heap.size w wr) (fun s _ _ => N - (intOf s).toNat)
          case atStart => exact ⟨0, Nat.zero_le _, rfl, HO5.out, HT.out, HB5.out⟩
          case round =>
            obtain ⟨i, hi, rfl, ho, ht, hb⟩ := hrel
            have HO6 := Lib.hid ho
            have HT6 := Lib.hid ht
            have HB6 := Lib.hid hb
            clear ho ht hb
            have hi0 : (0 : Int) ≤ (i : Int) := Int.natCast_nonneg _
            by_cases hlt : i < N
            · have hi1 : (i : Int) < (N : Int) := by omega
              have hiN : (i : Int) < (N : Int) + 32 := by omega
              have hfr : ∀ j, wr.frozen? ⟨g, j, none⟩ = false := fun j => HO6.out.frozenAt j
              cases hbit : divUpto f i i with
              | false =>
                have HSK : Hid (rowB (divUpto f i) (N + 32) = rowB (divUpto f (i + 1)) (N + 32)) := Lib.hid (by
                  rw [show divUpto f (i + 1) = divStep i (divUpto f i) from rfl, div_skip _ _ hbit])
                have hc : wr.cell? ⟨g, i, none⟩ = some (.int .i64 0) := by
                  rw [HO6.out.cellAt i (by omega), rowB_get _ (by omega), hbit]; rfl
                clear hbit
                go_wp2
                go_roundw
                case rel => exact ⟨i + 1, by omega, by go_num, by rw [← HSK.out]; exact HO6.out, HT6.out, HB6.out⟩
                case measure => simp [intOf]; omega
              | true =>
                have HDF : Hid (divPart i (divUpto f i) 18 = divUpto f (i + 1)) := Lib.hid (divPart_full i _ hbit)
                have hc : wr.cell? ⟨g, i, none⟩ = some (.int .i64 1) := by
                  rw [HO6.out.cellAt i (by omega), rowB_get _ (by omega), hbit]; rfl
                clear hbit
                go_wp2_with fail
                clear hc hfr
                go_loopw [11] (fun s11 wr => ∃ k : Nat, k ≤ 18 ∧ s11 = .int .i64 k ∧ wr.ownsRow w.heap.size 3 1 (.slice (some ⟨g, 0, none⟩) (N + 32) c1) (N + 32) (rowB (divPart i (divUpto f i) k) (N + 32)) ∧ Blk wr T 3 termV ∧ Below w.heap.size w wr) (fun s _ => 18 - (intOf s).toNat)
                case atStart => exact ⟨0, Nat.zero_le _, rfl, by rw [divPart_zero]; exact HO6.out, HT6.out, HB6.out⟩
                case round =>
                  obtain ⟨k, hk, rfl, ho, ht, hb⟩ := hrel
                  have HO7 := Lib.hid ho
                  have HT7 := Lib.hid ht
                  have HB7 := Lib.hid hb
                  clear ho ht hb
                  have hk0 : (0 : Int) ≤ (k : Int) := Int.natCast_nonneg _
                  by_cases hltk : k < 18
                  · have hk1 : (k : Int) < 18 := by omega
                    obtain ⟨t, htl, htg, htn, htv⟩ := term_get k hltk
                    have ht7 : wr.cell? ⟨T, k, none⟩ = some (.int .i64 (t : Int)) := (HT7.out.cell k).trans htv
                    obtain ⟨u, hu⟩ : ∃ u, u = i + t := ⟨_, rfl⟩
                    have hut : (i : Int) + (t : Int) = (u : Int) := by omega
                    have huN : (u : Int) < (N : Int) + 32 := by omega
                    have hu0 : (0 : Int) ≤ (u : Int) := Int.natCast_nonneg _
                    obtain ⟨z, hz⟩ : ∃ z : Nat, z = bitN (divPart i (divUpto f i) k u) := ⟨_, rfl⟩
                    have hc : wr.cell? ⟨g, u, none⟩ = some (.int .i64 (z : Int)) := by
                      rw [HO7.out.cellAt u (by omega), rowB_get _ (by omega), hz]; rfl
                    have hfr : ∀ j, wr.frozen? ⟨g, j, none⟩ = false := fun j => HO7.out.frozenAt j
                    obtain ⟨y, hy⟩ : ∃ y : Nat, y = bitN (divPart i (divUpto f i) k u != true) := ⟨_, rfl⟩
                    have hxor : bits .xor .i64 (z : Int) 1 = (y : Int) := by rw [hz, hy]; exact xor_bit _ true
                    have HS : Hid ((rowB (divPart i (divUpto f i) k) (N + 32)).set u (.int .i64 (y : Int)) = rowB (divPart i (divUpto f i) (k + 1)) (N + 32)) := Lib.hid (by
                      rw [hy, hu, ← divPart_succ i _ htg htn]; exact rowB_set _ _ _ _)
                    clear hz hy hu htg htn htv
                    go_wp2_with fail
                    go_region
                    all_goals go_wp2
                    all_goals go_roundw
                    case rel => exact ⟨k + 1, by omega, by go_num, by have := row_set HO7.out (j := u) (.int .i64 (y : Int)); rw [HS.out] at this; exact this, (HT7.out.far (by simp; omega) _).drew, below_drewN (HB7.out.setCell (p := ⟨g, u, none⟩) hgb _) 1⟩
                    case measure => simp [intOf]; omega
                  · obtain rfl : k = 18 := by omega
                    rw [HDF.out] at HO7
                    go_wp2
                    go_roundw
                    case rel => exact ⟨i + 1, by omega, by go_num, HO7.out, HT7.out, HB7.out⟩
                    case measure => simp [intOf]; omega
            · obtain rfl : i = N := by omega
              go_wp2_with fail
              go_loopw [12, 13] (fun s12 s13 wr' => ∃ j : Nat, j ≤ 32 ∧ s13 = .int .i64 j ∧ s12 = .int .u32 ((R % 2 ^ j : Nat) : Int) ∧ wr'.ownsRow w.heap.size 3 1 (.slice (some ⟨g, 0, none⟩) (i + 32) c1) (i + 32) (rowB (divUpto f i) (i + 32)) ∧ Below w.heap.size w wr') (fun _ s _ => 32 - (intOf s).toNat)
              case atStart => exact ⟨0, Nat.zero_le _, rfl, by rw [Nat.pow_zero, Nat.mod_one]; rfl, HO6.out, HB6.out⟩
              case round =>
                obtain ⟨j, hj, rfl, rfl, ho, hb⟩ := hrel
                have HO8 := Lib.hid ho
                have HB8 := Lib.hid hb
                clear ho hb
                have hj0 : (0 : Int) ≤ (j : Int) := Int.natCast_nonneg _
                by_cases hltj : j < 32
                · have hj1 : (j : Int) < 32 := by omega
                  obtain ⟨u, hu⟩ : ∃ u, u = i + j := ⟨_, rfl⟩
                  have hut : (i : Int) + (j : Int) = (u : Int) := by omega
                  have huN : (u : Int) < (i : Int) + 32 := by omega
                  have hu0 : (0 : Int) ≤ (u : Int) := Int.natCast_nonneg _
                  obtain ⟨z, hz⟩ : ∃ z : Nat, z = bitN (R.testBit j) := ⟨_, rfl⟩
                  have hz1 : z ≤ 1 := by rw [hz]; unfold bitN; split <;> omega
                  have hc : wr.cell? ⟨g, u, none⟩ = some (.int .i64 (z : Int)) := by
                    rw [HO8.out.cellAt u (by omega), rowB_get _ (by omega), hu, HREST.out j, hz]; rfl
                  obtain ⟨q, hq⟩ : ∃ q : Nat, q = R % 2 ^ j := ⟨_, rfl⟩
                  obtain ⟨q', hq'⟩ : ∃ q' : Nat, q' = R % 2 ^ (j + 1) := ⟨_, rfl⟩
                  have hor : bits .or .u32 (q : Int) ((z : Int) * 2 ^ j) = (q' : Int) := by
                    have := rest_step R j hltj
                    rw [← hz, ← hq, ← hq'] at this
                    rw [← this]; simp
                  rw [← hq]
                  have HQ := Lib.hid hq'
                  have hjc : (j : Int) % 18446744073709551616 = (j : Int) := by omega
                  have hmin : min j 32 = j := by omega
                  have hzc : (z : Int) % 4294967296 = (z : Int) := by omega
                  clear hq hq' hz hu
                  have hsh : (z : Int) * 2 ^ j % 4294967296 = (z : Int) * 2 ^ j := by
                    have h2 : (2 : Nat) ^ j ≤ 2 ^ 31 := Nat.pow_le_pow_right (by decide) (by omega)
                    have h4 : z * 2 ^ j ≤ 1 * 2 ^ 31 := Nat.mul_le_mul hz1 h2
                    have h5 : ((z * 2 ^ j : Nat) : Int) = (z : Int) * 2 ^ j := by simp
                    rw [← h5]; omega
                  go_wp2
                  go_roundw
                  case rel => exact ⟨j + 1, by omega, by go_num, by rw [HQ.out], HO8.out, HB8.out⟩
                  case measure => simp [intOf]; omega
                · obtain rfl : j = 32 := by omega
                  have HE : Hid (R % 2 ^ 32 = R) := Lib.hid (Nat.mod_eq_of_lt HRL.out)
                  rw [HE.out]
                  go_wp2
                  go_ret
                  exact ⟨rfl, HB8.out⟩
theorem refsum_any (A : Option Addr) (n c : Nat) (bs : List UInt8) (w : World) (B : Nat) (hx : Reads w B 1 A n (bs.map B8)) (hB : B ≤ w.heap.size) (hbig : n ≤ 1099511627776) :
    Calls Try.prog 26 #[.slice A n c] w fun e w' => e = .returned (.int .u32 ((crcSum bs : Nat) : Int)) ∧ Below w.heap.size w w' := by
  have HG := Lib.hid (gone_any 4294967295 (by decide) A n c bs w B hx hB hbig)
  obtain ⟨t, ht⟩ : ∃ t, t = over 4294967295 bs := ⟨_, rfl⟩
  have htl : t < 4294967296 := by rw [ht]; exact over_lt (by decide) bs
  have hx2 : bits .xor .u32 (t : Int) 4294967295 = ((crcSum bs : Nat) : Int) := by
    rw [show (4294967295 : Int) = ((4294967295 : Nat) : Int) from rfl, u32_xor_nat t 4294967295 htl (by decide), ht]; rfl
  rw [← ht] at HG
  clear hx ht
  have HT := Lib.hid htl
  clear htl
  go_enter Try.func26, Try.ntmps26
  go_wp2_with (go_at_call 45; refine HG.out.mono ?_; rintro e w1 ⟨rfl, hb⟩; have HB := Lib.hid hb; clear hb)
  go_ret
  exact ⟨rfl, HB.out⟩
end Go.Proofs.Ytdiaihpilniikaa
