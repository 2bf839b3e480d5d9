/- The document's long division in memory: what it leaves is the register behind the bytes.; The document's sum is the program's.; The document's label: may it be, a number's bytes, the bytes' number. -/
import Derived.Test.YtdiaihpilniikaaGreatM21
import Derived.RegionTactic
import Derived.Test.YtdiaihpilniikaaGreatM18
namespace Go.Proofs.YtdiaihpilniikaaGreat
open Go.RowKit Go.Maps

theorem row_set {w : World} {base n g c j : Nat} {e : TypeId} {xs : List Value} (h : w.ownsRow base e 1 (.slice (some ⟨g, 0, none⟩) n c) n xs) (u : Value) :
    (w.setCell ⟨g, j, none⟩ u).ownsRow base e 1 (.slice (some ⟨g, 0, none⟩) n c) n (xs.set j u) := by
  obtain ⟨h1, h2⟩ := h
  rcases h2 with ⟨h3, _⟩ | ⟨g', cap, cur, h3, h4, h5, h6, h7, h8, h9⟩
  · cases h3
  · injection h3 with e1 _ e3
    injection e1 with e1
    injection e1 with e1
    subst e1 e3
    have hb : Blk w g e cur := h5
    refine ⟨by rw [List.length_set]; exact h1, .inr ⟨g, c, _, rfl, h4, hb.set_ j u, h6, h7, ?_, ?_⟩⟩
    · simp; omega
    · simp only [Array.toList_setIfInBounds]
      rw [List.take_set, h9]

theorem row_some {w : World} {base : Nat} {e : TypeId} {size : Nat} {v : Value} {n : Nat} {xs : List Value} (h : w.ownsRow base e size v n xs) (hn : 0 < n) : ∃ g c, v = .slice (some ⟨g, 0, none⟩) n c ∧ base ≤ g ∧ g < w.heap.size := by
  have hl := h.lt
  rcases h.2 with ⟨_, h0⟩ | ⟨g, cap, cur, rfl, h4, _⟩
  · omega
  · exact ⟨g, cap, rfl, (hl g rfl).1, (hl g rfl).2⟩
def termV : Array Value := #[.int .i64 0, .int .i64 4, .int .i64 5, .int .i64 6, .int .i64 7, .int .i64 9, .int .i64 10, .int .i64 12, .int .i64 13, .int .i64 14, .int .i64 18, .int .i64 19, .int .i64 21, .int .i64 22, .int .i64 23, .int .i64 24, .int .i64 26, .int .i64 32]
theorem terms_any (w : World) : Calls Tryz.prog 82 #[] w fun e w' => e = .returned (.slice (some ⟨w.heap.size, 0, none⟩) 18 18) ∧ Blk w' w.heap.size 3 termV ∧ Below w.heap.size w w' := by
  go_enter Tryz.func82, Tryz.ntmps82
  go_wp2
  go_ret
  exact ⟨rfl, Blk.new _ _ _, (Below.refl _ _).alloc (Nat.le_refl _) _⟩
theorem term_get (k : Nat) (hk : k < 18) : ∃ t : Nat, t ≤ 32 ∧ crcTerms[k]? = some t ∧ (crcTerms.take k).contains t = false ∧ termV[k]? = some (.int .i64 (t : Int)) := by
  match k, hk with
  | 0, _ => exact ⟨0, by decide, rfl, rfl, rfl⟩
  | 1, _ => exact ⟨4, by decide, rfl, rfl, rfl⟩
  | 2, _ => exact ⟨5, by decide, rfl, rfl, rfl⟩
  | 3, _ => exact ⟨6, by decide, rfl, rfl, rfl⟩
  | 4, _ => exact ⟨7, by decide, rfl, rfl, rfl⟩
  | 5, _ => exact ⟨9, by decide, rfl, rfl, rfl⟩
  | 6, _ => exact ⟨10, by decide, rfl, rfl, rfl⟩
  | 7, _ => exact ⟨12, by decide, rfl, rfl, rfl⟩
  | 8, _ => exact ⟨13, by decide, rfl, rfl, rfl⟩
  | 9, _ => exact ⟨14, by decide, rfl, rfl, rfl⟩
  | 10, _ => exact ⟨18, by decide, rfl, rfl, rfl⟩
  | 11, _ => exact ⟨19, by decide, rfl, rfl, rfl⟩
  | 12, _ => exact ⟨21, by decide, rfl, rfl, rfl⟩
  | 13, _ => exact ⟨22, by decide, rfl, rfl, rfl⟩
  | 14, _ => exact ⟨23, by decide, rfl, rfl, rfl⟩
  | 15, _ => exact ⟨24, by decide, rfl, rfl, rfl⟩
  | 16, _ => exact ⟨26, by decide, rfl, rfl, rfl⟩
  | 17, _ => exact ⟨32, by decide, rfl, rfl, rfl⟩
  | _ + 18, h => omega
/-- How far the register is laid over the bits. -/
def laidUpto (r : Nat) (m : Nat → Bool) (i : Nat) : Nat → Bool := fun j => if j < i then (r.testBit j != m j) else m j
theorem laidUpto_succ (r : Nat) (m : Nat → Bool) (i : Nat) : (fun j => if j = i then (m i != r.testBit i) else laidUpto r m i j) = laidUpto r m (i + 1) := by
  funext j
  unfold laidUpto
  by_cases h : j = i
  · subst h
    rw [if_pos rfl, if_pos (by omega), bne_comm]
  · rw [if_neg h]
    by_cases h2 : j < i
    · rw [if_pos h2, if_pos (by omega)]
    · rw [if_neg h2, if_neg (by omega)]
/-- How far one bit is struck out. -/
def divPart (i : Nat) (f : Nat → Bool) (k : Nat) : Nat → Bool := fun j => f j != (decide (i ≤ j) && (crcTerms.take k).contains (j - i))
theorem divPart_zero (i : Nat) (f : Nat → Bool) : divPart i f 0 = f := by
  funext j; unfold divPart; rw [List.take_zero]; simp
theorem divPart_full (i : Nat) (f : Nat → Bool) (hi : f i = true) : divPart i f 18 = divStep i f := by
  funext j; unfold divPart divStep; rw [hi]; rfl
theorem divPart_succ (i : Nat) (f : Nat → Bool) {k t : Nat} (ht : crcTerms[k]? = some t) (hn : (crcTerms.take k).contains t = false) : (fun j => if j = i + t then (divPart i f k (i + t) != true) else divPart i f k j) = divPart i f (k + 1) := by
  funext j
  unfold divPart
  rw [List.take_add_one, ht]
  by_cases h : j = i + t
  · subst h
    rw [if_pos rfl, show i + t - i = t by omega, hn]
    have e1 : decide (i ≤ i + t) = true := by simp
    have e2 : (crcTerms.take k ++ (some t).toList).contains t = true := by simp
    rw [e1, e2]
    cases f (i + t) <;> rfl
  · rw [if_neg h]
    by_cases h2 : i ≤ j
    · have e2 : (crcTerms.take k ++ (some t).toList).contains (j - i) = (crcTerms.take k).contains (j - i) := by
        have : j - i ≠ t := by omega
        rw [List.contains_eq_any_beq, List.contains_eq_any_beq, List.any_append]
        simp [this]
      rw [e2]
    · have e1 : decide (i ≤ j) = false := by simp; omega
      rw [e1]; simp
theorem div_skip (i : Nat) (f : Nat → Bool) (hi : f i = false) : divStep i f = f := by
  funext j; unfold divStep; rw [hi]; simp
theorem rest_step (R i : Nat) (hi : i < 32) : bits .or .u32 ((R % 2 ^ i : Nat) : Int) ((bitN (R.testBit i) * 2 ^ i : Nat) : Int) = ((R % 2 ^ (i + 1) : Nat) : Int) := by
  have h1 : R % 2 ^ i < 2 ^ i := Nat.mod_lt _ (Nat.two_pow_pos i)
  have h2 : (2 : Nat) ^ i ≤ 2 ^ 31 := Nat.pow_le_pow_right (by decide) (by omega)
  have h3 : bitN (R.testBit i) ≤ 1 := by unfold bitN; split <;> omega
  have h4 : bitN (R.testBit i) * 2 ^ i ≤ 1 * 2 ^ 31 := Nat.mul_le_mul h3 h2
  rw [u32_or_nat _ _ (by omega) (by omega), Nat.or_comm, nat_join i _ _ (Nat.mul_mod_left _ _) h1]
  rw [← bit_at, Nat.pow_succ, Nat.mod_mul, Nat.mul_comm]
  congr 1
  omega
end Go.Proofs.YtdiaihpilniikaaGreat
namespace Go.Proofs.YtdiaihpilniikaaGreat
open Go.RowKit Go.Maps

set_option maxRecDepth 100000 in
set_option maxHeartbeats 4000000 in
theorem gone_any (r : Nat) (hr : r < 4294967296) (A : Option Addr) (n c : Nat) (bs : List UInt8) (w : World) (B : Nat) (hx : Reads w B 1 A n (bs.map B8)) (hB : B ≤ w.heap.size) (hbig : n ≤ 1099511627776) :
    Calls Tryz.prog 65 #[.int .u32 (r : Int), .slice A n c] w fun e w' => e = .returned (.int .u32 ((over r bs : Nat) : Int)) ∧ Below w.heap.size w w' := by
  have hlen : bs.length = n := by have := hx.1; simpa using this
  have HBITS := Lib.hid (bits_any A n c bs w B hx hB hbig)
  obtain ⟨m, hm⟩ : ∃ m, m = msgBit bs := ⟨_, rfl⟩
  obtain ⟨N, hN⟩ : ∃ N, N = 8 * n := ⟨_, rfl⟩
  have HZ : Hid (∀ j, m (N + j) = false) := Lib.hid fun j => by
    rw [hm, hN]; unfold msgBit; rw [List.getElem?_eq_none (by omega)]
  obtain ⟨R, hR⟩ : ∃ R, R = over r bs := ⟨_, rfl⟩
  have HREST : Hid (∀ j, divUpto (fun j => r.testBit j != m j) N (N + j) = R.testBit j) := Lib.hid fun j => by
    rw [hR, hN, ← hlen]; exact div_rest r bs _ (fun j => by rw [hm]) j
  have HRL : Hid (R < 4294967296) := Lib.hid (by rw [hR]; exact over_lt hr bs)
  have HRB : Hid (∀ j, 32 ≤ j → r.testBit j = false) := Lib.hid fun j hj => Nat.testBit_lt_two_pow (Nat.lt_of_lt_of_le hr (by have := Nat.pow_le_pow_right (n := 2) (by decide) hj; omega))
  rw [← hm, ← hN] at HBITS
  rw [← hR]
  have hNb : N ≤ 8796093022208 := by omega
  obtain ⟨i3, hi3, hz0, hz1, hz2⟩ := info_parts intInfo
  have HM : Hid (∀ k, k ≤ 32 → N + k + 1 ≤ maxLen ∧ (N + k + 1) * 8 ≤ 140737488355328) := Lib.hid fun k hk => ⟨by simp only [maxLen]; omega, by omega⟩
  clear hx hm hN hR hbig hlen
  have HRR := Lib.hid hr
  clear hr
  go_enter Tryz.func65, Tryz.ntmps65
  go_wp2_with (go_at_call 81; refine HBITS.out.mono ?_; rintro e w1 ⟨v0, rfl, ho, hb⟩; obtain ⟨a0, c0, rfl, _⟩ := own_shape ho; have HO := Lib.hid ho; have HB1 := Lib.hid hb; clear ho hb)
  go_loopw [5, 7] (fun s5 s7 wr => ∃ j : Nat, j ≤ 32 ∧ s7 = .int .i64 j ∧ (∃ a c, s5 = .slice a (N + j) c) ∧ wr.ownsRow w.heap.size 3 1 s5 (N + j) (rowB m (N + j)) ∧ Below w.heap.size w wr) (fun _ s _ => 32 - (intOf s).toNat)
  case atStart => exact ⟨0, Nat.zero_le _, rfl, ⟨_, _, rfl⟩, HO.out, HB1.out⟩
  case round =>
    obtain ⟨j, hj, rfl, ⟨a1, c1, rfl⟩, ho, hb⟩ := hrel
    have HO2 := Lib.hid ho
    have HB2 := Lib.hid hb
    have hsz := hb.size
    clear ho hb
    have hj0 : (0 : Int) ≤ (j : Int) := Int.natCast_nonneg _
    by_cases hlt : j < 32
    · have hj1 : (j : Int) < 32 := by omega
      have HMk := Lib.hid (HM.out j (by omega))
      go_wp2_with (at_builtin; go_loud (refine wpList_append_any _ rfl _ _ 57 rfl w.heap.size 3 i3 _ 1 8 Tryz.underlying57 hi3 hz0 hz1 hz2 rfl (by omega) _ (N + j) _ rfl (HO2.out.alloc _) (wr.heap.size + 1) (some ⟨wr.heap.size, 0, none⟩) 1 1 [bV false] rfl (reads_blk (t := 3) (blk_last _ _ _ _ rfl) (by omega) rfl) (by intro u hu; simp at hu; subst hu; rfl) HMk.out.1 HMk.out.2 (by rw [alloc_size]; omega) ?_); intro v1 w1 hown1 hg1 hat1; obtain ⟨a2, c2, hvs, _⟩ := own_shape hown1; subst hvs; have HOWN := Lib.hid hown1; have HB3 := Lib.hid ((HB2.out.alloc hsz _).grown hg1 (by rw [alloc_size]; omega) (fun i hi => (HO2.out.lt i hi).1)); clear hown1 hg1 hat1)
      go_roundw
      case rel =>
        refine ⟨j + 1, by omega, by go_num, ⟨_, _, rfl⟩, ?_, HB3.out⟩
        have := HOWN.out
        rw [← HZ.out j, ← rowB_succ] at this
        exact this
      case measure => simp [intOf]; omega
    · obtain rfl : j = 32 := by omega
      obtain ⟨g, hg0, hgb⟩ : ∃ g, a1 = some ⟨g, 0, none⟩ ∧ w.heap.size ≤ g := by
        obtain ⟨g, c', e1, e2, _⟩ := row_some HO2.out (by omega)
        injection e1 with e1
        exact ⟨g, e1, e2⟩
      subst hg0
      have HO3 : Hid (wr.ownsRow w.heap.size 3 1 (.slice (some ⟨g, 0, none⟩) (N + 32) c1) (N + 32) (rowB (laidUpto r m 0) (N + 32))) := HO2
      clear HO2
      go_wp2_with fail
      go_loopw [8] (fun s8 wr => ∃ i : Nat, i ≤ 32 ∧ s8 = .int .i64 i ∧ wr.ownsRow w.heap.size 3 1 (.slice (some ⟨g, 0, none⟩) (N + 32) c1) (N + 32) (rowB (laidUpto r m i) (N + 32)) ∧ Below w.heap.size w wr) (fun s _ => 32 - (intOf s).toNat)
      case atStart => exact ⟨0, Nat.zero_le _, rfl, HO3.out, HB2.out⟩
      case round =>
        obtain ⟨i, hi, rfl, ho, hb⟩ := hrel
        have HO4 := Lib.hid ho
        have HB4 := Lib.hid hb
        clear ho hb
        have hi0 : (0 : Int) ≤ (i : Int) := Int.natCast_nonneg _
        by_cases hlt : i < 32
        · have hi1 : (i : Int) < 32 := by omega
          have hiN : (i : Int) < (N : Int) + 32 := by omega
          obtain ⟨z, hz⟩ : ∃ z : Nat, z = bitN (m i) := ⟨_, rfl⟩
          obtain ⟨y, hy⟩ : ∃ y : Nat, y = bitN (r.testBit i) := ⟨_, rfl⟩
          have hyle : y ≤ 1 := by rw [hy]; unfold bitN; split <;> omega
          have hc : wr.cell? ⟨g, i, none⟩ = some (.int .i64 (z : Int)) := by
            rw [HO4.out.cellAt i (by omega), rowB_get _ (by omega)]; unfold laidUpto; rw [if_neg (by omega), hz]; rfl
          have hfr : ∀ j, wr.frozen? ⟨g, j, none⟩ = false := fun j => HO4.out.frozenAt j
          obtain ⟨t, ht⟩ : ∃ t : Nat, t = bitN (m i != r.testBit i) := ⟨_, rfl⟩
          have hxor : bits .xor .i64 (z : Int) (y : Int) = (t : Int) := by rw [hz, hy, ht]; exact xor_bit _ _
          have hand : bits .and .u32 ((r : Int) / 2 ^ i) 1 = (y : Int) := by
            rw [show ((r : Int) / 2 ^ i) = ((r / 2 ^ i : Nat) : Int) by simp, show (1 : Int) = ((1 : Nat) : Int) from rfl, u32_and_nat _ 1 (Nat.lt_of_le_of_lt (Nat.div_le_self _ _) HRR.out) (by decide), Nat.and_one_is_mod, bit_at, hy]
          have HS : Hid ((rowB (laidUpto r m i) (N + 32)).set i (.int .i64 (t : Int)) = rowB (laidUpto r m (i + 1)) (N + 32)) := Lib.hid (by
            rw [ht]; exact (rowB_set _ _ _ _).trans (by rw [laidUpto_succ]))
          have hic : (i : Int) % 18446744073709551616 = (i : Int) := by omega
          have hmin : min i 32 = i := by omega
          clear hz hy ht
          go_wp2
          go_roundw
          case rel => exact ⟨i + 1, by omega, by go_num, by have := row_set HO4.out (j := i) (.int .i64 (t : Int)); rw [HS.out] at this; exact this, HB4.out.setCell hgb _⟩
          case measure => simp [intOf]; omega
        · obtain rfl : i = 32 := by omega
          obtain ⟨f, hf⟩ : ∃ f, f = fun j => r.testBit j != m j := ⟨_, rfl⟩
          have HF : Hid (rowB (laidUpto r m 32) (N + 32) = rowB f (N + 32)) := Lib.hid (rowB_congr fun j _ => by
            rw [hf]; unfold laidUpto
            by_cases h : j < 32
            · rw [if_pos h]
            · rw [if_neg h]; show m j = (r.testBit j != m j); rw [HRB.out j (by omega)]; simp)
          rw [← hf] at HREST
          rw [HF.out] at HO4
          clear HF hf
          have hgw : g < wr.heap.size := (HO4.out.lt g rfl).2
          go_wp2_with (go_at_call 82; refine (terms_any wr).mono ?_; rintro e w2 ⟨rfl, ht, hb⟩; have HT := Lib.hid ht; have HBT := Lib.hid hb; clear ht hb)
          obtain ⟨T, hT⟩ : ∃ T, T = wr.heap.size := ⟨_, rfl⟩
          rw [← hT] at hgw HT HBT ⊢
          have HO5 : Hid (w2.ownsRow w.heap.size 3 1 (.slice (some ⟨g, 0, none⟩) (N + 32) c1) (N + 32) (rowB f (N + 32))) := Lib.hid (ownsRow_keep HO4.out fun k hk => HBT.out.block k (by rw [hT]; exact (HO4.out.lt k hk).2))
          have HB5 : Hid (Below w.heap.size w w2) := Lib.hid (HB4.out.trans (HBT.out.mono (by rw [hT]; exact HB4.out.size)))
          clear hT
          go_loopw [10, 11] (fun s10 _ wr => ∃ i : Nat, i ≤ N ∧ s10 = .int .i64 i ∧ wr.ownsRow w.heap.size 3 1 (.slice (some ⟨g, 0, none⟩) (N + 32) c1) (N + 32) (rowB (divUpto f i) (N + 32)) ∧ Blk wr T 3 termV ∧ Below w.heap.size w wr) (fun s _ _ => N - (intOf s).toNat)
          case atStart => exact ⟨0, Nat.zero_le _, rfl, HO5.out, HT.out, HB5.out⟩
          case round =>
            obtain ⟨i, hi, rfl, ho, ht, hb⟩ := hrel
            have HO6 := Lib.hid ho
            have HT6 := Lib.hid ht
            have HB6 := Lib.hid hb
            clear ho ht hb
            have hi0 : (0 : Int) ≤ (i : Int) := Int.natCast_nonneg _
            by_cases hlt : i < N
            · have hi1 : (i : Int) < (N : Int) := by omega
              have hiN : (i : Int) < (N : Int) + 32 := by omega
              have hfr : ∀ j, wr.frozen? ⟨g, j, none⟩ = false := fun j => HO6.out.frozenAt j
              cases hbit : divUpto f i i with
              | false =>
                have HSK : Hid (rowB (divUpto f i) (N + 32) = rowB (divUpto f (i + 1)) (N + 32)) := Lib.hid (by
                  rw [show divUpto f (i + 1) = divStep i (divUpto f i) from rfl, div_skip _ _ hbit])
                have hc : wr.cell? ⟨g, i, none⟩ = some (.int .i64 0) := by
                  rw [HO6.out.cellAt i (by omega), rowB_get _ (by omega), hbit]; rfl
                clear hbit
                go_wp2
                go_roundw
                case rel => exact ⟨i + 1, by omega, by go_num, by rw [← HSK.out]; exact HO6.out, HT6.out, HB6.out⟩
                case measure => simp [intOf]; omega
              | true =>
                have HDF : Hid (divPart i (divUpto f i) 18 = divUpto f (i + 1)) := Lib.hid (divPart_full i _ hbit)
                have hc : wr.cell? ⟨g, i, none⟩ = some (.int .i64 1) := by
                  rw [HO6.out.cellAt i (by omega), rowB_get _ (by omega), hbit]; rfl
                clear hbit
                go_wp2_with fail
                clear hc hfr
                go_loopw [11] (fun s11 wr => ∃ k : Nat, k ≤ 18 ∧ s11 = .int .i64 k ∧ wr.ownsRow w.heap.size 3 1 (.slice (some ⟨g, 0, none⟩) (N + 32) c1) (N + 32) (rowB (divPart i (divUpto f i) k) (N + 32)) ∧ Blk wr T 3 termV ∧ Below w.heap.size w wr) (fun s _ => 18 - (intOf s).toNat)
                case atStart => exact ⟨0, Nat.zero_le _, rfl, by rw [divPart_zero]; exact HO6.out, HT6.out, HB6.out⟩
                case round =>
                  obtain ⟨k, hk, rfl, ho, ht, hb⟩ := hrel
                  have HO7 := Lib.hid ho
                  have HT7 := Lib.hid ht
                  have HB7 := Lib.hid hb
                  clear ho ht hb
                  have hk0 : (0 : Int) ≤ (k : Int) := Int.natCast_nonneg _
                  by_cases hltk : k < 18
                  · have hk1 : (k : Int) < 18 := by omega
                    obtain ⟨t, htl, htg, htn, htv⟩ := term_get k hltk
                    have ht7 : wr.cell? ⟨T, k, none⟩ = some (.int .i64 (t : Int)) := (HT7.out.cell k).trans htv
                    obtain ⟨u, hu⟩ : ∃ u, u = i + t := ⟨_, rfl⟩
                    have hut : (i : Int) + (t : Int) = (u : Int) := by omega
                    have huN : (u : Int) < (N : Int) + 32 := by omega
                    have hu0 : (0 : Int) ≤ (u : Int) := Int.natCast_nonneg _
                    obtain ⟨z, hz⟩ : ∃ z : Nat, z = bitN (divPart i (divUpto f i) k u) := ⟨_, rfl⟩
                    have hc : wr.cell? ⟨g, u, none⟩ = some (.int .i64 (z : Int)) := by
                      rw [HO7.out.cellAt u (by omega), rowB_get _ (by omega), hz]; rfl
                    have hfr : ∀ j, wr.frozen? ⟨g, j, none⟩ = false := fun j => HO7.out.frozenAt j
                    obtain ⟨y, hy⟩ : ∃ y : Nat, y = bitN (divPart i (divUpto f i) k u != true) := ⟨_, rfl⟩
                    have hxor : bits .xor .i64 (z : Int) 1 = (y : Int) := by rw [hz, hy]; exact xor_bit _ true
                    have HS : Hid ((rowB (divPart i (divUpto f i) k) (N + 32)).set u (.int .i64 (y : Int)) = rowB (divPart i (divUpto f i) (k + 1)) (N + 32)) := Lib.hid (by
                      rw [hy, hu, ← divPart_succ i _ htg htn]; exact rowB_set _ _ _ _)
                    clear hz hy hu htg htn htv
                    go_wp2_with fail
                    go_region
                    all_goals go_wp2
                    all_goals go_roundw
                    case rel => exact ⟨k + 1, by omega, by go_num, by have := row_set HO7.out (j := u) (.int .i64 (y : Int)); rw [HS.out] at this; exact this, (HT7.out.far (by simp; omega) _).drew, below_drewN (HB7.out.setCell (p := ⟨g, u, none⟩) hgb _) 1⟩
                    case measure => simp [intOf]; omega
                  · obtain rfl : k = 18 := by omega
                    rw [HDF.out] at HO7
                    go_wp2
                    go_roundw
                    case rel => exact ⟨i + 1, by omega, by go_num, HO7.out, HT7.out, HB7.out⟩
                    case measure => simp [intOf]; omega
            · obtain rfl : i = N := by omega
              go_wp2_with fail
              go_loopw [12, 13] (fun s12 s13 wr' => ∃ j : Nat, j ≤ 32 ∧ s13 = .int .i64 j ∧ s12 = .int .u32 ((R % 2 ^ j : Nat) : Int) ∧ wr'.ownsRow w.heap.size 3 1 (.slice (some ⟨g, 0, none⟩) (i + 32) c1) (i + 32) (rowB (divUpto f i) (i + 32)) ∧ Below w.heap.size w wr') (fun _ s _ => 32 - (intOf s).toNat)
              case atStart => exact ⟨0, Nat.zero_le _, rfl, by rw [Nat.pow_zero, Nat.mod_one]; rfl, HO6.out, HB6.out⟩
              case round =>
                obtain ⟨j, hj, rfl, rfl, ho, hb⟩ := hrel
                have HO8 := Lib.hid ho
                have HB8 := Lib.hid hb
                clear ho hb
                have hj0 : (0 : Int) ≤ (j : Int) := Int.natCast_nonneg _
                by_cases hltj : j < 32
                · have hj1 : (j : Int) < 32 := by omega
                  obtain ⟨u, hu⟩ : ∃ u, u = i + j := ⟨_, rfl⟩
                  have hut : (i : Int) + (j : Int) = (u : Int) := by omega
                  have huN : (u : Int) < (i : Int) + 32 := by omega
                  have hu0 : (0 : Int) ≤ (u : Int) := Int.natCast_nonneg _
                  obtain ⟨z, hz⟩ : ∃ z : Nat, z = bitN (R.testBit j) := ⟨_, rfl⟩
                  have hz1 : z ≤ 1 := by rw [hz]; unfold bitN; split <;> omega
                  have hc : wr.cell? ⟨g, u, none⟩ = some (.int .i64 (z : Int)) := by
                    rw [HO8.out.cellAt u (by omega), rowB_get _ (by omega), hu, HREST.out j, hz]; rfl
                  obtain ⟨q, hq⟩ : ∃ q : Nat, q = R % 2 ^ j := ⟨_, rfl⟩
                  obtain ⟨q', hq'⟩ : ∃ q' : Nat, q' = R % 2 ^ (j + 1) := ⟨_, rfl⟩
                  have hor : bits .or .u32 (q : Int) ((z : Int) * 2 ^ j) = (q' : Int) := by
                    have := rest_step R j hltj
                    rw [← hz, ← hq, ← hq'] at this
                    rw [← this]; simp
                  rw [← hq]
                  have HQ := Lib.hid hq'
                  have hjc : (j : Int) % 18446744073709551616 = (j : Int) := by omega
                  have hmin : min j 32 = j := by omega
                  have hzc : (z : Int) % 4294967296 = (z : Int) := by omega
                  clear hq hq' hz hu
                  have hsh : (z : Int) * 2 ^ j % 4294967296 = (z : Int) * 2 ^ j := by
                    have h2 : (2 : Nat) ^ j ≤ 2 ^ 31 := Nat.pow_le_pow_right (by decide) (by omega)
                    have h4 : z * 2 ^ j ≤ 1 * 2 ^ 31 := Nat.mul_le_mul hz1 h2
                    have h5 : ((z * 2 ^ j : Nat) : Int) = (z : Int) * 2 ^ j := by simp
                    rw [← h5]; omega
                  go_wp2
                  go_roundw
                  case rel => exact ⟨j + 1, by omega, by go_num, by rw [HQ.out], HO8.out, HB8.out⟩
                  case measure => simp [intOf]; omega
                · obtain rfl : j = 32 := by omega
                  have HE : Hid (R % 2 ^ 32 = R) := Lib.hid (Nat.mod_eq_of_lt HRL.out)
                  rw [HE.out]
                  go_wp2
                  go_ret
                  exact ⟨rfl, HB8.out⟩
theorem refsum_any (A : Option Addr) (n c : Nat) (bs : List UInt8) (w : World) (B : Nat) (hx : Reads w B 1 A n (bs.map B8)) (hB : B ≤ w.heap.size) (hbig : n ≤ 1099511627776) :
    Calls Tryz.prog 43 #[.slice A n c] w fun e w' => e = .returned (.int .u32 ((crcSum bs : Nat) : Int)) ∧ Below w.heap.size w w' := by
  have HG := Lib.hid (gone_any 4294967295 (by decide) A n c bs w B hx hB hbig)
  obtain ⟨t, ht⟩ : ∃ t, t = over 4294967295 bs := ⟨_, rfl⟩
  have htl : t < 4294967296 := by rw [ht]; exact over_lt (by decide) bs
  have hx2 : bits .xor .u32 (t : Int) 4294967295 = ((crcSum bs : Nat) : Int) := by
    rw [show (4294967295 : Int) = ((4294967295 : Nat) : Int) from rfl, u32_xor_nat t 4294967295 htl (by decide), ht]; rfl
  rw [← ht] at HG
  clear hx ht
  have HT := Lib.hid htl
  clear htl
  go_enter Tryz.func43, Tryz.ntmps43
  go_wp2_with (go_at_call 65; refine HG.out.mono ?_; rintro e w1 ⟨rfl, hb⟩; have HB := Lib.hid hb; clear hb)
  go_ret
  exact ⟨rfl, HB.out⟩
end Go.Proofs.YtdiaihpilniikaaGreat
namespace Go.Proofs.YtdiaihpilniikaaGreat
open Go.RowKit Go.Maps

set_option maxRecDepth 100000 in
set_option maxHeartbeats 8000000 in
theorem refmay_any (l : Lab) (hl : l.Wf) (w : World) : Calls Tryz.prog 41 #[labV l] w fun e w' => e = .returned (.int .i64 l.may) ∧ Below w.heap.size w w' := by
  obtain ⟨a0, a1, a2, a3, a4, a5, a6, a7, hst⟩ := lab_eight hl.st
  have hk := hl.k
  have hm := hl.m
  obtain ⟨st, k, m, b, i, e⟩ := l
  simp only at hst hk hm
  subst hst
  clear hl
  have HF : Hid (Lab.may ⟨[a0, a1, a2, a3, a4, a5, a6, a7], k, m, b, i, e⟩ = if m < 1 ∨ k < m ∨ 255 - m < k ∨ b < 1 ∨ 65536 < b then 4 else if i < 0 ∨ k + m ≤ i ∨ e < 0 ∨ 4294967295 < e then 2 else 0) := Lib.hid rfl
  obtain ⟨d, hd⟩ : ∃ d, d = Lab.may ⟨[a0, a1, a2, a3, a4, a5, a6, a7], k, m, b, i, e⟩ := ⟨_, rfl⟩
  rw [← hd] at HF ⊢
  clear hd
  unfold labV labCells
  simp only [List.map_cons, List.map_nil, List.cons_append, List.nil_append]
  unfold B8
  by_cases h0 : m < 1
  · obtain rfl : d = 4 := HF.out.trans (if_pos (by omega))
    clear hk hm HF
    go_enter Tryz.func41, Tryz.ntmps41
    go_wp2
    go_ret
    exact ⟨rfl, ((Below.refl _ w).alloc (Nat.le_refl _) _).alloc (by simp) _⟩
  · have hz : True := trivial
    by_cases h1 : k < m
    · obtain rfl : d = 4 := HF.out.trans (if_pos (by omega))
      clear hk hm HF
      go_enter Tryz.func41, Tryz.ntmps41
      go_wp2
      go_ret
      exact ⟨rfl, ((Below.refl _ w).alloc (Nat.le_refl _) _).alloc (by simp) _⟩
    · have hz : True := trivial
      by_cases h2 : 255 < k
      · obtain rfl : d = 4 := HF.out.trans (if_pos (by omega))
        clear hk hm HF
        go_enter Tryz.func41, Tryz.ntmps41
        go_wp2
        go_ret
        exact ⟨rfl, ((Below.refl _ w).alloc (Nat.le_refl _) _).alloc (by simp) _⟩
      · have hz : True := trivial
        by_cases h3 : 255 < k + m
        · obtain rfl : d = 4 := HF.out.trans (if_pos (by omega))
          have hv : wrap64 (k + m) = k + m := IntWalk.wrap64_in _ (by omega)
          clear hk hm HF
          go_enter Tryz.func41, Tryz.ntmps41
          go_wp2
          go_ret
          exact ⟨rfl, ((Below.refl _ w).alloc (Nat.le_refl _) _).alloc (by simp) _⟩
        · have hz : True := trivial
          by_cases h4 : b < 1
          · obtain rfl : d = 4 := HF.out.trans (if_pos (by omega))
            have hv : wrap64 (k + m) = k + m := IntWalk.wrap64_in _ (by omega)
            clear hk hm HF
            go_enter Tryz.func41, Tryz.ntmps41
            go_wp2
            go_ret
            exact ⟨rfl, ((Below.refl _ w).alloc (Nat.le_refl _) _).alloc (by simp) _⟩
          · have hz : True := trivial
            by_cases h5 : 65536 < b
            · obtain rfl : d = 4 := HF.out.trans (if_pos (by omega))
              have hv : wrap64 (k + m) = k + m := IntWalk.wrap64_in _ (by omega)
              clear hk hm HF
              go_enter Tryz.func41, Tryz.ntmps41
              go_wp2
              go_ret
              exact ⟨rfl, ((Below.refl _ w).alloc (Nat.le_refl _) _).alloc (by simp) _⟩
            · have hz : True := trivial
              by_cases h6 : i < 0
              · obtain rfl : d = 2 := HF.out.trans ((if_neg (by omega)).trans (if_pos (by omega)))
                have hv : wrap64 (k + m) = k + m := IntWalk.wrap64_in _ (by omega)
                clear hk hm HF
                go_enter Tryz.func41, Tryz.ntmps41
                go_wp2
                go_ret
                exact ⟨rfl, ((Below.refl _ w).alloc (Nat.le_refl _) _).alloc (by simp) _⟩
              · have hz : True := trivial
                by_cases h7 : k + m ≤ i
                · obtain rfl : d = 2 := HF.out.trans ((if_neg (by omega)).trans (if_pos (by omega)))
                  have hv : wrap64 (k + m) = k + m := IntWalk.wrap64_in _ (by omega)
                  clear hk hm HF
                  go_enter Tryz.func41, Tryz.ntmps41
                  go_wp2
                  go_ret
                  exact ⟨rfl, ((Below.refl _ w).alloc (Nat.le_refl _) _).alloc (by simp) _⟩
                · have hz : True := trivial
                  by_cases h8 : e < 0
                  · obtain rfl : d = 2 := HF.out.trans ((if_neg (by omega)).trans (if_pos (by omega)))
                    have hv : wrap64 (k + m) = k + m := IntWalk.wrap64_in _ (by omega)
                    clear hk hm HF
                    go_enter Tryz.func41, Tryz.ntmps41
                    go_wp2
                    go_ret
                    exact ⟨rfl, ((Below.refl _ w).alloc (Nat.le_refl _) _).alloc (by simp) _⟩
                  · have hz : True := trivial
                    by_cases h9 : 4294967295 < e
                    · obtain rfl : d = 2 := HF.out.trans ((if_neg (by omega)).trans (if_pos (by omega)))
                      have hv : wrap64 (k + m) = k + m := IntWalk.wrap64_in _ (by omega)
                      clear hk hm HF
                      go_enter Tryz.func41, Tryz.ntmps41
                      go_wp2
                      go_ret
                      exact ⟨rfl, ((Below.refl _ w).alloc (Nat.le_refl _) _).alloc (by simp) _⟩
                    · obtain rfl : d = 0 := HF.out.trans ((if_neg (by omega)).trans (if_neg (by omega)))
                      have hv : wrap64 (k + m) = k + m := IntWalk.wrap64_in _ (by omega)
                      clear hk hm HF
                      go_enter Tryz.func41, Tryz.ntmps41
                      go_wp2
                      go_ret
                      exact ⟨rfl, ((Below.refl _ w).alloc (Nat.le_refl _) _).alloc (by simp) _⟩

set_option maxRecDepth 100000 in
set_option maxHeartbeats 4000000 in
theorem refnumber_any (v k : Nat) (hv : v ≤ 9223372036854775807) (hk : k ≤ 8) (w : World) :
    Calls Tryz.prog 42 #[.int .i64 (v : Int), .int .i64 (k : Int)] w fun e w' => ∃ u, e = .returned u ∧ w'.ownsRow w.heap.size 5 1 u k ((leN v k).map B8) ∧ Below w.heap.size w w' := by
  obtain ⟨i5, hi5, hz0, hz1, hz2⟩ := info_parts byteInfo
  have HM : Hid (∀ j, j ≤ 8 → j + 1 ≤ maxLen ∧ (j + 1) * 1 ≤ 140737488355328) := Lib.hid fun k hk => ⟨by simp only [maxLen]; omega, by omega⟩
  have hk1 : (k : Int) ≤ 8 := by omega
  have HV := Lib.hid hv
  clear hv
  go_enter Tryz.func42, Tryz.ntmps42
  go_wp2_with fail
  go_loopw [0, 5, 6] (fun s0 s5 s6 wr => ∃ j : Nat, ∃ q : Nat, j ≤ k ∧ s6 = .int .i64 j ∧ s0 = .int .i64 q ∧ q = v / 256 ^ j ∧ (∃ a c, s5 = .slice a j c) ∧ wr.ownsRow w.heap.size 5 1 s5 j (((leN v k).take j).map B8) ∧ Below w.heap.size w wr) (fun _ _ s _ => k - (intOf s).toNat)
  case atStart => exact ⟨0, v, Nat.zero_le _, rfl, rfl, by rw [Nat.pow_zero, Nat.div_one], ⟨_, _, rfl⟩, World.ownsRow_nil _ _ _ _, Below.refl _ _⟩
  case round =>
    obtain ⟨j, q, hj, rfl, rfl, hq, ⟨a1, c1, rfl⟩, ho, hb⟩ := hrel
    have HO := Lib.hid ho
    have HB := Lib.hid hb
    have hsz := hb.size
    have hqv : (q : Int) ≤ 9223372036854775807 := by have := HV.out; have := Nat.div_le_self v (256 ^ j); rw [← hq] at this; omega
    have HQ := Lib.hid hq
    clear ho hb hq
    have hj0 : (0 : Int) ≤ (j : Int) := Int.natCast_nonneg _
    have hq0 : (0 : Int) ≤ (q : Int) := Int.natCast_nonneg _
    by_cases hlt : j < k
    · have hj1 : (j : Int) < (k : Int) := by omega
      have HMj := Lib.hid (HM.out j (by omega))
      have HN : Hid (((leN v k).take j).map B8 ++ [.int .u8 ((q : Int) % 256)] = ((leN v k).take (j + 1)).map B8) := Lib.hid (by
        have := put_step [] v k j hlt ((q : Int) % 256) (by rw [← HQ.out]; omega)
        rw [List.nil_append, List.nil_append] at this; exact this)
      go_wp2_with (at_builtin; go_loud (refine wpList_append_any _ rfl _ _ 22 rfl w.heap.size 5 i5 _ 1 1 Tryz.underlying22 hi5 hz0 hz1 hz2 rfl (by omega) _ j _ rfl (HO.out.alloc _) (wr.heap.size + 1) (some ⟨wr.heap.size, 0, none⟩) 1 1 [.int .u8 ((q : Int) % 256)] rfl (reads_blk (t := 5) (blk_last _ _ _ _ rfl) (by omega) rfl) (by intro u hu; simp at hu; subst hu; rfl) HMj.out.1 HMj.out.2 (by rw [alloc_size]; omega) ?_); intro v1 w1 hown1 hg1 hat1; obtain ⟨a2, c2, hvs, _⟩ := own_shape hown1; subst hvs; have HOWN := Lib.hid hown1; have HB3 := Lib.hid ((HB.out.alloc hsz _).grown hg1 (by rw [alloc_size]; omega) (fun i hi => (HO.out.lt i hi).1)); clear hown1 hg1 hat1)
      go_roundw
      case rel =>
        refine ⟨j + 1, q / 256, by omega, by go_num, by first | rfl | (congr 1; omega), by rw [HQ.out, Nat.div_div_eq_div_mul, Nat.pow_succ], ⟨_, _, rfl⟩, ?_, HB3.out⟩
        have := HOWN.out
        rw [HN.out] at this
        exact this
      case measure => simp [intOf]; omega
    · obtain rfl : j = k := by omega
      have HE : Hid ((leN v j).take j = leN v j) := Lib.hid (List.take_of_length_le (by rw [leN_length]; exact Nat.le_refl _))
      rw [HE.out] at HO
      go_wp2
      go_ret
      exact ⟨_, rfl, HO.out, HB.out⟩

theorem unle_at (bs : List UInt8) {i : Nat} {x : UInt8} (h : bs[i]? = some x) : unle (bs.drop i) = x.toNat + 256 * unle (bs.drop (i + 1)) := by
  have hi : i < bs.length := by
    rcases Nat.lt_or_ge i bs.length with h1 | h1
    · exact h1
    · rw [List.getElem?_eq_none h1] at h; cases h
  rw [List.drop_eq_getElem_cons hi]
  rw [List.getElem?_eq_getElem hi] at h
  injection h with h
  rw [h]; rfl
theorem unle_ge (bs : List UInt8) (i : Nat) : 256 ^ i * unle (bs.drop i) ≤ unle bs := by
  induction i generalizing bs with
  | zero => simp
  | succ i ih =>
    cases bs with
    | nil => simp [unle]
    | cons x l =>
      rw [List.drop_succ_cons]
      show _ ≤ x.toNat + 256 * unle l
      have := ih l
      have e : 256 ^ (i + 1) * unle (l.drop i) = 256 * (256 ^ i * unle (l.drop i)) := by rw [Nat.pow_succ, Nat.mul_comm (256 ^ i) 256, Nat.mul_assoc]
      omega
/-- What the document reads of such bytes. -/
def refval (bs : List UInt8) : Int := if unle bs < 281474976710656 then (unle bs : Int) else -1
set_option maxRecDepth 100000 in
set_option maxHeartbeats 4000000 in
theorem refvalue_any (A : Option Addr) (n c : Nat) (bs : List UInt8) (w : World) (B : Nat) (hx : Reads w B 1 A n (bs.map B8)) (hn : n ≤ 8) :
    Calls Tryz.prog 35 #[.slice A n c] w fun e w' => e = .returned (.int .i64 (refval bs)) ∧ w = w' := by
  have HX := Lib.hid hx
  have hlen : bs.length = n := by have := hx.1; simpa using this
  have hn1 : (n : Int) ≤ 8 := by omega
  obtain ⟨rv, hrv⟩ : ∃ rv, rv = refval bs := ⟨_, rfl⟩
  rw [← hrv]
  have HRV := Lib.hid hrv
  clear hx hrv
  go_enter Tryz.func35, Tryz.ntmps35
  go_wp2_with fail
  go_loopw [3, 4] (fun s3 s4 wr => ∃ j q : Nat, j ≤ n ∧ s4 = .int .i64 ((j : Int) - 1) ∧ s3 = .int .i64 q ∧ q = unle (bs.drop j) ∧ q < 256 ^ (6 - j) ∧ wr = w) (fun _ s _ => (intOf s + 1).toNat)
  case atStart => exact ⟨n, 0, Nat.le_refl _, rfl, rfl, by rw [← hlen, List.drop_length]; rfl, Nat.pow_pos (by decide), rfl⟩
  case round =>
    obtain ⟨j, q, hj, rfl, rfl, hq, hql, rfl⟩ := hrel
    have hq48 : (q : Int) < 281474976710656 := by
      have : 256 ^ (6 - j) ≤ 256 ^ 6 := Nat.pow_le_pow_right (by decide) (by omega)
      omega
    have hq0 : (0 : Int) ≤ (q : Int) := Int.natCast_nonneg _
    have HQ := Lib.hid hq
    have HQL := Lib.hid hql
    clear hq hql
    rcases Nat.eq_zero_or_pos j with rfl | hpos
    · have hv : refval bs = (q : Int) := by
        have h := HQ.out
        rw [List.drop_zero] at h
        unfold refval
        rw [← h, if_pos (by omega)]
      rw [← HRV.out] at hv
      have HV := Lib.hid hv
      clear hv
      go_wp2
      go_ret
      exact ⟨by rw [HV.out]; rfl, rfl⟩
    · obtain ⟨i, rfl⟩ : ∃ i, j = i + 1 := ⟨j - 1, by omega⟩
      have hi0 : (0 : Int) ≤ (i : Int) := Int.natCast_nonneg _
      have hij : ((i + 1 : Nat) : Int) - 1 = (i : Int) := by omega
      rw [hij]
      have hi1 : (i : Int) < (n : Int) := by omega
      have hin : i < n := by omega
      obtain ⟨ad, u, rfl, _, hu, hc⟩ := HX.out.at_ hin
      obtain ⟨x, hx⟩ : ∃ x, bs[i]? = some x := ⟨_, List.getElem?_eq_getElem (by omega)⟩
      have hue : u = .int .u8 (x.toNat : Int) := by
        rw [List.getElem?_map, hx] at hu; exact (Option.some.inj hu).symm
      subst hue
      have HU : Hid (unle (bs.drop i) = x.toNat + 256 * q) := Lib.hid (by rw [unle_at bs hx, ← HQ.out])
      have HG : Hid (256 ^ i * unle (bs.drop i) ≤ unle bs) := Lib.hid (unle_ge bs i)
      obtain ⟨y, hy⟩ : ∃ y : Nat, y = x.toNat := ⟨_, rfl⟩
      have hy2 : (y : Int) < 256 := by rw [hy]; have := x.toNat_lt; omega
      have hy0 : (0 : Int) ≤ (y : Int) := Int.natCast_nonneg _
      rw [← hy] at hc HU
      clear hu hx hy
      by_cases h6 : 6 ≤ i
      · have hi6 : (6 : Int) ≤ (i : Int) := by omega
        have hqz : q = 0 := by have := HQL.out; rw [show 6 - (i + 1) = 0 by omega] at this; omega
        subst hqz
        by_cases hyz : y = 0
        · subst hyz
          go_wp2
          go_roundw
          case rel => exact ⟨i, 0, by omega, by go_num, rfl, by rw [HU.out], Nat.pow_pos (by decide), trivial⟩
          case measure => first | (simp [intOf]; done) | (simp [intOf]; omega)
        · have hyn : ¬ (y : Int) = 0 := by omega
          have hv : refval bs = -1 := by
            unfold refval
            have h1 := HG.out
            rw [HU.out] at h1
            have h2 : (256 : Nat) ^ 6 ≤ 256 ^ i := Nat.pow_le_pow_right (by decide) h6
            have h3 : 256 ^ 6 * 1 ≤ 256 ^ i * (y + 256 * 0) := Nat.mul_le_mul h2 (by omega)
            rw [if_neg (by omega)]
          rw [← HRV.out] at hv
          have HV := Lib.hid hv
          clear hv
          go_wp2
          go_ret
          exact ⟨by rw [HV.out]; rfl, rfl⟩
      · have hi6 : ((6 : Int) ≤ (i : Int)) = False := by simp; omega
        have H6 := Lib.hid h6
        clear h6
        have hw1 : wrap64 ((q : Int) * 256) = (q : Int) * 256 := IntWalk.wrap64_in _ (by omega)
        have hw2 : wrap64 ((q : Int) * 256 + (y : Int)) = (q : Int) * 256 + (y : Int) := IntWalk.wrap64_in _ (by omega)
        have HQ48 := Lib.hid hq48
        clear hq48
        go_wp2
        go_roundw
        case rel =>
          have h6 := H6.out
          refine ⟨i, q * 256 + y, by omega, by go_num, by go_num, by rw [HU.out]; omega, ?_, trivial⟩
          have h1 := HQL.out
          have e : 6 - i = (6 - (i + 1)) + 1 := by omega
          rw [e, Nat.pow_succ]
          have hyb : y < 256 := by omega
          clear HG HU
          omega
        case measure => first | (simp [intOf]; done) | (simp [intOf]; omega)
end Go.Proofs.YtdiaihpilniikaaGreat
