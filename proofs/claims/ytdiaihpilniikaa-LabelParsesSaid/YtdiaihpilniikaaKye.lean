/- The document's label: may it be, a number's bytes, the bytes' number. -/
import Derived.Test.YtdiaihpilniikaaKyd
import Derived.Test.YtdiaihpilniikaaKv
namespace Go.Proofs.Ytdiaihpilniikaa
open Go.RowKit Go.Maps

set_option maxRecDepth 100000 in
set_option maxHeartbeats 8000000 in
theorem refmay_any (l : Lab) (hl : l.Wf) (w : World) : Calls Try.prog 24 #[labV l] w fun e w' => e = .returned (.int .i64 l.may) ∧ Below w.heap.size w w' := by
  obtain ⟨a0, a1, a2, a3, a4, a5, a6, a7, hst⟩ := lab_eight hl.st
  have hk := hl.k
  have hm := hl.m
  obtain ⟨st, k, m, b, i, e⟩ := l
  simp only at hst hk hm
  subst hst
  clear hl
  have HF : Hid (Lab.may ⟨[a0, a1, a2, a3, a4, a5, a6, a7], k, m, b, i, e⟩ = if m < 1 ∨ k < m ∨ 255 - m < k ∨ b < 1 ∨ 65536 < b then 4 else if i < 0 ∨ k + m ≤ i ∨ e < 0 ∨ 4294967295 < e then 2 else 0) := Lib.hid rfl
  obtain ⟨d, hd⟩ : ∃ d, d = Lab.may ⟨[a0, a1, a2, a3, a4, a5, a6, a7], k, m, b, i, e⟩ := ⟨_, rfl⟩
  rw [← hd] at HF ⊢
  clear hd
  unfold labV labCells
  simp only [List.map_cons, List.map_nil, List.cons_append, List.nil_append]
  unfold B8
  by_cases h0 : m < 1
  · obtain rfl : d = 4 := HF.out.trans (if_pos (by omega))
    clear hk hm HF
    go_enter Try.func24, Try.ntmps24
    go_wp2
    go_ret
    exact ⟨rfl, ((Below.refl _ w).alloc (Nat.le_refl _) _).alloc (by simp) _⟩
  · have hz : True := trivial
    by_cases h1 : k < m
    · obtain rfl : d = 4 := HF.out.trans (if_pos (by omega))
      clear hk hm HF
      go_enter Try.func24, Try.ntmps24
      go_wp2
      go_ret
      exact ⟨rfl, ((Below.refl _ w).alloc (Nat.le_refl _) _).alloc (by simp) _⟩
    · have hz : True := trivial
      by_cases h2 : 255 < k
      · obtain rfl : d = 4 := HF.out.trans (if_pos (by omega))
        clear hk hm HF
        go_enter Try.func24, Try.ntmps24
        go_wp2
        go_ret
        exact ⟨rfl, ((Below.refl _ w).alloc (Nat.le_refl _) _).alloc (by simp) _⟩
      · have hz : True := trivial
        by_cases h3 : 255 < k + m
        · obtain rfl : d = 4 := HF.out.trans (if_pos (by omega))
          have hv : wrap64 (k + m) = k + m := IntWalk.wrap64_in _ (by omega)
          clear hk hm HF
          go_enter Try.func24, Try.ntmps24
          go_wp2
          go_ret
          exact ⟨rfl, ((Below.refl _ w).alloc (Nat.le_refl _) _).alloc (by simp) _⟩
        · have hz : True := trivial
          by_cases h4 : b < 1
          · obtain rfl : d = 4 := HF.out.trans (if_pos (by omega))
            have hv : wrap64 (k + m) = k + m := IntWalk.wrap64_in _ (by omega)
            clear hk hm HF
            go_enter Try.func24, Try.ntmps24
            go_wp2
            go_ret
            exact ⟨rfl, ((Below.refl _ w).alloc (Nat.le_refl _) _).alloc (by simp) _⟩
          · have hz : True := trivial
            by_cases h5 : 65536 < b
            · obtain rfl : d = 4 := HF.out.trans (if_pos (by omega))
              have hv : wrap64 (k + m) = k + m := IntWalk.wrap64_in _ (by omega)
              clear hk hm HF
              go_enter Try.func24, Try.ntmps24
              go_wp2
              go_ret
              exact ⟨rfl, ((Below.refl _ w).alloc (Nat.le_refl _) _).alloc (by simp) _⟩
            · have hz : True := trivial
              by_cases h6 : i < 0
              · obtain rfl : d = 2 := HF.out.trans ((if_neg (by omega)).trans (if_pos (by omega)))
                have hv : wrap64 (k + m) = k + m := IntWalk.wrap64_in _ (by omega)
                clear hk hm HF
                go_enter Try.func24, Try.ntmps24
                go_wp2
                go_ret
                exact ⟨rfl, ((Below.refl _ w).alloc (Nat.le_refl _) _).alloc (by simp) _⟩
              · have hz : True := trivial
                by_cases h7 : k + m ≤ i
                · obtain rfl : d = 2 := HF.out.trans ((if_neg (by omega)).trans (if_pos (by omega)))
                  have hv : wrap64 (k + m) = k + m := IntWalk.wrap64_in _ (by omega)
                  clear hk hm HF
                  go_enter Try.func24, Try.ntmps24
                  go_wp2
                  go_ret
                  exact ⟨rfl, ((Below.refl _ w).alloc (Nat.le_refl _) _).alloc (by simp) _⟩
                · have hz : True := trivial
                  by_cases h8 : e < 0
                  · obtain rfl : d = 2 := HF.out.trans ((if_neg (by omega)).trans (if_pos (by omega)))
                    have hv : wrap64 (k + m) = k + m := IntWalk.wrap64_in _ (by omega)
                    clear hk hm HF
                    go_enter Try.func24, Try.ntmps24
                    go_wp2
                    go_ret
                    exact ⟨rfl, ((Below.refl _ w).alloc (Nat.le_refl _) _).alloc (by simp) _⟩
                  · have hz : True := trivial
                    by_cases h9 : 4294967295 < e
                    · obtain rfl : d = 2 := HF.out.trans ((if_neg (by omega)).trans (if_pos (by omega)))
                      have hv : wrap64 (k + m) = k + m := IntWalk.wrap64_in _ (by omega)
                      clear hk hm HF
                      go_enter Try.func24, Try.ntmps24
                      go_wp2
                      go_ret
                      exact ⟨rfl, ((Below.refl _ w).alloc (Nat.le_refl _) _).alloc (by simp) _⟩
                    · obtain rfl : d = 0 := HF.out.trans ((if_neg (by omega)).trans (if_neg (by omega)))
                      have hv : wrap64 (k + m) = k + m := IntWalk.wrap64_in _ (by omega)
                      clear hk hm HF
                      go_enter Try.func24, Try.ntmps24
                      go_wp2
                      go_ret
                      exact ⟨rfl, ((Below.refl _ w).alloc (Nat.le_refl _) _).alloc (by simp) _⟩

set_option maxRecDepth 100000 in
set_option maxHeartbeats 4000000 in
theorem refnumber_any (v k : Nat) (hv : v ≤ 9223372036854775807) (hk : k ≤ 8) (w : World) :
    Calls Try.prog 25 #[.int .i64 (v : Int), .int .i64 (k : Int)] w fun e w' => ∃ u, e = .returned u ∧ w'.ownsRow w.heap.size 5 1 u k ((leN v k).map B8) ∧ Below w.heap.size w w' := by
  obtain ⟨i5, hi5, hz0, hz1, hz2⟩ := info_parts byteInfo
  have HM : Hid (∀ j, j ≤ 8 → j + 1 ≤ maxLen ∧ (j + 1) * 1 ≤ 140737488355328) := Lib.hid fun k hk => ⟨by simp only [maxLen]; omega, by omega⟩
  have hk1 : (k : Int) ≤ 8 := by omega
  have HV := Lib.hid hv
  clear hv
  go_enter Try.func25, Try.ntmps25
  go_wp2_with fail
  go_loopw [0, 5, 6] (fun s0 s5 s6 wr => ∃ j : Nat, ∃ q : Nat, j ≤ k ∧ s6 = .int .i64 j ∧ s0 = .int .i64 q ∧ q = v / 256 ^ j ∧ (∃ a c, s5 = .slice a j c) ∧ wr.ownsRow w.heap.size 5 1 s5 j (((leN v k).take j).map B8) ∧ Below w.heap.size w wr) (fun _ _ s _ => k - (intOf s).toNat)
  case atStart => exact ⟨0, v, Nat.zero_le _, rfl, rfl, by rw [Nat.pow_zero, Nat.div_one], ⟨_, _, rfl⟩, World.ownsRow_nil _ _ _ _, Below.refl _ _⟩
  case round =>
    obtain ⟨j, q, hj, rfl, rfl, hq, ⟨a1, c1, rfl⟩, ho, hb⟩ := hrel
    have HO := Lib.hid ho
    have HB := Lib.hid hb
    have hsz := hb.size
    have hqv : (q : Int) ≤ 9223372036854775807 := by have := HV.out; have := Nat.div_le_self v (256 ^ j); rw [← hq] at this; omega
    have HQ := Lib.hid hq
    clear ho hb hq
    have hj0 : (0 : Int) ≤ (j : Int) := Int.natCast_nonneg _
    have hq0 : (0 : Int) ≤ (q : Int) := Int.natCast_nonneg _
    by_cases hlt : j < k
    · have hj1 : (j : Int) < (k : Int) := by omega
      have HMj := Lib.hid (HM.out j (by omega))
      have HN : Hid (((leN v k).take j).map B8 ++ [.int .u8 ((q : Int) % 256)] = ((leN v k).take (j + 1)).map B8) := Lib.hid (by
        have := put_step [] v k j hlt ((q : Int) % 256) (by rw [← HQ.out]; omega)
        rw [List.nil_append, List.nil_append] at this; exact this)
      go_wp2_with (at_builtin; go_loud (refine wpList_append_any _ rfl _ _ 33 rfl w.heap.size 5 i5 _ 1 1 Try.underlying33 hi5 hz0 hz1 hz2 rfl (by omega) _ j _ rfl (HO.out.alloc _) (wr.heap.size + 1) (some ⟨wr.heap.size, 0, none⟩) 1 1 [.int .u8 ((q : Int) % 256)] rfl (reads_blk (t := 5) (blk_last _ _ _ _ rfl) (by omega) rfl) (by intro u hu; simp at hu; subst hu; rfl) HMj.out.1 HMj.out.2 (by rw [alloc_size]; omega) ?_); intro v1 w1 hown1 hg1 hat1; obtain ⟨a2, c2, hvs, _⟩ := own_shape hown1; subst hvs; have HOWN := Lib.hid hown1; have HB3 := Lib.hid ((HB.out.alloc hsz _).grown hg1 (by rw [alloc_size]; omega) (fun i hi => (HO.out.lt i hi).1)); clear hown1 hg1 hat1)
      go_roundw
      case rel =>
        refine ⟨j + 1, q / 256, by omega, by go_num, by first | rfl | (congr 1; omega), by rw [HQ.out, Nat.div_div_eq_div_mul, Nat.pow_succ], ⟨_, _, rfl⟩, ?_, HB3.out⟩
        have := HOWN.out
        rw [HN.out] at this
        exact this
      case measure => simp [intOf]; omega
    · obtain rfl : j = k := by omega
      have HE : Hid ((leN v j).take j = leN v j) := Lib.hid (List.take_of_length_le (by rw [leN_length]; exact Nat.le_refl _))
      rw [HE.out] at HO
      go_wp2
      go_ret
      exact ⟨_, rfl, HO.out, HB.out⟩

theorem unle_at (bs : List UInt8) {i : Nat} {x : UInt8} (h : bs[i]? = some x) : unle (bs.drop i) = x.toNat + 256 * unle (bs.drop (i + 1)) := by
  have hi : i < bs.length := by
    rcases Nat.lt_or_ge i bs.length with h1 | h1
    · exact h1
    · rw [List.getElem?_eq_none h1] at h; cases h
  rw [List.drop_eq_getElem_cons hi]
  rw [List.getElem?_eq_getElem hi] at h
  injection h with h
  rw [h]; rfl
theorem unle_ge (bs : List UInt8) (i : Nat) : 256 ^ i * unle (bs.drop i) ≤ unle bs := by
  induction i generalizing bs with
  | zero => simp
  | succ i ih =>
    cases bs with
    | nil => simp [unle]
    | cons x l =>
      rw [List.drop_succ_cons]
      show _ ≤ x.toNat + 256 * unle l
      have := ih l
      have e : 256 ^ (i + 1) * unle (l.drop i) = 256 * (256 ^ i * unle (l.drop i)) := by rw [Nat.pow_succ, Nat.mul_comm (256 ^ i) 256, Nat.mul_assoc]
      omega
/-- What the document reads of such bytes. -/
def refval (bs : List UInt8) : Int := if unle bs < 281474976710656 then (unle bs : Int) else -1
set_option maxRecDepth 100000 in
set_option maxHeartbeats 4000000 in
theorem refvalue_any (A : Option Addr) (n c : Nat) (bs : List UInt8) (w : World) (B : Nat) (hx : Reads w B 1 A n (bs.map B8)) (hn : n ≤ 8) :
    Calls Try.prog 32 #[.slice A n c] w fun e w' => e = .returned (.int .i64 (refval bs)) ∧ w = w' := by
  have HX := Lib.hid hx
  have hlen : bs.length = n := by have := hx.1; simpa using this
  have hn1 : (n : Int) ≤ 8 := by omega
  obtain ⟨rv, hrv⟩ : ∃ rv, rv = refval bs := ⟨_, rfl⟩
  rw [← hrv]
  have HRV := Lib.hid hrv
  clear hx hrv
  go_enter Try.func32, Try.ntmps32
  go_wp2_with fail
  go_loopw [3, 4] (fun s3 s4 wr => ∃ j q : Nat, j ≤ n ∧ s4 = .int .i64 ((j : Int) - 1) ∧ s3 = .int .i64 q ∧ q = unle (bs.drop j) ∧ q < 256 ^ (6 - j) ∧ wr = w) (fun _ s _ => (intOf s + 1).toNat)
  case atStart => exact ⟨n, 0, Nat.le_refl _, rfl, rfl, by rw [← hlen, List.drop_length]; rfl, Nat.pow_pos (by decide), rfl⟩
  case round =>
    obtain ⟨j, q, hj, rfl, rfl, hq, hql, rfl⟩ := hrel
    have hq48 : (q : Int) < 281474976710656 := by
      have : 256 ^ (6 - j) ≤ 256 ^ 6 := Nat.pow_le_pow_right (by decide) (by omega)
      omega
    have hq0 : (0 : Int) ≤ (q : Int) := Int.natCast_nonneg _
    have HQ := Lib.hid hq
    have HQL := Lib.hid hql
    clear hq hql
    rcases Nat.eq_zero_or_pos j with rfl | hpos
    · have hv : refval bs = (q : Int) := by
        have h := HQ.out
        rw [List.drop_zero] at h
        unfold refval
        rw [← h, if_pos (by omega)]
      rw [← HRV.out] at hv
      have HV := Lib.hid hv
      clear hv
      go_wp2
      go_ret
      exact ⟨by rw [HV.out]; rfl, rfl⟩
    · obtain ⟨i, rfl⟩ : ∃ i, j = i + 1 := ⟨j - 1, by omega⟩
      have hi0 : (0 : Int) ≤ (i : Int) := Int.natCast_nonneg _
      have hij : ((i + 1 : Nat) : Int) - 1 = (i : Int) := by omega
      rw [hij]
      have hi1 : (i : Int) < (n : Int) := by omega
      have hin : i < n := by omega
      obtain ⟨ad, u, rfl, _, hu, hc⟩ := HX.out.at_ hin
      obtain ⟨x, hx⟩ : ∃ x, bs[i]? = some x := ⟨_, List.getElem?_eq_getElem (by omega)⟩
      have hue : u = .int .u8 (x.toNat : Int) := by
        rw [List.getElem?_map, hx] at hu; exact (Option.some.inj hu).symm
      subst hue
      have HU : Hid (unle (bs.drop i) = x.toNat + 256 * q) := Lib.hid (by rw [unle_at bs hx, ← HQ.out])
      have HG : Hid (256 ^ i * unle (bs.drop i) ≤ unle bs) := Lib.hid (unle_ge bs i)
      obtain ⟨y, hy⟩ : ∃ y : Nat, y = x.toNat := ⟨_, rfl⟩
      have hy2 : (y : Int) < 256 := by rw [hy]; have := x.toNat_lt; omega
      have hy0 : (0 : Int) ≤ (y : Int) := Int.natCast_nonneg _
      rw [← hy] at hc HU
      clear hu hx hy
      by_cases h6 : 6 ≤ i
      · have hi6 : (6 : Int) ≤ (i : Int) := by omega
        have hqz : q = 0 := by have := HQL.out; rw [show 6 - (i + 1) = 0 by omega] at this; omega
        subst hqz
        by_cases hyz : y = 0
        · subst hyz
          go_wp2
          go_roundw
          case rel => exact ⟨i, 0, by omega, by go_num, rfl, by rw [HU.out], Nat.pow_pos (by decide), trivial⟩
          case measure => first | (simp [intOf]; done) | (simp [intOf]; omega)
        · have hyn : ¬ (y : Int) = 0 := by omega
          have hv : refval bs = -1 := by
            unfold refval
            have h1 := HG.out
            rw [HU.out] at h1
            have h2 : (256 : Nat) ^ 6 ≤ 256 ^ i := Nat.pow_le_pow_right (by decide) h6
            have h3 : 256 ^ 6 * 1 ≤ 256 ^ i * (y + 256 * 0) := Nat.mul_le_mul h2 (by omega)
            rw [if_neg (by omega)]
          rw [← HRV.out] at hv
          have HV := Lib.hid hv
          clear hv
          go_wp2
          go_ret
          exact ⟨by rw [HV.out]; rfl, rfl⟩
      · have hi6 : ((6 : Int) ≤ (i : Int)) = False := by simp; omega
        have H6 := Lib.hid h6
        clear h6
        have hw1 : wrap64 ((q : Int) * 256) = (q : Int) * 256 := IntWalk.wrap64_in _ (by omega)
        have hw2 : wrap64 ((q : Int) * 256 + (y : Int)) = (q : Int) * 256 + (y : Int) := IntWalk.wrap64_in _ (by omega)
        have HQ48 := Lib.hid hq48
        clear hq48
        go_wp2
        go_roundw
        case rel =>
          have h6 := H6.out
          refine ⟨i, q * 256 + y, by omega, by go_num, by go_num, by rw [HU.out]; omega, ?_, trivial⟩
          have h1 := HQL.out
          have e : 6 - i = (6 - (i + 1)) + 1 := by omega
          rw [e, Nat.pow_succ]
          have hyb : y < 256 := by omega
          clear HG HU
          omega
        case measure => first | (simp [intOf]; done) | (simp [intOf]; omega)
end Go.Proofs.Ytdiaihpilniikaa
