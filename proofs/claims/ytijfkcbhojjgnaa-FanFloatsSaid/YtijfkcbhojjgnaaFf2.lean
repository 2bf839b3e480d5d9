/- Helper contract for FanFloats: the element that is there most often. -/
import Derived.Test.YtijfkcbhojjgnaaFf1
namespace Go.Proofs.Ytijfkcbhojjgnaa.fanFloats
open Go.RowKit

/-- One round of Most. -/
def mstep (l : List Nat) (s : Nat × Int) (x : Nat) : Nat × Int := if s.2 < (cnt l x : Int) then (x, (cnt l x : Int)) else s

def mto (l : List Nat) (k : Nat) : Nat × Int := (l.take k).foldl (mstep l) (0, -1)

theorem mto_succ (l : List Nat) (k : Nat) (h : k < l.length) : mto l (k + 1) = mstep l (mto l k) (l.getD k 0) := by
  unfold mto
  rw [take_snoc l k h, List.foldl_append]; rfl

theorem mto_bd (l : List Nat) (k : Nat) : -1 ≤ (mto l k).2 ∧ (mto l k).2 ≤ l.length := by
  induction k with
  | zero => simp [mto]
  | succ k ih =>
    by_cases h : k < l.length
    · rw [mto_succ l k h]
      unfold mstep
      have := cnt_le l (l.getD k 0)
      split <;> (try simp only) <;> omega
    · have : mto l (k + 1) = mto l k := by
        unfold mto; rw [List.take_of_length_le (by omega), List.take_of_length_le (by omega)]
      rw [this]; exact ih

set_option maxHeartbeats 400000 in
theorem most_row (b off len cap : Nat) (zs : List Nat) (w : World) (hlc : len ≤ cap) (hm : cap ≤ maxLen) (hz : zs.length = len)
    (hc : ∀ i, i < len → w.cell? ⟨b, off + i, none⟩ = some (.float .f64 (zs.getD i 0))) :
    Calls Try.prog 19 #[.slice (some ⟨b, off, none⟩) len cap] w fun e w' =>
      e = .returned (.tuple #[.float .f64 (mto zs len).1, .int .i64 (max (mto zs len).2 0)]) ∧ w = w' := by
  have HR : Hid (IsRowF w (some ⟨b, off, none⟩) len cap zs) := Lib.hid (Or.inr ⟨b, off, rfl, hlc, hm, hz, hc⟩)
  unfold maxLen at hm
  have hm' : len ≤ 9223372036854775807 := by omega
  clear hm hlc
  have HZ := Lib.hid hz; clear hz
  go_enter Try.func19, Try.ntmps19
  go_wp2
  go_loop [4, 5, 11] (fun best most i => ∃ k : Nat, k ≤ len ∧ i = .int .i64 k ∧ best = .float .f64 (mto zs k).1 ∧ most = .int .i64 (mto zs k).2) (fun _ _ i => len - (intOf i).toNat)
  case atStart => exact ⟨0, Nat.zero_le _, rfl, rfl, rfl⟩
  case round =>
    obtain ⟨k, hk, rfl, rfl, rfl⟩ := hrel
    have hbd := mto_bd zs k
    rw [HZ.out] at hbd
    have hcl := cnt_le zs (zs.getD k 0)
    rw [HZ.out] at hcl
    by_cases hlt : k < len
    · have hck := hc k hlt
      have hs := mto_succ zs k (by rw [HZ.out]; exact hlt)
      have HS := Lib.hid hs; clear hs
      go_wp2_with (go_at_call 17; refine (count_any _ _ _ _ _ _ HR.out).mono ?_; rintro e w' ⟨rfl, rfl⟩)
      · have hq : (mto zs k).2 < (cnt zs (zs.getD k 0) : Int) := by assumption
        go_round
        case rel => exact ⟨k + 1, by omega, by go_num, by rw [HS.out, mstep, if_pos hq]; rfl, by rw [HS.out, mstep, if_pos hq]; rfl⟩
        case measure => simp [intOf]; omega
      · have hq : (cnt zs (zs.getD k 0) : Int) ≤ (mto zs k).2 := by assumption
        go_round
        case rel => exact ⟨k + 1, by omega, by go_num, by rw [HS.out, mstep, if_neg (by omega)], by rw [HS.out, mstep, if_neg (by omega)]⟩
        case measure => simp [intOf]; omega
    · have hkl : k = len := by omega
      subst hkl
      by_cases hneg : (mto zs k).2 < 0
      · have hmx : max (mto zs k).2 0 = 0 := by omega
        have HX := Lib.hid hmx; clear hmx
        go_wp2
        go_ret2
        exact ⟨by rw [HX.out]; rfl, rfl⟩
      · have hmx : max (mto zs k).2 0 = (mto zs k).2 := by omega
        have HX := Lib.hid hmx; clear hmx
        go_wp2
        go_ret2
        exact ⟨by rw [HX.out]; rfl, rfl⟩

theorem most_nil (a : Option Addr) (cap : Nat) (w : World) :
    Calls Try.prog 19 #[.slice a 0 cap] w fun e w' => e = .returned (.tuple #[.float .f64 0, .int .i64 0]) ∧ w = w' := by
  go_enter Try.func19, Try.ntmps19
  go_wp2
  refine wp_loop_rounds 1 ?_
  rw [rounds_succ]
  go_wp2
  go_ret2
  exact ⟨rfl, rfl⟩

theorem most_any (a : Option Addr) (len cap : Nat) (zs : List Nat) (w : World) (h : IsRowF w a len cap zs) :
    Calls Try.prog 19 #[.slice a len cap] w fun e w' =>
      e = .returned (.tuple #[.float .f64 (mto zs len).1, .int .i64 (max (mto zs len).2 0)]) ∧ w = w' := by
  rcases h with ⟨rfl, rfl⟩ | ⟨b, off, rfl, hlc, hm, hz, hc⟩
  · exact most_nil a cap w
  · exact most_row b off len cap zs w hlc hm hz hc
end Go.Proofs.Ytijfkcbhojjgnaa.fanFloats
