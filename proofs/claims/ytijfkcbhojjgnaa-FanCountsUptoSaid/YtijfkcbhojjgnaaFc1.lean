/- Contracts for FanCounts, numbers: how many are one of them (the program's and the document's), and are two lists the same. -/
import Derived.Test.YtijfkcbhojjgnaaFc0
import Derived.Test.YtijfkcbhojjgnaaRows
namespace Go.Proofs.Ytijfkcbhojjgnaa.fanCounts
open Go.RowKit

set_option maxHeartbeats 400000 in
theorem icount_row (b off len cap : Nat) (zs : List Int) (x : Int) (w : World) (hm : len ≤ 1048576) (hz : zs.length = len)
    (hc : ∀ i, i < len → w.cell? ⟨b, off + i, none⟩ = some (EI (zs.getD i 0))) :
    Calls Try.prog 30 #[.slice (some ⟨b, off, none⟩) len cap, .int .i64 x] w fun e w' => e = .returned (.int .i64 (cnt zs x)) ∧ w = w' := by
  have HZ := Lib.hid hz; clear hz
  have HC := Lib.hid hc; clear hc
  go_enter Try.func30, Try.ntmps30
  go_wp2
  go_loop [5, 10] (fun n i => ∃ k : Nat, k ≤ len ∧ i = .int .i64 k ∧ n = .int .i64 (cnt (zs.take k) x)) (fun _ i => len - (intOf i).toNat)
  case atStart => exact ⟨0, Nat.zero_le _, rfl, rfl⟩
  case round =>
    obtain ⟨k, hk, rfl, rfl⟩ := hrel
    have hl := cnt_take_le zs k x
    by_cases hlt : k < len
    · have hck := HC.out k hlt
      by_cases hf : (zs.getD k 0 == x) = true
      · have hf' : (zs[k]?.getD 0 == x) = true := hf
        have HS := Lib.hid (show cnt (zs.take (k + 1)) x = cnt (zs.take k) x + 1 from by rw [cnt_take_succ zs k x (by rw [HZ.out]; exact hlt), if_pos hf])
        clear hf
        go_wp2
        go_round
        case rel => exact ⟨k + 1, by omega, by go_num, by rw [HS.out]; rfl⟩
        case measure => simp [intOf]; omega
      · have hf' : (zs[k]?.getD 0 == x) = false := by simpa using hf
        have HS := Lib.hid (show cnt (zs.take (k + 1)) x = cnt (zs.take k) x from by rw [cnt_take_succ zs k x (by rw [HZ.out]; exact hlt), if_neg hf, Nat.add_zero])
        clear hf
        go_wp2
        go_round
        case rel => exact ⟨k + 1, by omega, by go_num, by rw [HS.out]⟩
        case measure => simp [intOf]; omega
    · go_wp2
      go_ret
      exact ⟨by rw [List.take_of_length_le (by rw [HZ.out]; omega)]; rfl, rfl⟩

theorem icount_nil (a : Option Addr) (cap : Nat) (x : Int) (w : World) :
    Calls Try.prog 30 #[.slice a 0 cap, .int .i64 x] w fun e w' => e = .returned (.int .i64 (cnt [] x)) ∧ w = w' := by
  go_enter Try.func30, Try.ntmps30
  go_wp2
  refine wp_loop_rounds 1 ?_
  rw [rounds_succ]
  go_wp2
  go_ret
  exact ⟨rfl, rfl⟩

theorem icount_any (a : Option Addr) (len cap : Nat) (zs : List Int) (x : Int) (w : World) (hm : len ≤ 1048576) (h : IsRow EI w a len zs) :
    Calls Try.prog 30 #[.slice a len cap, .int .i64 x] w fun e w' => e = .returned (.int .i64 (cnt zs x)) ∧ w = w' := by
  rcases h with ⟨rfl, rfl⟩ | ⟨b, off, rfl, hz, hc⟩
  · exact icount_nil a cap x w
  · exact icount_row b off len cap zs x w hm hz hc

set_option maxHeartbeats 400000 in
theorem rcount_row (b off len cap : Nat) (zs : List Int) (x : Int) (w : World) (hm : len ≤ 1048576) (hz : zs.length = len)
    (hc : ∀ i, i < len → w.cell? ⟨b, off + i, none⟩ = some (EI (zs.getD i 0))) :
    Calls Try.prog 15 #[.slice (some ⟨b, off, none⟩) len cap, .int .i64 x] w fun e w' => e = .returned (.int .i64 (cnt zs x)) ∧ w = w' := by
  have HZ := Lib.hid hz; clear hz
  have HC := Lib.hid hc; clear hc
  go_enter Try.func15, Try.ntmps15
  go_wp2
  go_loop [5, 6] (fun n i => ∃ k : Nat, k ≤ len ∧ i = .int .i64 k ∧ n = .int .i64 (cnt (zs.take k) x)) (fun _ i => len - (intOf i).toNat)
  case atStart => exact ⟨0, Nat.zero_le _, rfl, rfl⟩
  case round =>
    obtain ⟨k, hk, rfl, rfl⟩ := hrel
    have hl := cnt_take_le zs k x
    by_cases hlt : k < len
    · have hck := HC.out k hlt
      by_cases hf : (zs.getD k 0 == x) = true
      · have hf' : (zs[k]?.getD 0 == x) = true := hf
        have HS := Lib.hid (show cnt (zs.take (k + 1)) x = cnt (zs.take k) x + 1 from by rw [cnt_take_succ zs k x (by rw [HZ.out]; exact hlt), if_pos hf])
        clear hf
        go_wp2
        go_round
        case rel => exact ⟨k + 1, by omega, by go_num, by rw [HS.out]; rfl⟩
        case measure => simp [intOf]; omega
      · have hf' : (zs[k]?.getD 0 == x) = false := by simpa using hf
        have HS := Lib.hid (show cnt (zs.take (k + 1)) x = cnt (zs.take k) x from by rw [cnt_take_succ zs k x (by rw [HZ.out]; exact hlt), if_neg hf, Nat.add_zero])
        clear hf
        go_wp2
        go_round
        case rel => exact ⟨k + 1, by omega, by go_num, by rw [HS.out]⟩
        case measure => simp [intOf]; omega
    · go_wp2
      go_ret
      exact ⟨by rw [List.take_of_length_le (by rw [HZ.out]; omega)]; rfl, rfl⟩

theorem rcount_nil (a : Option Addr) (cap : Nat) (x : Int) (w : World) :
    Calls Try.prog 15 #[.slice a 0 cap, .int .i64 x] w fun e w' => e = .returned (.int .i64 (cnt [] x)) ∧ w = w' := by
  go_enter Try.func15, Try.ntmps15
  go_wp2
  refine wp_loop_rounds 1 ?_
  rw [rounds_succ]
  go_wp2
  go_ret
  exact ⟨rfl, rfl⟩

theorem rcount_any (a : Option Addr) (len cap : Nat) (zs : List Int) (x : Int) (w : World) (hm : len ≤ 1048576) (h : IsRow EI w a len zs) :
    Calls Try.prog 15 #[.slice a len cap, .int .i64 x] w fun e w' => e = .returned (.int .i64 (cnt zs x)) ∧ w = w' := by
  rcases h with ⟨rfl, rfl⟩ | ⟨b, off, rfl, hz, hc⟩
  · exact rcount_nil a cap x w
  · exact rcount_row b off len cap zs x w hm hz hc
end Go.Proofs.Ytijfkcbhojjgnaa.fanCounts
