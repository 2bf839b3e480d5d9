/- Helper contracts for FanFloats: counting by == in a slice of floating-point numbers. -/
import Derived.Test.YtijfkcbhojjgnaaRows
import Derived.WalkKit
import Derived.WalkLawsBesides
import Derived.Lib.Hide
namespace Go.Proofs.Ytijfkcbhojjgnaa.fanFloats
open Go.RowKit

/-- Go's == on float64 numbers, by their bits. -/
def feq (x y : Nat) : Bool := FloatKind.f64.format.order x y == some .eq

def cnt (l : List Nat) (x : Nat) : Nat := (l.filter fun y => feq y x).length

theorem cnt_le (l : List Nat) (x : Nat) : cnt l x ≤ l.length := List.length_filter_le _ _

theorem cnt_snoc (l : List Nat) (y x : Nat) : cnt (l ++ [y]) x = cnt l x + (if feq y x then 1 else 0) := by
  unfold cnt
  rw [List.filter_append]
  by_cases h : feq y x <;> simp [h]

theorem take_snoc (l : List Nat) (k : Nat) (h : k < l.length) : l.take (k + 1) = l.take k ++ [l.getD k 0] := by
  rw [List.take_succ_eq_append_getElem h]; simp [List.getD, h]

/-- What the walks know of a slice of floats: it is empty, or a row of cells. -/
def IsRowF (w : World) (a : Option Addr) (len cap : Nat) (zs : List Nat) : Prop :=
  (len = 0 ∧ zs = []) ∨
  ∃ b off, a = some ⟨b, off, none⟩ ∧ len ≤ cap ∧ cap ≤ maxLen ∧ zs.length = len ∧ (∀ i, i < len → w.cell? ⟨b, off + i, none⟩ = some (.float .f64 (zs.getD i 0)))

set_option maxHeartbeats 400000 in
theorem count_row (b off len cap : Nat) (zs : List Nat) (x : Nat) (w : World) (hlc : len ≤ cap) (hm : cap ≤ maxLen) (hz : zs.length = len)
    (hc : ∀ i, i < len → w.cell? ⟨b, off + i, none⟩ = some (.float .f64 (zs.getD i 0))) :
    Calls Try.prog 17 #[.slice (some ⟨b, off, none⟩) len cap, .float .f64 x] w fun e w' => e = .returned (.int .i64 (cnt zs x)) ∧ w = w' := by
  unfold maxLen at hm
  have hm' : len ≤ 9223372036854775807 := by omega
  clear hm hlc
  have HZ := Lib.hid hz; clear hz
  go_enter Try.func17, Try.ntmps17
  go_wp2
  go_loop [5, 10] (fun n i => ∃ k : Nat, k ≤ len ∧ i = .int .i64 k ∧ n = .int .i64 (cnt (zs.take k) x)) (fun _ i => len - (intOf i).toNat)
  case atStart => exact ⟨0, Nat.zero_le _, rfl, rfl⟩
  case round =>
    obtain ⟨k, hk, rfl, rfl⟩ := hrel
    have hl : cnt (zs.take k) x ≤ k := Nat.le_trans (cnt_le _ _) (List.length_take_le _ _)
    by_cases hlt : k < len
    · have hck := hc k hlt
      have hs : cnt (zs.take (k + 1)) x = cnt (zs.take k) x + (if feq (zs.getD k 0) x then 1 else 0) := by
        rw [take_snoc zs k (by rw [HZ.out]; exact hlt), cnt_snoc]
      have HS := Lib.hid hs; clear hs
      go_wp2
      · have hf : feq (zs.getD k 0) x = true := by assumption
        go_round
        case rel => exact ⟨k + 1, by omega, by go_num, by rw [HS.out, if_pos hf]; rfl⟩
        case measure => simp [intOf]; omega
      · have hf : feq (zs.getD k 0) x = false := by assumption
        go_round
        case rel => exact ⟨k + 1, by omega, by go_num, by rw [HS.out, hf]; rfl⟩
        case measure => simp [intOf]; omega
    · go_wp2
      go_ret
      exact ⟨by rw [List.take_of_length_le (by rw [HZ.out]; omega)]; rfl, rfl⟩

theorem count_nil (a : Option Addr) (cap : Nat) (x : Nat) (w : World) :
    Calls Try.prog 17 #[.slice a 0 cap, .float .f64 x] w fun e w' => e = .returned (.int .i64 (cnt [] x)) ∧ w = w' := by
  go_enter Try.func17, Try.ntmps17
  go_wp2
  refine wp_loop_rounds 1 ?_
  rw [rounds_succ]
  go_wp2
  go_ret
  exact ⟨rfl, rfl⟩

theorem count_any (a : Option Addr) (len cap : Nat) (zs : List Nat) (x : Nat) (w : World) (h : IsRowF w a len cap zs) :
    Calls Try.prog 17 #[.slice a len cap, .float .f64 x] w fun e w' => e = .returned (.int .i64 (cnt zs x)) ∧ w = w' := by
  rcases h with ⟨rfl, rfl⟩ | ⟨b, off, rfl, hlc, hm, hz, hc⟩
  · exact count_nil a cap x w
  · exact count_row b off len cap zs x w hlc hm hz hc

set_option maxHeartbeats 400000 in
theorem times_row (b off len cap : Nat) (zs : List Nat) (x : Nat) (w : World) (hlc : len ≤ cap) (hm : cap ≤ maxLen) (hz : zs.length = len)
    (hc : ∀ i, i < len → w.cell? ⟨b, off + i, none⟩ = some (.float .f64 (zs.getD i 0))) :
    Calls Try.prog 18 #[.slice (some ⟨b, off, none⟩) len cap, .float .f64 x] w fun e w' => e = .returned (.int .i64 (cnt zs x)) ∧ w = w' := by
  unfold maxLen at hm
  have hm' : len ≤ 9223372036854775807 := by omega
  clear hm hlc
  have HZ := Lib.hid hz; clear hz
  go_enter Try.func18, Try.ntmps18
  go_wp2
  go_loop [5, 6] (fun n i => ∃ k : Nat, k ≤ len ∧ i = .int .i64 k ∧ n = .int .i64 (cnt (zs.take k) x)) (fun _ i => len - (intOf i).toNat)
  case atStart => exact ⟨0, Nat.zero_le _, rfl, rfl⟩
  case round =>
    obtain ⟨k, hk, rfl, rfl⟩ := hrel
    have hl : cnt (zs.take k) x ≤ k := Nat.le_trans (cnt_le _ _) (List.length_take_le _ _)
    by_cases hlt : k < len
    · have hck := hc k hlt
      have hs : cnt (zs.take (k + 1)) x = cnt (zs.take k) x + (if feq (zs.getD k 0) x then 1 else 0) := by
        rw [take_snoc zs k (by rw [HZ.out]; exact hlt), cnt_snoc]
      have HS := Lib.hid hs; clear hs
      go_wp2
      · have hf : feq (zs.getD k 0) x = true := by assumption
        go_round
        case rel => exact ⟨k + 1, by omega, by go_num, by rw [HS.out, if_pos hf]; rfl⟩
        case measure => simp [intOf]; omega
      · have hf : feq (zs.getD k 0) x = false := by assumption
        go_round
        case rel => exact ⟨k + 1, by omega, by go_num, by rw [HS.out, hf]; rfl⟩
        case measure => simp [intOf]; omega
    · go_wp2
      go_ret
      exact ⟨by rw [List.take_of_length_le (by rw [HZ.out]; omega)]; rfl, rfl⟩

theorem times_nil (a : Option Addr) (cap : Nat) (x : Nat) (w : World) :
    Calls Try.prog 18 #[.slice a 0 cap, .float .f64 x] w fun e w' => e = .returned (.int .i64 (cnt [] x)) ∧ w = w' := by
  go_enter Try.func18, Try.ntmps18
  go_wp2
  refine wp_loop_rounds 1 ?_
  rw [rounds_succ]
  go_wp2
  go_ret
  exact ⟨rfl, rfl⟩

theorem times_any (a : Option Addr) (len cap : Nat) (zs : List Nat) (x : Nat) (w : World) (h : IsRowF w a len cap zs) :
    Calls Try.prog 18 #[.slice a len cap, .float .f64 x] w fun e w' => e = .returned (.int .i64 (cnt zs x)) ∧ w = w' := by
  rcases h with ⟨rfl, rfl⟩ | ⟨b, off, rfl, hlc, hm, hz, hc⟩
  · exact times_nil a cap x w
  · exact times_row b off len cap zs x w hlc hm hz hc

end Go.Proofs.Ytijfkcbhojjgnaa.fanFloats
