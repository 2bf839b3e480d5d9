/- Contracts for FanCounts, texts of one byte. -/
import Derived.Test.YtijfkcbhojjgnaaFc3
namespace Go.Proofs.Ytijfkcbhojjgnaa.fanCounts
open Go.RowKit

def isByte (n : Int) : Prop := 0 ≤ n ∧ n ≤ 255

theorem one_eq (a b : Int) (ha : isByte a) (hb : isByte b) : ((one a).toList == (one b).toList) = (a == b) := by
  have key : (one a).toList = (one b).toList ↔ a = b := by
    constructor
    · intro h
      have e : ∀ n, (one n).toList = [UInt8.ofNat n.toNat] := fun n => by
        rw [ByteArray.toList_eq]; rfl
      rw [e, e] at h
      have h1 : UInt8.ofNat a.toNat = UInt8.ofNat b.toNat := by simpa using h
      have h2 := congrArg UInt8.toNat h1
      unfold isByte at ha hb
      simp only [UInt8.toNat_ofNat'] at h2
      omega
    · intro h; rw [h]
  rw [Bool.eq_iff_iff]
  simp [key]

set_option maxHeartbeats 400000 in
theorem scount_row (b off len cap : Nat) (zs : List Int) (x : Int) (w : World) (hm : len ≤ 1048576) (hz : zs.length = len) (hB : ∀ z ∈ zs, isByte z) (hx : isByte x)
    (hc : ∀ i, i < len → w.cell? ⟨b, off + i, none⟩ = some (ES (zs.getD i 0))) :
    Calls Try.prog 33 #[.slice (some ⟨b, off, none⟩) len cap, .string (one x)] w fun e w' => e = .returned (.int .i64 (cnt zs x)) ∧ w = w' := by
  have HZ := Lib.hid hz; clear hz
  have HC := Lib.hid hc; clear hc
  have HBB := Lib.hid hB; clear hB
  go_enter Try.func33, Try.ntmps33
  go_wp2
  go_loop [5, 10] (fun n i => ∃ k : Nat, k ≤ len ∧ i = .int .i64 k ∧ n = .int .i64 (cnt (zs.take k) x)) (fun _ i => len - (intOf i).toNat)
  case atStart => exact ⟨0, Nat.zero_le _, rfl, rfl⟩
  case round =>
    obtain ⟨k, hk, rfl, rfl⟩ := hrel
    have hl := cnt_take_le zs k x
    by_cases hlt : k < len
    · have hck := HC.out k hlt
      obtain ⟨y, hy⟩ : ∃ y, y = zs.getD k 0 := ⟨_, rfl⟩
      have hyb : isByte y := by rw [hy]; refine HBB.out _ ?_; simp [List.getD, HZ.out, hlt]
      rw [← hy] at hck
      simp only [ES] at hck
      have HY := Lib.hid hy; clear hy
      have heq := one_eq y x hyb hx
      by_cases hf : (y == x) = true
      · have HS := Lib.hid (show cnt (zs.take (k + 1)) x = cnt (zs.take k) x + 1 from by rw [cnt_take_succ zs k x (by rw [HZ.out]; exact hlt), if_pos (by rw [← HY.out]; exact hf)])
        rw [hf] at heq
        clear hf
        go_wp2
        go_round
        case rel => exact ⟨k + 1, by omega, by go_num, by rw [HS.out]; rfl⟩
        case measure => simp [intOf]; omega
      · have HS := Lib.hid (show cnt (zs.take (k + 1)) x = cnt (zs.take k) x from by rw [cnt_take_succ zs k x (by rw [HZ.out]; exact hlt), if_neg (by rw [← HY.out]; exact hf), Nat.add_zero])
        have hf' : (y == x) = false := by simpa using hf
        rw [hf'] at heq
        clear hf hf'
        go_wp2
        go_round
        case rel => exact ⟨k + 1, by omega, by go_num, by rw [HS.out]⟩
        case measure => simp [intOf]; omega
    · go_wp2
      go_ret
      exact ⟨by rw [List.take_of_length_le (by rw [HZ.out]; omega)]; rfl, rfl⟩

theorem scount_nil (a : Option Addr) (cap : Nat) (x : ByteArray) (w : World) :
    Calls Try.prog 33 #[.slice a 0 cap, .string x] w fun e w' => e = .returned (.int .i64 (cnt [] 0)) ∧ w = w' := by
  go_enter Try.func33, Try.ntmps33
  go_wp2
  refine wp_loop_rounds 1 ?_
  rw [rounds_succ]
  go_wp2
  go_ret
  exact ⟨rfl, rfl⟩

theorem scount_any (a : Option Addr) (len cap : Nat) (zs : List Int) (x : Int) (w : World) (hm : len ≤ 1048576) (hB : ∀ z ∈ zs, isByte z) (hx : isByte x) (h : IsRow ES w a len zs) :
    Calls Try.prog 33 #[.slice a len cap, .string (one x)] w fun e w' => e = .returned (.int .i64 (cnt zs x)) ∧ w = w' := by
  rcases h with ⟨rfl, rfl⟩ | ⟨b, off, rfl, hz, hc⟩
  · exact scount_nil a cap _ w
  · exact scount_row b off len cap zs x w hm hz hB hx hc

/-- The text of the best of the first k. -/
def stx (zs : List Int) (k : Nat) : ByteArray := if k = 0 then ⟨#[]⟩ else one (mto zs k).1

set_option maxHeartbeats 400000 in
theorem smost_row (b off len cap : Nat) (zs : List Int) (w : World) (hm : len ≤ 1048576) (hz : zs.length = len) (hB : ∀ z ∈ zs, isByte z)
    (hc : ∀ i, i < len → w.cell? ⟨b, off + i, none⟩ = some (ES (zs.getD i 0))) :
    Calls Try.prog 16 #[.slice (some ⟨b, off, none⟩) len cap] w fun e w' => e = .returned (.tuple #[.string (stx zs len), .int .i64 (times zs)]) ∧ w = w' := by
  have HR : Hid (IsRow ES w (some ⟨b, off, none⟩) len zs) := Lib.hid (Or.inr ⟨b, off, rfl, hz, hc⟩)
  have HZ := Lib.hid hz; clear hz
  have HC := Lib.hid hc; clear hc
  have HBB := Lib.hid hB; clear hB
  go_enter Try.func16, Try.ntmps16
  go_wp2
  go_loop [4, 5, 11] (fun best most i => ∃ k : Nat, k ≤ len ∧ i = .int .i64 k ∧ best = .string (stx zs k) ∧ most = .int .i64 (mto zs k).2) (fun _ _ i => len - (intOf i).toNat)
  case atStart => exact ⟨0, Nat.zero_le _, rfl, rfl, rfl⟩
  case round =>
    obtain ⟨k, hk, rfl, rfl, rfl⟩ := hrel
    have hbd := mto_bd zs k
    rw [HZ.out] at hbd
    have hcl := cnt_le zs (zs.getD k 0)
    rw [HZ.out] at hcl
    by_cases hlt : k < len
    · have hck := HC.out k hlt
      have HS := Lib.hid (mto_succ zs k (by rw [HZ.out]; exact hlt))
      obtain ⟨y, hy⟩ : ∃ y, y = zs.getD k 0 := ⟨_, rfl⟩
      have hyb : isByte y := by rw [hy]; refine HBB.out _ ?_; simp [List.getD, HZ.out, hlt]
      rw [← hy] at hck hcl
      simp only [ES] at hck
      have HY := Lib.hid hy; clear hy
      go_wp2_with (go_at_call 33; refine (scount_any _ _ _ _ _ _ hm HBB.out hyb HR.out).mono ?_; rintro e w' ⟨rfl, rfl⟩)
      · have hq : (mto zs k).2 < (cnt zs y : Int) := by assumption
        have HS2 : Hid (mto zs (k + 1) = (y, (cnt zs y : Int))) := by rw [HS.out, mstep, ← HY.out, if_pos hq]; exact rfl
        go_round
        case rel => exact ⟨k + 1, by omega, by go_num, by rw [stx, if_neg (by omega), HS2.out], by rw [HS2.out]⟩
        case measure => simp [intOf]; omega
      · have hq : (cnt zs y : Int) ≤ (mto zs k).2 := by assumption
        have HS2 : Hid (mto zs (k + 1) = mto zs k) := by rw [HS.out, mstep, ← HY.out, if_neg (by omega)]; exact rfl
        have hk0 : k ≠ 0 := by
          intro h; subst h; have : (mto zs 0).2 = -1 := rfl; omega
        go_round
        case rel => exact ⟨k + 1, by omega, by go_num, by rw [stx, if_neg hk0, stx, if_neg (by omega), HS2.out], by rw [HS2.out]⟩
        case measure => simp [intOf]; omega
    · have hkl : k = len := by omega
      subst hkl
      have HX : Hid (times zs = max (mto zs k).2 0) := by
        unfold times; rw [HZ.out]; exact rfl
      by_cases hneg : (mto zs k).2 < 0
      · have HY := Lib.hid (show max (mto zs k).2 0 = 0 by omega)
        go_wp2
        go_ret2
        exact ⟨by rw [HX.out, HY.out]; rfl, rfl⟩
      · have HY := Lib.hid (show max (mto zs k).2 0 = (mto zs k).2 by omega)
        go_wp2
        go_ret2
        exact ⟨by rw [HX.out, HY.out]; rfl, rfl⟩

theorem smost_nil (a : Option Addr) (cap : Nat) (w : World) :
    Calls Try.prog 16 #[.slice a 0 cap] w fun e w' => e = .returned (.tuple #[.string (stx [] 0), .int .i64 (times [])]) ∧ w = w' := by
  go_enter Try.func16, Try.ntmps16
  go_wp2
  refine wp_loop_rounds 1 ?_
  rw [rounds_succ]
  go_wp2
  go_ret2
  exact ⟨rfl, rfl⟩

theorem smost_any (a : Option Addr) (len cap : Nat) (zs : List Int) (w : World) (hm : len ≤ 1048576) (hB : ∀ z ∈ zs, isByte z) (h : IsRow ES w a len zs) :
    Calls Try.prog 16 #[.slice a len cap] w fun e w' => e = .returned (.tuple #[.string (stx zs len), .int .i64 (times zs)]) ∧ w = w' := by
  rcases h with ⟨rfl, rfl⟩ | ⟨b, off, rfl, hz, hc⟩
  · exact smost_nil a cap w
  · exact smost_row b off len cap zs w hm hz hB hc
end Go.Proofs.Ytijfkcbhojjgnaa.fanCounts
