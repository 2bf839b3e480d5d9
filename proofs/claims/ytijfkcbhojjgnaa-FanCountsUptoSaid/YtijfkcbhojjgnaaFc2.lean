/- Contracts for FanCounts, numbers: which is there most often (the program's and the document's), and are two lists the same. -/
import Derived.Test.YtijfkcbhojjgnaaFc1
import Derived.Deep.QuietTactic
import Derived.BigQuiet
import Derived.WalkSmall
namespace Go.Proofs.Ytijfkcbhojjgnaa.fanCounts
open Go.RowKit

set_option maxHeartbeats 400000 in
theorem imost_row (b off len cap : Nat) (zs : List Int) (w : World) (hm : len ≤ 1048576) (hz : zs.length = len)
    (hc : ∀ i, i < len → w.cell? ⟨b, off + i, none⟩ = some (EI (zs.getD i 0))) :
    Calls Try.prog 31 #[.slice (some ⟨b, off, none⟩) len cap] w fun e w' => e = .returned (.tuple #[.int .i64 (most zs), .int .i64 (times zs)]) ∧ w = w' := by
  have HR : Hid (IsRow EI w (some ⟨b, off, none⟩) len zs) := Lib.hid (Or.inr ⟨b, off, rfl, hz, hc⟩)
  have HZ := Lib.hid hz; clear hz
  have HC := Lib.hid hc; clear hc
  go_enter Try.func31, Try.ntmps31
  go_wp2
  go_loop [4, 5, 11] (fun best most i => ∃ k : Nat, k ≤ len ∧ i = .int .i64 k ∧ best = .int .i64 (mto zs k).1 ∧ most = .int .i64 (mto zs k).2) (fun _ _ i => len - (intOf i).toNat)
  case atStart => exact ⟨0, Nat.zero_le _, rfl, rfl, rfl⟩
  case round =>
    obtain ⟨k, hk, rfl, rfl, rfl⟩ := hrel
    have hbd := mto_bd zs k
    rw [HZ.out] at hbd
    have hcl := cnt_le zs (zs.getD k 0)
    rw [HZ.out] at hcl
    by_cases hlt : k < len
    · have hck := HC.out k hlt
      have HS := Lib.hid (mto_succ zs k (by rw [HZ.out]; exact hlt))
      go_wp2_with (go_at_call 30; refine (icount_any _ _ _ _ _ _ hm HR.out).mono ?_; rintro e w' ⟨rfl, rfl⟩)
      · have hq : (mto zs k).2 < (cnt zs (zs.getD k 0) : Int) := by assumption
        go_round
        case rel => exact ⟨k + 1, by omega, by go_num, by rw [HS.out, mstep, if_pos hq]; rfl, by rw [HS.out, mstep, if_pos hq]; rfl⟩
        case measure => simp [intOf]; omega
      · have hq : (cnt zs (zs.getD k 0) : Int) ≤ (mto zs k).2 := by assumption
        go_round
        case rel => exact ⟨k + 1, by omega, by go_num, by rw [HS.out, mstep, if_neg (by omega)], by rw [HS.out, mstep, if_neg (by omega)]⟩
        case measure => simp [intOf]; omega
    · have hkl : k = len := by omega
      subst hkl
      have HX : Hid (most zs = (mto zs k).1 ∧ times zs = max (mto zs k).2 0) := by
        unfold most times; rw [HZ.out]; exact ⟨rfl, rfl⟩
      by_cases hneg : (mto zs k).2 < 0
      · have HY := Lib.hid (show max (mto zs k).2 0 = 0 by omega)
        go_wp2
        go_ret2
        exact ⟨by rw [HX.out.1, HX.out.2, HY.out]; rfl, rfl⟩
      · have HY := Lib.hid (show max (mto zs k).2 0 = (mto zs k).2 by omega)
        go_wp2
        go_ret2
        exact ⟨by rw [HX.out.1, HX.out.2, HY.out]; rfl, rfl⟩

theorem imost_nil (a : Option Addr) (cap : Nat) (w : World) :
    Calls Try.prog 31 #[.slice a 0 cap] w fun e w' => e = .returned (.tuple #[.int .i64 (most []), .int .i64 (times [])]) ∧ w = w' := by
  go_enter Try.func31, Try.ntmps31
  go_wp2
  refine wp_loop_rounds 1 ?_
  rw [rounds_succ]
  go_wp2
  go_ret2
  exact ⟨rfl, rfl⟩

theorem imost_any (a : Option Addr) (len cap : Nat) (zs : List Int) (w : World) (hm : len ≤ 1048576) (h : IsRow EI w a len zs) :
    Calls Try.prog 31 #[.slice a len cap] w fun e w' => e = .returned (.tuple #[.int .i64 (most zs), .int .i64 (times zs)]) ∧ w = w' := by
  rcases h with ⟨rfl, rfl⟩ | ⟨b, off, rfl, hz, hc⟩
  · exact imost_nil a cap w
  · exact imost_row b off len cap zs w hm hz hc

/-! ### cairnref16.Most -/

/-- Is element i at least as often there as the first k are? -/
def bestTo (l : List Int) (i k : Nat) : Bool := (l.take k).all fun y => decide (cnt l y ≤ cnt l (l.getD i 0))

theorem bestTo_succ (l : List Int) (i k : Nat) (h : k < l.length) : bestTo l i (k + 1) = (bestTo l i k && decide (cnt l (l.getD k 0) ≤ cnt l (l.getD i 0))) := by
  unfold bestTo; rw [take_snoc l k h]; simp

theorem calls_quiet_count (a : Option Addr) (len cap : Nat) (zs : List Int) (x : Int) (w : World) (hm : len ≤ 1048576) (h : IsRow EI w a len zs) :
    Calls Try.prog 15 #[.slice a len cap, .int .i64 x] w fun e w' => e = .returned (.int .i64 (cnt zs x)) ∧ w' = w :=
  (rcount_any a len cap zs x w hm h).mono fun _ _ ⟨h1, h2⟩ => ⟨h1, h2.symm⟩

theorem IsRow.drewN {E : Int → Value} {w : World} {a : Option Addr} {len : Nat} {zs : List Int} (h : IsRow E w a len zs) (n : Nat) : IsRow E (w.drewN n) a len zs := by
  rcases h with h | ⟨b, off, rfl, hz, hc⟩
  · exact .inl h
  · exact .inr ⟨b, off, rfl, hz, hc⟩

theorem quiet_add_same {P : Program} {f : FuncId} {args : Array Value} {w : World} {a n : Nat} {v : Value}
    (h : Calls P f args (w.drewN (a + n)) fun e w' => e = .returned v ∧ w' = w.drewN (a + n)) :
    Calls P f args (w.drewN (a + n)) fun e w'' => e = .returned v ∧ ∃ m, w'' = w.drewN (a + m) :=
  h.mono fun _ _ ⟨he, hm⟩ => ⟨he, n, hm⟩

theorem best_true (l : List Int) (i m k : Nat) (hm : cnt l (l.getD i 0) = m) (hle : ∀ j, j < l.length → cnt l (l.getD j 0) ≤ m) (hk : k ≤ l.length) : bestTo l i k = true := by
  unfold bestTo
  rw [List.all_eq_true]
  intro y hy
  obtain ⟨j, hj, e⟩ := List.getElem_of_mem hy
  have hj' : j < l.length := by simp at hj; omega
  have := hle j hj'
  rw [hm]
  have hy' : y = l.getD j 0 := by rw [← e]; simp [List.getD, hj']
  rw [hy']; simpa using this

theorem best_false (l : List Int) (k i m : Nat) (hm : cnt l (l.getD i 0) = m) (hlt : cnt l (l.getD k 0) < m) (hi : i < l.length) : bestTo l k l.length = false := by
  unfold bestTo
  rw [List.all_eq_false]
  refine ⟨l.getD i 0, ?_, ?_⟩
  · rw [List.take_of_length_le (Nat.le_refl _)]
    simp only [List.getD, List.getElem?_eq_getElem hi, Option.getD_some]
    exact List.getElem_mem hi
  · rw [decide_eq_false (by omega)]; decide

set_option maxHeartbeats 1000000 in
theorem rmost_row (b off len cap : Nat) (zs : List Int) (w : World) (hm : len ≤ 1048576) (hz : zs.length = len) (hpos : 0 < len)
    (hc : ∀ i, i < len → w.cell? ⟨b, off + i, none⟩ = some (EI (zs.getD i 0))) :
    Calls Try.prog 10 #[.slice (some ⟨b, off, none⟩) len cap] w fun e w' => e = .returned (.tuple #[.int .i64 (most zs), .int .i64 (times zs)]) ∧ ∃ n, w' = w.drewN n := by
  have HR : Hid (IsRow EI w (some ⟨b, off, none⟩) len zs) := Lib.hid (Or.inr ⟨b, off, rfl, hz, hc⟩)
  obtain ⟨i, m, hi, he, hcm, hle, hlt⟩ := mto_spec zs len (by omega) hpos
  have HX : Hid (most zs = zs.getD i 0 ∧ times zs = m) := by
    unfold most times; rw [hz, he]; exact ⟨rfl, by simp only; omega⟩
  clear he
  have HZ := Lib.hid hz; clear hz
  have HC := Lib.hid hc; clear hc
  have HCM := Lib.hid hcm; clear hcm
  have HLE := Lib.hid hle; clear hle
  have HLT := Lib.hid hlt; clear hlt
  go_enter Try.func10, Try.ntmps10
  go_wp2
  go_loopw [4] (fun s wr => ∃ k n : Nat, k ≤ i ∧ s = .int .i64 k ∧ wr = w.drewN n) (fun s _ => len - (intOf s).toNat)
  case atStart => exact ⟨0, 0, Nat.zero_le _, rfl, rfl⟩
  case round =>
    obtain ⟨k, n, hk, rfl, rfl⟩ := hrel
    have hkl : k < len := by omega
    have hck := HC.out k hkl
    go_wp2
    go_loopw [5, 6] (fun best s wr => ∃ j q : Nat, j ≤ len ∧ s = .int .i64 j ∧ best = .bool (bestTo zs k j) ∧ wr = w.drewN q) (fun _ s _ => len - (intOf s).toNat)
    case atStart => exact ⟨0, n, Nat.zero_le _, rfl, rfl, rfl⟩
    case round =>
      obtain ⟨j, q, hj, rfl, rfl, rfl⟩ := hrel
      by_cases hjl : j < len
      · have hcj := HC.out j hjl
        have HS := Lib.hid (bestTo_succ zs k j (by rw [HZ.out]; exact hjl))
        by_cases hgt : cnt zs (zs[k]?.getD 0) < cnt zs (zs[j]?.getD 0)
        · have HS2 : Hid (bestTo zs k (j + 1) = false) := by rw [HS.out, decide_eq_false (by rw [List.getD, List.getD]; omega), Bool.and_false]; exact rfl
          go_wp2
          go_quiet ((go_at_call 15; exact quiet_add_same (calls_quiet_count _ _ _ _ _ _ hm (HR.out.drewN _))))
          go_wp2
          go_roundw
          case rel => exact ⟨j + 1, _, by omega, by go_num, by rw [HS2.out], rfl⟩
          case measure => simp [intOf]; omega
        · have HS2 : Hid (bestTo zs k (j + 1) = bestTo zs k j) := by rw [HS.out, decide_eq_true (by rw [List.getD, List.getD]; omega), Bool.and_true]; exact rfl
          go_wp2
          go_quiet ((go_at_call 15; exact quiet_add_same (calls_quiet_count _ _ _ _ _ _ hm (HR.out.drewN _))))
          go_wp2
          go_roundw
          case rel => exact ⟨j + 1, _, by omega, by go_num, by rw [HS2.out], rfl⟩
          case measure => simp [intOf]; omega
      · have hjl' : j = len := by omega
        subst hjl'
        by_cases hki : k < i
        · have hb : bestTo zs k j = false := by
            have := best_false zs k i m HCM.out (HLT.out k hki) (by rw [HZ.out]; exact hi)
            rwa [HZ.out] at this
          rw [hb]; clear hb
          go_wp2
          go_roundw
          case rel => exact ⟨k + 1, _, by omega, by go_num, rfl⟩
          case measure => simp [intOf]; omega
        · have hki' : k = i := by omega
          subst hki'
          have hb : bestTo zs k j = true := best_true zs k m j HCM.out (by rw [HZ.out]; exact HLE.out) (by rw [HZ.out]; omega)
          rw [hb]; clear hb
          go_wp2
          go_quiet ((go_at_call 15; exact quiet_add_same (calls_quiet_count _ _ _ _ _ _ hm (HR.out.drewN _))))
          go_wp2
          go_ret2
          exact ⟨by rw [HX.out.1, HX.out.2, ← HCM.out]; rfl, _, World.drewN_drewN ..⟩

theorem rmost_nil (a : Option Addr) (cap : Nat) (w : World) :
    Calls Try.prog 10 #[.slice a 0 cap] w fun e w' => e = .returned (.tuple #[.int .i64 (most []), .int .i64 (times [])]) ∧ ∃ n, w' = w.drewN n := by
  go_enter Try.func10, Try.ntmps10
  go_wp2
  refine wp_loop_rounds 1 ?_
  rw [rounds_succ]
  go_wp2
  go_ret2
  exact ⟨rfl, 0, rfl⟩

theorem rmost_any (a : Option Addr) (len cap : Nat) (zs : List Int) (w : World) (hm : len ≤ 1048576) (h : IsRow EI w a len zs) :
    Calls Try.prog 10 #[.slice a len cap] w fun e w' => e = .returned (.tuple #[.int .i64 (most zs), .int .i64 (times zs)]) ∧ ∃ n, w' = w.drewN n := by
  rcases h with ⟨rfl, rfl⟩ | ⟨b, off, rfl, hz, hc⟩
  · exact rmost_nil a cap w
  · by_cases h0 : len = 0
    · subst h0
      have : zs = [] := List.eq_nil_of_length_eq_zero hz
      subst this
      exact rmost_nil _ cap w
    · exact rmost_row b off len cap zs w hm hz (by omega) hc

/-! ### sameNumbers -/
set_option maxHeartbeats 1000000 in
theorem same_row (b1 o1 c1 b2 o2 c2 len : Nat) (zs : List Int) (w : World) (hm : len ≤ 1048576)
    (hc1 : ∀ i, i < len → w.cell? ⟨b1, o1 + i, none⟩ = some (EI (zs.getD i 0))) (hc2 : ∀ i, i < len → w.cell? ⟨b2, o2 + i, none⟩ = some (EI (zs.getD i 0))) :
    Calls Try.prog 32 #[.slice (some ⟨b1, o1, none⟩) len c1, .slice (some ⟨b2, o2, none⟩) len c2] w fun e w' => e = .returned (.bool true) ∧ ∃ n, w' = w.drewN n := by
  have HC1 := Lib.hid hc1; clear hc1
  have HC2 := Lib.hid hc2; clear hc2
  go_enter Try.func32, Try.ntmps32
  go_wp2
  go_loopw [5] (fun s wr => ∃ k q : Nat, k ≤ len ∧ s = .int .i64 k ∧ wr = w.drewN q) (fun s _ => len - (intOf s).toNat)
  case atStart => exact ⟨0, 0, Nat.zero_le _, rfl, rfl⟩
  case round =>
    obtain ⟨k, q, hk, rfl, rfl⟩ := hrel
    by_cases hlt : k < len
    · have g1 := HC1.out k hlt
      have g2 := HC2.out k hlt
      go_wp2
      go_quiet (fail)
      go_wp2
      go_roundw
      case rel => exact ⟨k + 1, _, by omega, by go_num, rfl⟩
      case measure => simp [intOf]; omega
    · go_wp2
      go_ret
      exact ⟨rfl, _, rfl⟩

theorem same_nil (a1 a2 : Option Addr) (c1 c2 : Nat) (w : World) :
    Calls Try.prog 32 #[.slice a1 0 c1, .slice a2 0 c2] w fun e w' => e = .returned (.bool true) ∧ ∃ n, w' = w.drewN n := by
  go_enter Try.func32, Try.ntmps32
  go_wp2
  refine wp_loop_rounds 1 ?_
  rw [rounds_succ]
  go_wp2
  go_ret
  exact ⟨rfl, 0, rfl⟩

theorem same_any (a1 a2 : Option Addr) (c1 c2 len : Nat) (zs : List Int) (w : World) (hm : len ≤ 1048576) (h1 : IsRow EI w a1 len zs) (h2 : IsRow EI w a2 len zs) :
    Calls Try.prog 32 #[.slice a1 len c1, .slice a2 len c2] w fun e w' => e = .returned (.bool true) ∧ ∃ n, w' = w.drewN n := by
  rcases h1 with ⟨rfl, rfl⟩ | ⟨b1, o1, rfl, hz1, hc1⟩
  · exact same_nil a1 a2 c1 c2 w
  · rcases h2 with ⟨rfl, rfl⟩ | ⟨b2, o2, rfl, hz2, hc2⟩
    · exact same_nil _ a2 c1 c2 w
    · exact same_row b1 o1 c1 b2 o2 c2 len zs w hm hc1 hc2
end Go.Proofs.Ytijfkcbhojjgnaa.fanCounts
