/- The walk of FanFloats: the Go text returns true, and writes nothing that was there. -/
import Derived.Test.YtijfkcbhojjgnaaFf2
import Derived.Deep.QuietTactic
import Derived.BigQuiet
namespace Go.Proofs.Ytijfkcbhojjgnaa.fanFloats
open Go.RowKit

theorem IsRowF.below {w w' : World} {a : Option Addr} {len cap : Nat} {zs : List Nat} (h : IsRowF w a len cap zs) (hb : Below w.heap.size w w') : IsRowF w' a len cap zs := by
  rcases h with h | ⟨b, off, rfl, hlc, hm, hz, hc⟩
  · exact .inl h
  · refine .inr ⟨b, off, rfl, hlc, hm, hz, fun i hi => ?_⟩
    have := hc i hi
    rw [hb.cell (World.block_lt_of_cell? _ _ this)]; exact this

/-- The argument of Count's first call: 1, 2, 1. -/
def ones : List Nat := [4607182418800017408, 4611686018427387904, 4607182418800017408]

theorem ones_row (w : World) : IsRowF (w.alloc (.cells #[.float .f64 4607182418800017408, .float .f64 4611686018427387904, .float .f64 4607182418800017408] 39)) (some ⟨w.heap.size, 0, none⟩) 3 3 ones := by
  refine .inr ⟨w.heap.size, 0, rfl, by omega, by unfold maxLen; omega, rfl, fun i hi => ?_⟩
  rw [World.cell?_alloc_new]
  match i, hi with
  | 0, _ => rfl
  | 1, _ => rfl
  | 2, _ => rfl

theorem ones_cnt : cnt ones 4607182418800017408 = 2 := by decide +kernel

/-- What Most comes to: the first of those that are there most often. -/
theorem mto_spec (l : List Nat) (k : Nat) (hk : k ≤ l.length) (h0 : 0 < k) :
    ∃ i m : Nat, i < k ∧ mto l k = (l.getD i 0, (m : Int)) ∧ cnt l (l.getD i 0) = m ∧ (∀ j, j < k → cnt l (l.getD j 0) ≤ m) ∧ ∀ j, j < i → cnt l (l.getD j 0) < m := by
  induction k with
  | zero => omega
  | succ k ih =>
    rw [mto_succ l k (by omega)]
    by_cases hz : k = 0
    · subst hz
      refine ⟨0, cnt l (l.getD 0 0), by omega, ?_, rfl, fun j hj => ?_, fun j hj => by omega⟩
      · have : mto l 0 = (0, -1) := rfl
        rw [this, mstep, if_pos (by simp only; omega)]
      · have : j = 0 := by omega
        subst this; exact Nat.le_refl _
    · obtain ⟨i, m, hi, e, hc, hle, hlt⟩ := ih (by omega) (by omega)
      rw [e, mstep]
      by_cases hq : m < cnt l (l.getD k 0)
      · rw [if_pos (by simp only; omega)]
        refine ⟨k, cnt l (l.getD k 0), by omega, rfl, rfl, fun j hj => ?_, fun j hj => ?_⟩
        · by_cases hjk : j = k
          · subst hjk; exact Nat.le_refl _
          · have := hle j (by omega); omega
        · have := hle j hj; omega
      · rw [if_neg (by simp only; omega)]
        refine ⟨i, m, by omega, rfl, hc, fun j hj => ?_, hlt⟩
        by_cases hjk : j = k
        · subst hjk; omega
        · exact hle j (by omega)

set_option maxHeartbeats 1000000 in
theorem walk_row (b off len cap : Nat) (zs : List Nat) (x : Nat) (w : World) (hlc : len ≤ cap) (hm : cap ≤ maxLen) (hz : zs.length = len) (hpos : 0 < len)
    (hc : ∀ i, i < len → w.cell? ⟨b, off + i, none⟩ = some (.float .f64 (zs.getD i 0))) :
    Calls Try.prog 7 #[.slice (some ⟨b, off, none⟩) len cap, .float .f64 x] w fun e w' => e = .returned (.bool true) ∧ Below w.heap.size w w' := by
  have HR : Hid (IsRowF w (some ⟨b, off, none⟩) len cap zs) := Lib.hid (Or.inr ⟨b, off, rfl, hlc, hm, hz, hc⟩)
  unfold maxLen at hm
  have hm' : len ≤ 9223372036854775807 := by omega
  clear hm hlc
  have hbig := cnt_le zs
  obtain ⟨i, m, hi, he, hcm, hle, hlt⟩ := mto_spec zs len (by omega) hpos
  have hmm : m ≤ len := by have := hbig (zs.getD i 0); omega
  clear hbig
  have HZ := Lib.hid hz; clear hz
  have HC := Lib.hid hc; clear hc
  have HE := Lib.hid he; clear he
  have HCM := Lib.hid hcm; clear hcm
  have HLE := Lib.hid hle; clear hle
  have HLT := Lib.hid hlt; clear hlt
  have hne : ((len : Int) == 0) = false := by simp; omega
  go_enter Try.func7, Try.ntmps7
  go_wp2_with fail
  refine (count_any _ _ _ _ _ _ (ones_row _)).mono ?_
  rintro e w' ⟨rfl, rfl⟩
  rw [ones_cnt]
  have hb1 := (Below.refl w.heap.size w |>.alloc (Nat.le_refl _) (.cells #[.float .f64 4607182418800017408, .float .f64 4611686018427387904, .float .f64 4607182418800017408] 39))
  have h1 := HR.out.below hb1
  have hc1 : ∀ j, j < len → (w.alloc (.cells #[.float .f64 4607182418800017408, .float .f64 4611686018427387904, .float .f64 4607182418800017408] 39)).cell? ⟨b, off + j, none⟩ = some (.float .f64 (zs.getD j 0)) := by
    intro j hj
    have hcj := HC.out j hj
    rw [hb1.cell (World.block_lt_of_cell? _ _ hcj)]; exact hcj
  have HC1 := Lib.hid hc1; clear hc1
  have H1 := Lib.hid h1; clear h1
  have HB1 := Lib.hid hb1; clear hb1
  go_wp2_with (first | (go_at_call 17; refine (count_any _ _ _ _ _ _ H1.out).mono ?_; rintro e w' ⟨rfl, rfl⟩) | (go_at_call 18; refine (times_any _ _ _ _ _ _ H1.out).mono ?_; rintro e w' ⟨rfl, rfl⟩) | (go_at_call 19; refine (most_any _ _ _ _ _ H1.out).mono ?_; rintro e w' ⟨rfl, rfl⟩; rw [HE.out, show max (m : Int) 0 = (m : Int) from by omega]))
  go_loop [7] (fun s => ∃ k : Nat, k ≤ i ∧ s = .int .i64 k) (fun s => len - (intOf s).toNat)
  case atStart => exact ⟨0, Nat.zero_le _, rfl⟩
  case round =>
    obtain ⟨k, hk, rfl⟩ := hrel
    have hkl : k < len := by omega
    have hck := HC1.out k hkl
    have hge : cnt zs (zs[k]?.getD 0) ≤ m := by have := HLE.out k hkl; rwa [List.getD] at this
    by_cases hki : k < i
    · have hlt' : cnt zs (zs[k]?.getD 0) < m := by have := HLT.out k hki; rwa [List.getD] at this
      go_wp2_with (go_at_call 18; refine (times_any _ _ _ _ _ _ H1.out).mono ?_; rintro e w' ⟨rfl, rfl⟩)
      go_round
      case rel => exact ⟨k + 1, by omega, by go_num⟩
      case measure => simp [intOf]; omega
    · have hki' : k = i := by omega
      subst hki'
      have hceq : cnt zs (zs[k]?.getD 0) = m := by have := HCM.out; rwa [List.getD] at this
      have HQ := Lib.hid hceq; clear hceq hge
      have hgd : zs.getD k 0 = zs[k]?.getD 0 := rfl
      by_cases hf : feq (zs[k]?.getD 0) (zs[k]?.getD 0) = true
      · have hf1 : (FloatKind.f64.format.order (zs[k]?.getD 0) (zs[k]?.getD 0) == some .eq) = true := hf
        go_wp2_with (go_at_call 18; refine (times_any _ _ _ _ _ _ H1.out).mono ?_; rintro e w' ⟨rfl, rfl⟩; rw [HQ.out])
        go_quiet (fail)
        go_wp2
        go_ret
        exact ⟨rfl, below_drewN HB1.out _⟩
      · have hf1 : (FloatKind.f64.format.order (zs[k]?.getD 0) (zs[k]?.getD 0) == some .eq) = false := by simpa [feq] using hf
        have hf2 : (FloatKind.f64.format.order (zs[k]?.getD 0) (zs[k]?.getD 0) != some .eq) = true := by rw [bne, hf1]; rfl
        go_wp2_with (go_at_call 18; refine (times_any _ _ _ _ _ _ H1.out).mono ?_; rintro e w' ⟨rfl, rfl⟩; rw [HQ.out])
        go_quiet (fail)
        go_wp2
        go_ret
        exact ⟨rfl, below_drewN HB1.out _⟩

set_option maxHeartbeats 1000000 in
theorem walk_empty (a : Option Addr) (cap : Nat) (zs : List Nat) (x : Nat) (w : World) (h : IsRowF w a 0 cap zs) :
    Calls Try.prog 7 #[.slice a 0 cap, .float .f64 x] w fun e w' => e = .returned (.bool true) ∧ Below w.heap.size w w' := by
  have HR := Lib.hid h; clear h
  have hz0 : (FloatKind.f64.format.order 0 0 == some .eq) = true := by decide +kernel
  have hmt : mto zs 0 = (0, -1) := rfl
  have HM := Lib.hid hmt; clear hmt
  go_enter Try.func7, Try.ntmps7
  go_wp2_with fail
  refine (count_any _ _ _ _ _ _ (ones_row _)).mono ?_
  rintro e w' ⟨rfl, rfl⟩
  rw [ones_cnt]
  have hb1 := (Below.refl w.heap.size w |>.alloc (Nat.le_refl _) (.cells #[.float .f64 4607182418800017408, .float .f64 4611686018427387904, .float .f64 4607182418800017408] 39))
  have h1 := HR.out.below hb1
  have H1 := Lib.hid h1; clear h1
  have HB1 := Lib.hid hb1; clear hb1
  go_wp2_with (first | (go_at_call 17; refine (count_any _ _ _ _ _ _ H1.out).mono ?_; rintro e w' ⟨rfl, rfl⟩) | (go_at_call 18; refine (times_any _ _ _ _ _ _ H1.out).mono ?_; rintro e w' ⟨rfl, rfl⟩) | (go_at_call 19; refine (most_any _ _ _ _ _ H1.out).mono ?_; rintro e w' ⟨rfl, rfl⟩; rw [HM.out, show max (-1 : Int) 0 = 0 from by omega]))
  go_ret
  exact ⟨rfl, HB1.out⟩

theorem walk_any (a : Option Addr) (len cap : Nat) (zs : List Nat) (x : Nat) (w : World) (h : IsRowF w a len cap zs) :
    Calls Try.prog 7 #[.slice a len cap, .float .f64 x] w fun e w' => e = .returned (.bool true) ∧ Below w.heap.size w w' := by
  by_cases h0 : len = 0
  · subst h0; exact walk_empty a cap zs x w h
  · rcases h with ⟨rfl, rfl⟩ | ⟨b, off, rfl, hlc, hm, hz, hc⟩
    · omega
    · exact walk_row b off len cap zs x w hlc hm hz (by omega) hc
end Go.Proofs.Ytijfkcbhojjgnaa.fanFloats
