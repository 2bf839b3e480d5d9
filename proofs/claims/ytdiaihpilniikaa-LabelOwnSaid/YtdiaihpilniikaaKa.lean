/- The sum of layer 6: contracts. -/
import Derived.Test.YtdiaihpilniikaaKh
import Derived.Test.YtdiaihpilniikaaPf
import Derived.Laws.BitsAllLaws
import Derived.Laws.Shifts
import Derived.IntWalk
namespace Go.Proofs.Ytdiaihpilniikaa
open Go.RowKit Go.Maps

theorem step_any (r : Nat) (hr : r < 4294967296) (w : World) :
    Calls Try.prog 65 #[.int .u32 (r : Int)] w fun e w' => e = .returned (.int .u32 ((stp r : Nat) : Int)) ∧ w = w' := by
  have hlt : r >>> 1 < 4294967296 := by rw [Nat.shiftRight_eq_div_pow]; omega
  have h2 : (r : Int) / (2 : Int) = ((r >>> 1 : Nat) : Int) := by rw [Nat.shiftRight_eq_div_pow]; omega
  have h1 : r % 2 = if r.testBit 0 then 1 else 0 := by
    rw [Nat.testBit_zero]
    rcases Nat.mod_two_eq_zero_or_one r with e | e <;> simp [e]
  cases hb : r.testBit 0 with
  | true =>
    have ha : ((r : Int) % 2 == 1) = true := by rw [hb] at h1; simp only [if_true] at h1; simp; omega
    have hs : stp r = (r >>> 1) ^^^ crcM := by unfold stp; rw [hb]; rfl
    have hxor : bits .xor .u32 ((r : Int) / 2) 2197175160 = ((stp r : Nat) : Int) := by rw [h2, hs]; exact u32_xor_nat (r >>> 1) 2197175160 hlt (by decide)
    have hand : bits .and .u32 (r : Int) 1 = (r : Int) % 2 := by rw [show (1 : Int) = ((1 : Nat) : Int) from rfl, u32_and_nat r 1 hr (by decide), Nat.and_one_is_mod]; rfl
    clear h1 hb h2 hs hlt
    go_enter Try.func65, Try.ntmps65
    go_wp2
    go_ret
    exact ⟨rfl, rfl⟩
  | false =>
    have ha : ((r : Int) % 2 == 1) = false := by rw [hb] at h1; simp at h1; simp; omega
    have hs : ((stp r : Nat) : Int) = (r : Int) / 2 := by rw [h2]; unfold stp; rw [hb]; simp
    have hand : bits .and .u32 (r : Int) 1 = (r : Int) % 2 := by rw [show (1 : Int) = ((1 : Nat) : Int) from rfl, u32_and_nat r 1 hr (by decide), Nat.and_one_is_mod]; rfl
    clear h1 hb h2 hlt
    rw [hs]
    clear hs
    go_enter Try.func65, Try.ntmps65
    go_wp2
    go_ret
    exact ⟨rfl, rfl⟩
/-- The table, its first k entries laid. -/
def halfTab (k : Nat) : Array Value := #[.int .u32 (if 0 < k then (stp4 0 : Nat) else (0 : Nat) : Nat), .int .u32 (if 1 < k then (stp4 1 : Nat) else (0 : Nat) : Nat), .int .u32 (if 2 < k then (stp4 2 : Nat) else (0 : Nat) : Nat), .int .u32 (if 3 < k then (stp4 3 : Nat) else (0 : Nat) : Nat), .int .u32 (if 4 < k then (stp4 4 : Nat) else (0 : Nat) : Nat), .int .u32 (if 5 < k then (stp4 5 : Nat) else (0 : Nat) : Nat), .int .u32 (if 6 < k then (stp4 6 : Nat) else (0 : Nat) : Nat), .int .u32 (if 7 < k then (stp4 7 : Nat) else (0 : Nat) : Nat), .int .u32 (if 8 < k then (stp4 8 : Nat) else (0 : Nat) : Nat), .int .u32 (if 9 < k then (stp4 9 : Nat) else (0 : Nat) : Nat), .int .u32 (if 10 < k then (stp4 10 : Nat) else (0 : Nat) : Nat), .int .u32 (if 11 < k then (stp4 11 : Nat) else (0 : Nat) : Nat), .int .u32 (if 12 < k then (stp4 12 : Nat) else (0 : Nat) : Nat), .int .u32 (if 13 < k then (stp4 13 : Nat) else (0 : Nat) : Nat), .int .u32 (if 14 < k then (stp4 14 : Nat) else (0 : Nat) : Nat), .int .u32 (if 15 < k then (stp4 15 : Nat) else (0 : Nat) : Nat)]
theorem halfTab_set {k : Nat} (hk : k < 16) : (halfTab k).setIfInBounds k (.int .u32 ((stp4 k : Nat) : Int)) = halfTab (k + 1) := by
  match k, hk with
  | 0, _ => rfl
  | 1, _ => rfl
  | 2, _ => rfl
  | 3, _ => rfl
  | 4, _ => rfl
  | 5, _ => rfl
  | 6, _ => rfl
  | 7, _ => rfl
  | 8, _ => rfl
  | 9, _ => rfl
  | 10, _ => rfl
  | 11, _ => rfl
  | 12, _ => rfl
  | 13, _ => rfl
  | 14, _ => rfl
  | 15, _ => rfl
  | _ + 16, h => omega
theorem halves_any (w : World) : Calls Try.prog 60 #[] w fun e w' => e = .returned (.agg (halfTab 16)) ∧ Below w.heap.size w w' := by
  go_enter Try.func60, Try.ntmps60
  go_wp2_with fail
  refine wp_world fun w1 hw1 => ?_
  have HA : Hid (Blk w1 w.heap.size 86 (halfTab 0)) := Lib.hid (by rw [hw1]; exact (Blk.new _ _ _).alloc _)
  have HB : Hid (Blk w1 (w.heap.size + 1) 86 (halfTab 0)) := Lib.hid (by rw [hw1]; have := Blk.new (w.alloc (.cells (halfTab 0) 86)) 86 (halfTab 0); rw [alloc_size] at this; exact this)
  have HW : Hid (Below w.heap.size w w1) := Lib.hid (by rw [hw1]; exact ((Below.refl _ _).alloc (Nat.le_refl _) _).alloc (by simp) _)
  clear hw1
  go_loopw [2, 3] (fun _ s wr => ∃ k : Nat, k ≤ 16 ∧ s = .int .i64 k ∧ Blk wr w.heap.size 86 (halfTab 0) ∧ Blk wr (w.heap.size + 1) 86 (halfTab k) ∧ Below w.heap.size w wr) (fun _ s _ => 16 - (intOf s).toNat)
  case atStart => exact ⟨0, Nat.zero_le _, rfl, HA.out, HB.out, HW.out⟩
  case round =>
    obtain ⟨k, hk, rfl, ha, hb, hw⟩ := hrel
    have HA1 := Lib.hid ha
    have HB1 := Lib.hid hb
    have HW1 := Lib.hid hw
    have hbl : w.heap.size + 1 < wr.heap.size := hb.lt
    clear ha hb hw
    by_cases hlt : k < 16
    · have hk0 : (0 : Int) ≤ (k : Int) := Int.natCast_nonneg _
      have hk1 : (k : Int) < 16 := by omega
      have hkc : (k : Int) % 4294967296 = (k : Int) := by omega
      have yf : ∀ i, wr.frozen? ⟨w.heap.size + 1, i, none⟩ = false := HB1.out.frozen
      obtain ⟨yu, yc⟩ := HB1.out.cellAt (i := k) (show k < (halfTab k).size from hlt)
      go_wp2_with (go_at_call 65; refine (step_any _ (by repeat (first | omega | apply stp_lt)) _).mono ?_; rintro e w' ⟨rfl, rfl⟩)
      go_roundw
      case rel =>
        refine ⟨k + 1, by omega, by go_num, HA1.out.far (by simp) _, ?_, HW1.out.setCell (by simp) _⟩
        have := HB1.out.set_ k (.int .u32 ((stp4 k : Nat) : Int))
        rw [halfTab_set hlt] at this
        exact this
      case measure => simp [intOf]; omega
    · obtain rfl : k = 16 := by omega
      obtain ⟨v0, v1, v2, v3, v4, v5, v6, v7, v8, v9, v10, v11, v12, v13, v14, v15, hv⟩ : ∃ v0 v1 v2 v3 v4 v5 v6 v7 v8 v9 v10 v11 v12 v13 v14 v15 : Int, halfTab 16 = #[.int .u32 v0, .int .u32 v1, .int .u32 v2, .int .u32 v3, .int .u32 v4, .int .u32 v5, .int .u32 v6, .int .u32 v7, .int .u32 v8, .int .u32 v9, .int .u32 v10, .int .u32 v11, .int .u32 v12, .int .u32 v13, .int .u32 v14, .int .u32 v15] := ⟨_, _, _, _, _, _, _, _, _, _, _, _, _, _, _, _, rfl⟩
      have HV := Lib.hid hv
      rw [hv] at HB1
      have HZ : Hid (halfTab 0 = #[.int .u32 0, .int .u32 0, .int .u32 0, .int .u32 0, .int .u32 0, .int .u32 0, .int .u32 0, .int .u32 0, .int .u32 0, .int .u32 0, .int .u32 0, .int .u32 0, .int .u32 0, .int .u32 0, .int .u32 0, .int .u32 0]) := Lib.hid rfl
      rw [HZ.out] at HA1
      have x0 : wr.cell? ⟨w.heap.size, 0, none⟩ = some (.int .u32 0) := HA1.out.cell 0
      have y0 : wr.cell? ⟨w.heap.size + 1, 0, none⟩ = some (.int .u32 v0) := HB1.out.cell 0
      have x1 : wr.cell? ⟨w.heap.size, 1, none⟩ = some (.int .u32 0) := HA1.out.cell 1
      have y1 : wr.cell? ⟨w.heap.size + 1, 1, none⟩ = some (.int .u32 v1) := HB1.out.cell 1
      have x2 : wr.cell? ⟨w.heap.size, 2, none⟩ = some (.int .u32 0) := HA1.out.cell 2
      have y2 : wr.cell? ⟨w.heap.size + 1, 2, none⟩ = some (.int .u32 v2) := HB1.out.cell 2
      have x3 : wr.cell? ⟨w.heap.size, 3, none⟩ = some (.int .u32 0) := HA1.out.cell 3
      have y3 : wr.cell? ⟨w.heap.size + 1, 3, none⟩ = some (.int .u32 v3) := HB1.out.cell 3
      have x4 : wr.cell? ⟨w.heap.size, 4, none⟩ = some (.int .u32 0) := HA1.out.cell 4
      have y4 : wr.cell? ⟨w.heap.size + 1, 4, none⟩ = some (.int .u32 v4) := HB1.out.cell 4
      have x5 : wr.cell? ⟨w.heap.size, 5, none⟩ = some (.int .u32 0) := HA1.out.cell 5
      have y5 : wr.cell? ⟨w.heap.size + 1, 5, none⟩ = some (.int .u32 v5) := HB1.out.cell 5
      have x6 : wr.cell? ⟨w.heap.size, 6, none⟩ = some (.int .u32 0) := HA1.out.cell 6
      have y6 : wr.cell? ⟨w.heap.size + 1, 6, none⟩ = some (.int .u32 v6) := HB1.out.cell 6
      have x7 : wr.cell? ⟨w.heap.size, 7, none⟩ = some (.int .u32 0) := HA1.out.cell 7
      have y7 : wr.cell? ⟨w.heap.size + 1, 7, none⟩ = some (.int .u32 v7) := HB1.out.cell 7
      have x8 : wr.cell? ⟨w.heap.size, 8, none⟩ = some (.int .u32 0) := HA1.out.cell 8
      have y8 : wr.cell? ⟨w.heap.size + 1, 8, none⟩ = some (.int .u32 v8) := HB1.out.cell 8
      have x9 : wr.cell? ⟨w.heap.size, 9, none⟩ = some (.int .u32 0) := HA1.out.cell 9
      have y9 : wr.cell? ⟨w.heap.size + 1, 9, none⟩ = some (.int .u32 v9) := HB1.out.cell 9
      have x10 : wr.cell? ⟨w.heap.size, 10, none⟩ = some (.int .u32 0) := HA1.out.cell 10
      have y10 : wr.cell? ⟨w.heap.size + 1, 10, none⟩ = some (.int .u32 v10) := HB1.out.cell 10
      have x11 : wr.cell? ⟨w.heap.size, 11, none⟩ = some (.int .u32 0) := HA1.out.cell 11
      have y11 : wr.cell? ⟨w.heap.size + 1, 11, none⟩ = some (.int .u32 v11) := HB1.out.cell 11
      have x12 : wr.cell? ⟨w.heap.size, 12, none⟩ = some (.int .u32 0) := HA1.out.cell 12
      have y12 : wr.cell? ⟨w.heap.size + 1, 12, none⟩ = some (.int .u32 v12) := HB1.out.cell 12
      have x13 : wr.cell? ⟨w.heap.size, 13, none⟩ = some (.int .u32 0) := HA1.out.cell 13
      have y13 : wr.cell? ⟨w.heap.size + 1, 13, none⟩ = some (.int .u32 v13) := HB1.out.cell 13
      have x14 : wr.cell? ⟨w.heap.size, 14, none⟩ = some (.int .u32 0) := HA1.out.cell 14
      have y14 : wr.cell? ⟨w.heap.size + 1, 14, none⟩ = some (.int .u32 v14) := HB1.out.cell 14
      have x15 : wr.cell? ⟨w.heap.size, 15, none⟩ = some (.int .u32 0) := HA1.out.cell 15
      have y15 : wr.cell? ⟨w.heap.size + 1, 15, none⟩ = some (.int .u32 v15) := HB1.out.cell 15
      have xf : ∀ i, wr.frozen? ⟨w.heap.size, i, none⟩ = false := HA1.out.frozen
      clear hv
      go_wp2_with fail
      refine bodyPost_ret (v := .agg #[.int .u32 v0, .int .u32 v1, .int .u32 v2, .int .u32 v3, .int .u32 v4, .int .u32 v5, .int .u32 v6, .int .u32 v7, .int .u32 v8, .int .u32 v9, .int .u32 v10, .int .u32 v11, .int .u32 v12, .int .u32 v13, .int .u32 v14, .int .u32 v15]) (by simp only [results, Try.results60]; go_simp) rfl ⟨?_, ?_⟩
      · rw [HV.out]
      · iterate 16 (refine Below.setCell ?_ (by simp) _)
        exact HW1.out
end Go.Proofs.Ytdiaihpilniikaa
