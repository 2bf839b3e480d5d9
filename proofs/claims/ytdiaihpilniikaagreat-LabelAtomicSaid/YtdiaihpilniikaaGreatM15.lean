/- The sum of layer 6: contracts.; The sum of layer 6: contracts of over, More, Sum.; A label as a value; may it be? -/
import Derived.Test.YtdiaihpilniikaaGreatM12
import Derived.Laws.BitsAllLaws
import Derived.Laws.Shifts
import Derived.IntWalk
import Derived.Test.YtdiaihpilniikaaGreatM14
namespace Go.Proofs.YtdiaihpilniikaaGreat
open Go.RowKit Go.Maps

theorem step_any (r : Nat) (hr : r < 4294967296) (w : World) :
    Calls Tryz.prog 103 #[.int .u32 (r : Int)] w fun e w' => e = .returned (.int .u32 ((stp r : Nat) : Int)) ∧ w = w' := by
  have hlt : r >>> 1 < 4294967296 := by rw [Nat.shiftRight_eq_div_pow]; omega
  have h2 : (r : Int) / (2 : Int) = ((r >>> 1 : Nat) : Int) := by rw [Nat.shiftRight_eq_div_pow]; omega
  have h1 : r % 2 = if r.testBit 0 then 1 else 0 := by
    rw [Nat.testBit_zero]
    rcases Nat.mod_two_eq_zero_or_one r with e | e <;> simp [e]
  cases hb : r.testBit 0 with
  | true =>
    have ha : ((r : Int) % 2 == 1) = true := by rw [hb] at h1; simp only [if_true] at h1; simp; omega
    have hs : stp r = (r >>> 1) ^^^ crcM := by unfold stp; rw [hb]; rfl
    have hxor : bits .xor .u32 ((r : Int) / 2) 2197175160 = ((stp r : Nat) : Int) := by rw [h2, hs]; exact u32_xor_nat (r >>> 1) 2197175160 hlt (by decide)
    have hand : bits .and .u32 (r : Int) 1 = (r : Int) % 2 := by rw [show (1 : Int) = ((1 : Nat) : Int) from rfl, u32_and_nat r 1 hr (by decide), Nat.and_one_is_mod]; rfl
    clear h1 hb h2 hs hlt
    go_enter Tryz.func103, Tryz.ntmps103
    go_wp2
    go_ret
    exact ⟨rfl, rfl⟩
  | false =>
    have ha : ((r : Int) % 2 == 1) = false := by rw [hb] at h1; simp at h1; simp; omega
    have hs : ((stp r : Nat) : Int) = (r : Int) / 2 := by rw [h2]; unfold stp; rw [hb]; simp
    have hand : bits .and .u32 (r : Int) 1 = (r : Int) % 2 := by rw [show (1 : Int) = ((1 : Nat) : Int) from rfl, u32_and_nat r 1 hr (by decide), Nat.and_one_is_mod]; rfl
    clear h1 hb h2 hlt
    rw [hs]
    clear hs
    go_enter Tryz.func103, Tryz.ntmps103
    go_wp2
    go_ret
    exact ⟨rfl, rfl⟩
/-- The table, its first k entries laid. -/
def halfTab (k : Nat) : Array Value := #[.int .u32 (if 0 < k then (stp4 0 : Nat) else (0 : Nat) : Nat), .int .u32 (if 1 < k then (stp4 1 : Nat) else (0 : Nat) : Nat), .int .u32 (if 2 < k then (stp4 2 : Nat) else (0 : Nat) : Nat), .int .u32 (if 3 < k then (stp4 3 : Nat) else (0 : Nat) : Nat), .int .u32 (if 4 < k then (stp4 4 : Nat) else (0 : Nat) : Nat), .int .u32 (if 5 < k then (stp4 5 : Nat) else (0 : Nat) : Nat), .int .u32 (if 6 < k then (stp4 6 : Nat) else (0 : Nat) : Nat), .int .u32 (if 7 < k then (stp4 7 : Nat) else (0 : Nat) : Nat), .int .u32 (if 8 < k then (stp4 8 : Nat) else (0 : Nat) : Nat), .int .u32 (if 9 < k then (stp4 9 : Nat) else (0 : Nat) : Nat), .int .u32 (if 10 < k then (stp4 10 : Nat) else (0 : Nat) : Nat), .int .u32 (if 11 < k then (stp4 11 : Nat) else (0 : Nat) : Nat), .int .u32 (if 12 < k then (stp4 12 : Nat) else (0 : Nat) : Nat), .int .u32 (if 13 < k then (stp4 13 : Nat) else (0 : Nat) : Nat), .int .u32 (if 14 < k then (stp4 14 : Nat) else (0 : Nat) : Nat), .int .u32 (if 15 < k then (stp4 15 : Nat) else (0 : Nat) : Nat)]
theorem halfTab_set {k : Nat} (hk : k < 16) : (halfTab k).setIfInBounds k (.int .u32 ((stp4 k : Nat) : Int)) = halfTab (k + 1) := by
  match k, hk with
  | 0, _ => rfl
  | 1, _ => rfl
  | 2, _ => rfl
  | 3, _ => rfl
  | 4, _ => rfl
  | 5, _ => rfl
  | 6, _ => rfl
  | 7, _ => rfl
  | 8, _ => rfl
  | 9, _ => rfl
  | 10, _ => rfl
  | 11, _ => rfl
  | 12, _ => rfl
  | 13, _ => rfl
  | 14, _ => rfl
  | 15, _ => rfl
  | _ + 16, h => omega
theorem halves_any (w : World) : Calls Tryz.prog 92 #[] w fun e w' => e = .returned (.agg (halfTab 16)) ∧ Below w.heap.size w w' := by
  go_enter Tryz.func92, Tryz.ntmps92
  go_wp2_with fail
  refine wp_world fun w1 hw1 => ?_
  have HA : Hid (Blk w1 w.heap.size 144 (halfTab 0)) := Lib.hid (by rw [hw1]; exact (Blk.new _ _ _).alloc _)
  have HB : Hid (Blk w1 (w.heap.size + 1) 144 (halfTab 0)) := Lib.hid (by rw [hw1]; have := Blk.new (w.alloc (.cells (halfTab 0) 144)) 144 (halfTab 0); rw [alloc_size] at this; exact this)
  have HW : Hid (Below w.heap.size w w1) := Lib.hid (by rw [hw1]; exact ((Below.refl _ _).alloc (Nat.le_refl _) _).alloc (by simp) _)
  clear hw1
  go_loopw [2, 3] (fun _ s wr => ∃ k : Nat, k ≤ 16 ∧ s = .int .i64 k ∧ Blk wr w.heap.size 144 (halfTab 0) ∧ Blk wr (w.heap.size + 1) 144 (halfTab k) ∧ Below w.heap.size w wr) (fun _ s _ => 16 - (intOf s).toNat)
  case atStart => exact ⟨0, Nat.zero_le _, rfl, HA.out, HB.out, HW.out⟩
  case round =>
    obtain ⟨k, hk, rfl, ha, hb, hw⟩ := hrel
    have HA1 := Lib.hid ha
    have HB1 := Lib.hid hb
    have HW1 := Lib.hid hw
    have hbl : w.heap.size + 1 < wr.heap.size := hb.lt
    clear ha hb hw
    by_cases hlt : k < 16
    · have hk0 : (0 : Int) ≤ (k : Int) := Int.natCast_nonneg _
      have hk1 : (k : Int) < 16 := by omega
      have hkc : (k : Int) % 4294967296 = (k : Int) := by omega
      have yf : ∀ i, wr.frozen? ⟨w.heap.size + 1, i, none⟩ = false := HB1.out.frozen
      obtain ⟨yu, yc⟩ := HB1.out.cellAt (i := k) (show k < (halfTab k).size from hlt)
      go_wp2_with (go_at_call 103; refine (step_any _ (by repeat (first | omega | apply stp_lt)) _).mono ?_; rintro e w' ⟨rfl, rfl⟩)
      go_roundw
      case rel =>
        refine ⟨k + 1, by omega, by go_num, HA1.out.far (by simp) _, ?_, HW1.out.setCell (by simp) _⟩
        have := HB1.out.set_ k (.int .u32 ((stp4 k : Nat) : Int))
        rw [halfTab_set hlt] at this
        exact this
      case measure => simp [intOf]; omega
    · obtain rfl : k = 16 := by omega
      obtain ⟨v0, v1, v2, v3, v4, v5, v6, v7, v8, v9, v10, v11, v12, v13, v14, v15, hv⟩ : ∃ v0 v1 v2 v3 v4 v5 v6 v7 v8 v9 v10 v11 v12 v13 v14 v15 : Int, halfTab 16 = #[.int .u32 v0, .int .u32 v1, .int .u32 v2, .int .u32 v3, .int .u32 v4, .int .u32 v5, .int .u32 v6, .int .u32 v7, .int .u32 v8, .int .u32 v9, .int .u32 v10, .int .u32 v11, .int .u32 v12, .int .u32 v13, .int .u32 v14, .int .u32 v15] := ⟨_, _, _, _, _, _, _, _, _, _, _, _, _, _, _, _, rfl⟩
      have HV := Lib.hid hv
      rw [hv] at HB1
      have HZ : Hid (halfTab 0 = #[.int .u32 0, .int .u32 0, .int .u32 0, .int .u32 0, .int .u32 0, .int .u32 0, .int .u32 0, .int .u32 0, .int .u32 0, .int .u32 0, .int .u32 0, .int .u32 0, .int .u32 0, .int .u32 0, .int .u32 0, .int .u32 0]) := Lib.hid rfl
      rw [HZ.out] at HA1
      have x0 : wr.cell? ⟨w.heap.size, 0, none⟩ = some (.int .u32 0) := HA1.out.cell 0
      have y0 : wr.cell? ⟨w.heap.size + 1, 0, none⟩ = some (.int .u32 v0) := HB1.out.cell 0
      have x1 : wr.cell? ⟨w.heap.size, 1, none⟩ = some (.int .u32 0) := HA1.out.cell 1
      have y1 : wr.cell? ⟨w.heap.size + 1, 1, none⟩ = some (.int .u32 v1) := HB1.out.cell 1
      have x2 : wr.cell? ⟨w.heap.size, 2, none⟩ = some (.int .u32 0) := HA1.out.cell 2
      have y2 : wr.cell? ⟨w.heap.size + 1, 2, none⟩ = some (.int .u32 v2) := HB1.out.cell 2
      have x3 : wr.cell? ⟨w.heap.size, 3, none⟩ = some (.int .u32 0) := HA1.out.cell 3
      have y3 : wr.cell? ⟨w.heap.size + 1, 3, none⟩ = some (.int .u32 v3) := HB1.out.cell 3
      have x4 : wr.cell? ⟨w.heap.size, 4, none⟩ = some (.int .u32 0) := HA1.out.cell 4
      have y4 : wr.cell? ⟨w.heap.size + 1, 4, none⟩ = some (.int .u32 v4) := HB1.out.cell 4
      have x5 : wr.cell? ⟨w.heap.size, 5, none⟩ = some (.int .u32 0) := HA1.out.cell 5
      have y5 : wr.cell? ⟨w.heap.size + 1, 5, none⟩ = some (.int .u32 v5) := HB1.out.cell 5
      have x6 : wr.cell? ⟨w.heap.size, 6, none⟩ = some (.int .u32 0) := HA1.out.cell 6
      have y6 : wr.cell? ⟨w.heap.size + 1, 6, none⟩ = some (.int .u32 v6) := HB1.out.cell 6
      have x7 : wr.cell? ⟨w.heap.size, 7, none⟩ = some (.int .u32 0) := HA1.out.cell 7
      have y7 : wr.cell? ⟨w.heap.size + 1, 7, none⟩ = some (.int .u32 v7) := HB1.out.cell 7
      have x8 : wr.cell? ⟨w.heap.size, 8, none⟩ = some (.int .u32 0) := HA1.out.cell 8
      have y8 : wr.cell? ⟨w.heap.size + 1, 8, none⟩ = some (.int .u32 v8) := HB1.out.cell 8
      have x9 : wr.cell? ⟨w.heap.size, 9, none⟩ = some (.int .u32 0) := HA1.out.cell 9
      have y9 : wr.cell? ⟨w.heap.size + 1, 9, none⟩ = some (.int .u32 v9) := HB1.out.cell 9
      have x10 : wr.cell? ⟨w.heap.size, 10, none⟩ = some (.int .u32 0) := HA1.out.cell 10
      have y10 : wr.cell? ⟨w.heap.size + 1, 10, none⟩ = some (.int .u32 v10) := HB1.out.cell 10
      have x11 : wr.cell? ⟨w.heap.size, 11, none⟩ = some (.int .u32 0) := HA1.out.cell 11
      have y11 : wr.cell? ⟨w.heap.size + 1, 11, none⟩ = some (.int .u32 v11) := HB1.out.cell 11
      have x12 : wr.cell? ⟨w.heap.size, 12, none⟩ = some (.int .u32 0) := HA1.out.cell 12
      have y12 : wr.cell? ⟨w.heap.size + 1, 12, none⟩ = some (.int .u32 v12) := HB1.out.cell 12
      have x13 : wr.cell? ⟨w.heap.size, 13, none⟩ = some (.int .u32 0) := HA1.out.cell 13
      have y13 : wr.cell? ⟨w.heap.size + 1, 13, none⟩ = some (.int .u32 v13) := HB1.out.cell 13
      have x14 : wr.cell? ⟨w.heap.size, 14, none⟩ = some (.int .u32 0) := HA1.out.cell 14
      have y14 : wr.cell? ⟨w.heap.size + 1, 14, none⟩ = some (.int .u32 v14) := HB1.out.cell 14
      have x15 : wr.cell? ⟨w.heap.size, 15, none⟩ = some (.int .u32 0) := HA1.out.cell 15
      have y15 : wr.cell? ⟨w.heap.size + 1, 15, none⟩ = some (.int .u32 v15) := HB1.out.cell 15
      have xf : ∀ i, wr.frozen? ⟨w.heap.size, i, none⟩ = false := HA1.out.frozen
      clear hv
      go_wp2_with fail
      refine bodyPost_ret (v := .agg #[.int .u32 v0, .int .u32 v1, .int .u32 v2, .int .u32 v3, .int .u32 v4, .int .u32 v5, .int .u32 v6, .int .u32 v7, .int .u32 v8, .int .u32 v9, .int .u32 v10, .int .u32 v11, .int .u32 v12, .int .u32 v13, .int .u32 v14, .int .u32 v15]) (by simp only [results, Tryz.results92]; go_simp) rfl ⟨?_, ?_⟩
      · rw [HV.out]
      · iterate 16 (refine Below.setCell ?_ (by simp) _)
        exact HW1.out
end Go.Proofs.YtdiaihpilniikaaGreat
namespace Go.Proofs.YtdiaihpilniikaaGreat
open Go.RowKit Go.Maps

theorem halfTab_get {j : Nat} (h : j < 16) : (halfTab 16)[j]? = some (.int .u32 ((stp4 j : Nat) : Int)) := by
  match j, h with
  | 0, _ => rfl
  | 1, _ => rfl
  | 2, _ => rfl
  | 3, _ => rfl
  | 4, _ => rfl
  | 5, _ => rfl
  | 6, _ => rfl
  | 7, _ => rfl
  | 8, _ => rfl
  | 9, _ => rfl
  | 10, _ => rfl
  | 11, _ => rfl
  | 12, _ => rfl
  | 13, _ => rfl
  | 14, _ => rfl
  | 15, _ => rfl
  | _ + 16, h => omega
theorem nib_facts (r : Nat) (hr : r < 4294967296) : ∃ j : Nat, j < 16 ∧ bits .and .u32 (r : Int) (15 : Int) = (j : Int) ∧ bits .xor .u32 ((r : Int) / (16 : Int)) ((stp4 j : Nat) : Int) = ((nib r : Nat) : Int) := by
  refine ⟨r &&& 15, Nat.lt_of_le_of_lt Nat.and_le_right (by decide), ?_, ?_⟩
  · exact u32_and_nat r 15 hr (by decide)
  · have h : (r : Int) / (16 : Int) = ((r >>> 4 : Nat) : Int) := by rw [Nat.shiftRight_eq_div_pow]; omega
    rw [h]
    exact u32_xor_nat (r >>> 4) (stp4 (r &&& 15)) (by rw [Nat.shiftRight_eq_div_pow]; omega) (stp4_lt (Nat.lt_of_le_of_lt Nat.and_le_right (by decide)))

theorem over_any (r : Nat) (hr : r < 4294967296) (A : Option Addr) (n c : Nat) (bs : List UInt8) (w : World) (B : Nat) (hx : Reads w B 1 A n (bs.map B8)) (hB : B ≤ w.heap.size) (hbig : n ≤ 140737488355328) :
    Calls Tryz.prog 87 #[.int .u32 (r : Int), .slice A n c] w fun e w' => e = .returned (.int .u32 ((over r bs : Nat) : Int)) ∧ Below w.heap.size w w' := by
  have HX := Lib.hid hx
  have hlen : bs.length = n := by have := hx.1; simpa using this
  clear hx
  go_enter Tryz.func87, Tryz.ntmps87
  go_wp2_with fail
  refine (halves_any w).mono ?_
  rintro e w1 ⟨rfl, hb1⟩
  have HB1 := Lib.hid hb1
  have hs1 := hb1.size
  obtain ⟨v0, v1, v2, v3, v4, v5, v6, v7, v8, v9, v10, v11, v12, v13, v14, v15, hv⟩ : ∃ v0 v1 v2 v3 v4 v5 v6 v7 v8 v9 v10 v11 v12 v13 v14 v15 : Int, halfTab 16 = #[.int .u32 v0, .int .u32 v1, .int .u32 v2, .int .u32 v3, .int .u32 v4, .int .u32 v5, .int .u32 v6, .int .u32 v7, .int .u32 v8, .int .u32 v9, .int .u32 v10, .int .u32 v11, .int .u32 v12, .int .u32 v13, .int .u32 v14, .int .u32 v15] := ⟨_, _, _, _, _, _, _, _, _, _, _, _, _, _, _, _, rfl⟩
  have HV := Lib.hid hv
  rw [hv]
  clear hb1 hv
  go_wp2_with fail
  refine wp_world fun W hW => ?_
  rw [← HV.out] at hW
  have HT : Hid (∀ j, j < 16 → W.cell? ⟨w1.heap.size, j, none⟩ = some (.int .u32 ((stp4 j : Nat) : Int))) := Lib.hid fun j hj => by
    rw [hW]; exact ((Blk.new w1 _ (halfTab 16)).cell j).trans (halfTab_get hj)
  have HW : Hid (Below w.heap.size w W) := Lib.hid (by rw [hW]; exact HB1.out.alloc hs1 _)
  have HR : Hid (Reads W B 1 A n (bs.map B8)) := Lib.hid (HX.out.below (HW.out.mono hB))
  clear hW
  go_loopw [0, 7, 11] (fun s0 _ s11 wr => ∃ k : Nat, k ≤ n ∧ s0 = .int .u32 ((over r (bs.take k) : Nat) : Int) ∧ s11 = .int .i64 k ∧ wr = W) (fun _ _ s _ => n - (intOf s).toNat)
  case atStart => exact ⟨0, Nat.zero_le _, by rw [List.take_zero]; rfl, rfl, rfl⟩
  case round =>
    obtain ⟨k, hk, rfl, rfl, rfl⟩ := hrel
    have hk0 : (0 : Int) ≤ (k : Int) := Int.natCast_nonneg _
    by_cases hlt : k < n
    · have hk1 : (k : Int) < (n : Int) := by omega
      obtain ⟨ad, u, rfl, _, hu, hc⟩ := HR.out.at_ hlt
      obtain ⟨x, hx⟩ : ∃ x, bs[k]? = some x := ⟨_, List.getElem?_eq_getElem (by omega)⟩
      have hue : u = .int .u8 (x.toNat : Int) := by
        rw [List.getElem?_map, hx] at hu; exact (Option.some.inj hu).symm
      subst hue
      obtain ⟨q, hq⟩ : ∃ q, q = over r (bs.take k) := ⟨_, rfl⟩
      have hql : q < 4294967296 := by rw [hq]; exact over_lt hr _
      obtain ⟨y, hy⟩ : ∃ y : Nat, y = x.toNat := ⟨_, rfl⟩
      have hy2 : y < 256 := by rw [hy]; exact x.toNat_lt
      have HN : Hid (over r (bs.take (k + 1)) = upd q y) := Lib.hid (by
        rw [List.take_add_one, hx, over_append, hq, hy]; rfl)
      rw [← hy] at hc
      rw [← hq]
      obtain ⟨r1, hr1⟩ : ∃ r1, r1 = q ^^^ y := ⟨_, rfl⟩
      have hr1l : r1 < 4294967296 := by rw [hr1]; exact Nat.xor_lt_two_pow (n := 32) hql (by omega)
      have hx1 : bits .xor .u32 (q : Int) (y : Int) = (r1 : Int) := by rw [hr1]; exact u32_xor_nat q y hql (by omega)
      obtain ⟨r2, hr2⟩ : ∃ r2, r2 = nib r1 := ⟨_, rfl⟩
      obtain ⟨r3, hr3⟩ : ∃ r3, r3 = nib r2 := ⟨_, rfl⟩
      have hr2l : r2 < 4294967296 := by rw [hr2]; exact nib_lt hr1l
      obtain ⟨j1, hj1, ha1, hb1⟩ := nib_facts r1 hr1l
      obtain ⟨j2, hj2, ha2, hb2⟩ := nib_facts r2 hr2l
      have hc1 := HT.out j1 hj1
      have hc2 := HT.out j2 hj2
      rw [← hr2] at hb1
      rw [← hr3] at hb2
      have HN3 : Hid (upd q y = r3) := Lib.hid (by rw [hr3, hr2, hr1]; rfl)
      have hyc : (y : Int) % 4294967296 = (y : Int) := by omega
      obtain ⟨z1, hz1⟩ : ∃ z, z = stp4 j1 := ⟨_, rfl⟩
      obtain ⟨z2, hz2⟩ : ∃ z, z = stp4 j2 := ⟨_, rfl⟩
      rw [← hz1] at hb1 hc1
      rw [← hz2] at hb2 hc2
      have hj1' : (j1 : Int) < 16 := by omega
      have hj2' : (j2 : Int) < 16 := by omega
      have hj10 : (0 : Int) ≤ (j1 : Int) := Int.natCast_nonneg _
      have hj20 : (0 : Int) ≤ (j2 : Int) := Int.natCast_nonneg _
      clear hq hy hx hr1 hr2 hr3 hz1 hz2 hu
      go_wp2
      go_roundw
      case rel => exact ⟨k + 1, by omega, by rw [HN.out, HN3.out], by go_num, trivial⟩
      case measure => simp [intOf]; omega
    · have hkn : k = n := by omega
      have HE : Hid (over r (bs.take k) = over r bs) := Lib.hid (by rw [hkn, ← hlen, List.take_length])
      rw [HE.out]
      go_wp2
      go_ret
      exact ⟨rfl, HW.out⟩
theorem not_u32 (r : Nat) (hr : r < 4294967296) : bits .xor .u32 (4294967295 : Int) (r : Int) = ((r ^^^ 4294967295 : Nat) : Int) := by
  rw [Nat.xor_comm]; exact u32_xor_nat 4294967295 r (by decide) hr
theorem more_any (s : Nat) (hs : s < 4294967296) (A : Option Addr) (n c : Nat) (bs : List UInt8) (w : World) (B : Nat) (hx : Reads w B 1 A n (bs.map B8)) (hB : B ≤ w.heap.size) (hbig : n ≤ 140737488355328) :
    Calls Tryz.prog 70 #[.int .u32 (s : Int), .slice A n c] w fun e w' => e = .returned (.int .u32 ((over (s ^^^ 4294967295) bs ^^^ 4294967295 : Nat) : Int)) ∧ Below w.heap.size w w' := by
  have hr : s ^^^ 4294967295 < 4294967296 := Nat.xor_lt_two_pow (n := 32) hs (by decide)
  obtain ⟨r, hre⟩ : ∃ r, r = s ^^^ 4294967295 := ⟨_, rfl⟩
  rw [← hre] at hr ⊢
  obtain ⟨t, hte⟩ : ∃ t, t = over r bs := ⟨_, rfl⟩
  have ht : t < 4294967296 := by rw [hte]; exact over_lt hr _
  have h1 : bits .xor .u32 IntKind.u32.max (s : Int) = (r : Int) := by rw [hre]; exact not_u32 s hs
  have h2 : bits .xor .u32 IntKind.u32.max (t : Int) = ((t ^^^ 4294967295 : Nat) : Int) := not_u32 t ht
  have hsg : IntKind.u32.signed = false := rfl
  obtain ⟨u, hue⟩ : ∃ u, u = t ^^^ 4294967295 := ⟨_, rfl⟩
  rw [← hue] at h2
  have HO := Lib.hid (over_any r hr A n c bs w B hx hB hbig)
  rw [← hte] at HO ⊢
  rw [← hue]
  clear hx hre hte hue
  go_enter Tryz.func70, Tryz.ntmps70
  go_wp2_with (go_at_call 87; refine HO.out.mono ?_; rintro e w1 ⟨rfl, hb1⟩; have HB1 := Lib.hid hb1; clear hb1)
  go_ret
  exact ⟨rfl, HB1.out⟩
theorem sum_any (A : Option Addr) (n c : Nat) (bs : List UInt8) (w : World) (B : Nat) (hx : Reads w B 1 A n (bs.map B8)) (hB : B ≤ w.heap.size) (hbig : n ≤ 140737488355328) :
    Calls Tryz.prog 57 #[.slice A n c] w fun e w' => e = .returned (.int .u32 ((crcSum bs : Nat) : Int)) ∧ Below w.heap.size w w' := by
  have HO := Lib.hid (more_any 0 (by decide) A n c bs w B hx hB hbig)
  rw [show over (0 ^^^ 4294967295) bs ^^^ 4294967295 = crcSum bs by rw [Nat.zero_xor]; rfl] at HO
  obtain ⟨t, hte⟩ : ∃ t, t = crcSum bs := ⟨_, rfl⟩
  rw [← hte] at HO ⊢
  clear hx hte
  go_enter Tryz.func57, Tryz.ntmps57
  go_wp2_with (go_at_call 70; refine HO.out.mono ?_; rintro e w1 ⟨rfl, hb1⟩; have HB1 := Lib.hid hb1; clear hb1)
  go_ret
  exact ⟨rfl, HB1.out⟩
end Go.Proofs.YtdiaihpilniikaaGreat
namespace Go.Proofs.YtdiaihpilniikaaGreat
open Go.RowKit Go.Maps

/-- A label as a value. -/
def labCells (l : Lab) : Array Value := (l.st.map B8 ++ ([.int .i64 l.k, .int .i64 l.m, .int .i64 l.b, .int .i64 l.i, .int .i64 l.e] : List Value)).toArray
def labV (l : Lab) : Value := .agg (labCells l)
/-- A label's fields, as a Go value may hold them. -/
structure Lab.Wf (l : Lab) : Prop where
  st : l.st.length = 8
  k : -9223372036854775808 ≤ l.k ∧ l.k ≤ 9223372036854775807
  m : -9223372036854775808 ≤ l.m ∧ l.m ≤ 9223372036854775807

set_option maxRecDepth 100000 in
set_option maxHeartbeats 4000000 in
theorem check_any (l : Lab) (hl : l.Wf) (w : World) : Calls Tryz.prog 53 #[labV l] w fun e w' => e = .returned (.int .i64 l.may) ∧ Below w.heap.size w w' := by
  obtain ⟨a0, a1, a2, a3, a4, a5, a6, a7, hst⟩ := lab_eight hl.st
  have hk := hl.k
  have hm := hl.m
  obtain ⟨st, k, m, b, i, e⟩ := l
  simp only at hst hk hm
  subst hst
  clear hl
  unfold labV labCells
  simp only [List.map_cons, List.map_nil, List.cons_append, List.nil_append]
  unfold B8
  by_cases g1 : m < 1 ∨ k < m ∨ 255 - m < k ∨ b < 1 ∨ 65536 < b
  · have hmay : Lab.may ⟨[a0, a1, a2, a3, a4, a5, a6, a7], k, m, b, i, e⟩ = 4 := if_pos g1
    rw [hmay]
    clear hmay
    rcases (show m < 1 ∨ (¬m < 1 ∧ k < m) ∨ (¬m < 1 ∧ ¬k < m ∧ 255 - m < k) ∨ (¬m < 1 ∧ ¬k < m ∧ ¬255 - m < k ∧ b < 1) ∨ (¬m < 1 ∧ ¬k < m ∧ ¬255 - m < k ∧ ¬b < 1 ∧ 65536 < b) by omega) with h1 | ⟨h1, h2⟩ | ⟨h1, h2, h3⟩ | ⟨h1, h2, h3, h4⟩ | ⟨h1, h2, h3, h4, h5⟩
    · clear g1
      go_enter Tryz.func53, Tryz.ntmps53
      go_wp2
      go_ret
      exact ⟨rfl, ((Below.refl _ w).alloc (Nat.le_refl _) _).alloc (by simp) _⟩
    · clear g1
      go_enter Tryz.func53, Tryz.ntmps53
      go_wp2
      go_ret
      exact ⟨rfl, ((Below.refl _ w).alloc (Nat.le_refl _) _).alloc (by simp) _⟩
    · clear g1
      have hw : wrap64 (255 - m) = 255 - m := IntWalk.wrap64_in _ (by omega)
      go_enter Tryz.func53, Tryz.ntmps53
      go_wp2
      go_ret
      exact ⟨rfl, ((Below.refl _ w).alloc (Nat.le_refl _) _).alloc (by simp) _⟩
    · clear g1
      have hw : wrap64 (255 - m) = 255 - m := IntWalk.wrap64_in _ (by omega)
      go_enter Tryz.func53, Tryz.ntmps53
      go_wp2
      go_ret
      exact ⟨rfl, ((Below.refl _ w).alloc (Nat.le_refl _) _).alloc (by simp) _⟩
    · clear g1
      have hw : wrap64 (255 - m) = 255 - m := IntWalk.wrap64_in _ (by omega)
      go_enter Tryz.func53, Tryz.ntmps53
      go_wp2
      go_ret
      exact ⟨rfl, ((Below.refl _ w).alloc (Nat.le_refl _) _).alloc (by simp) _⟩
  · have hs : 1 ≤ m ∧ m ≤ k ∧ k ≤ 255 - m ∧ 1 ≤ b ∧ b ≤ 65536 := by omega
    have h1 : ¬m < 1 := by omega
    have h2 : ¬k < m := by omega
    have h3 : ¬255 - m < k := by omega
    have h4 : ¬b < 1 := by omega
    have h5 : ¬65536 < b := by omega
    have hw : wrap64 (255 - m) = 255 - m := IntWalk.wrap64_in _ (by omega)
    have hv : wrap64 (k + m) = k + m := IntWalk.wrap64_in _ (by omega)
    by_cases g2 : i < 0 ∨ k + m ≤ i ∨ e < 0 ∨ 4294967295 < e
    · have hmay : Lab.may ⟨[a0, a1, a2, a3, a4, a5, a6, a7], k, m, b, i, e⟩ = 2 := (if_neg g1).trans (if_pos g2)
      rw [hmay]
      clear hmay g1 hs hk hm
      rcases (show i < 0 ∨ (¬i < 0 ∧ k + m ≤ i) ∨ (¬i < 0 ∧ ¬k + m ≤ i ∧ e < 0) ∨ (¬i < 0 ∧ ¬k + m ≤ i ∧ ¬e < 0 ∧ 4294967295 < e) by omega) with h6 | ⟨h6, h7⟩ | ⟨h6, h7, h8⟩ | ⟨h6, h7, h8, h9⟩
      · clear g2
        go_enter Tryz.func53, Tryz.ntmps53
        go_wp2
        go_ret
        exact ⟨rfl, ((Below.refl _ w).alloc (Nat.le_refl _) _).alloc (by simp) _⟩
      · clear g2
        go_enter Tryz.func53, Tryz.ntmps53
        go_wp2
        go_ret
        exact ⟨rfl, ((Below.refl _ w).alloc (Nat.le_refl _) _).alloc (by simp) _⟩
      · clear g2
        go_enter Tryz.func53, Tryz.ntmps53
        go_wp2
        go_ret
        exact ⟨rfl, ((Below.refl _ w).alloc (Nat.le_refl _) _).alloc (by simp) _⟩
      · clear g2
        go_enter Tryz.func53, Tryz.ntmps53
        go_wp2
        go_ret
        exact ⟨rfl, ((Below.refl _ w).alloc (Nat.le_refl _) _).alloc (by simp) _⟩
    · have hmay : Lab.may ⟨[a0, a1, a2, a3, a4, a5, a6, a7], k, m, b, i, e⟩ = 0 := (if_neg g1).trans (if_neg g2)
      rw [hmay]
      have h6 : ¬i < 0 := by omega
      have h7 : ¬k + m ≤ i := by omega
      have h8 : ¬e < 0 := by omega
      have h9 : ¬4294967295 < e := by omega
      clear hmay g1 g2 hs hk hm
      go_enter Tryz.func53, Tryz.ntmps53
      go_wp2
      go_ret
      exact ⟨rfl, ((Below.refl _ w).alloc (Nat.le_refl _) _).alloc (by simp) _⟩

theorem magic_any (w : World) : Calls Tryz.prog 54 #[] w fun e w' => e = .returned (.agg #[.int .u8 67, .int .u8 82, .int .u8 78, .int .u8 1]) ∧ Below w.heap.size w w' := by
  go_enter Tryz.func54, Tryz.ntmps54
  go_wp2
  refine bodyPost_ret (v := .agg #[.int .u8 67, .int .u8 82, .int .u8 78, .int .u8 1]) (by simp only [results, Tryz.results54]; go_simp) rfl ⟨rfl, ?_⟩
  exact (Below.refl _ w).alloc (Nat.le_refl _) _
end Go.Proofs.YtdiaihpilniikaaGreat
