/- frame.Check.; frame.lengths: the blocks' lengths.; Values of several cells: read out of a block in one step, written over a whole block in one step; their cells stay out of the walk. -/
import Derived.Test.YtcbebefdbdppdaaGreatM15
import Derived.Laws.MakeOwn
import Derived.Test.YtcbebefdbdppdaaGreatM2
import Derived.Laws.CopyRow
namespace Go.Proofs.YtcbebefdbdppdaaGreat
open Go.RowKit Go.Maps
theorem size_toBA (l : List UInt8) : (ByteArray.mk l.toArray).size = l.length := List.size_toArray
set_option maxRecDepth 100000 in
set_option maxHeartbeats 4000000 in
theorem fcheck_any (h : Hd) (hw : h.Wf) (w : World) : Calls Tryz.prog 116 #[hdV h] w fun e w' => e = .returned (.int .i64 h.may) ∧ Below w.heap.size w w' := by
  obtain ⟨a0, a1, a2, a3, a4, a5, a6, a7, hst⟩ := lab_eight hw.st
  have hE : h.may = if Hd.shapeOk h.k h.m h.b = false then 4 else if h.key.length = 0 ∨ 255 < h.key.length then 90 else if Hd.fitsE h.k h.b h.size ≠ 0 then Hd.fitsE h.k h.b h.size else if h.idx < 0 ∨ h.k + h.m ≤ h.idx then 2 else if h.ep < 1 ∨ 4294967295 < h.ep ∨ h.cn < 1 ∨ 4294967295 < h.cn then 2 else 0 := rfl
  rw [hE]
  obtain ⟨st, k, m, b, key, size, idx, ep, cn⟩ := h
  simp only at hst hE ⊢
  subst hst
  clear hE hw
  unfold hdV hdCells strV
  simp only [List.map_cons, List.map_nil, List.cons_append, List.nil_append]
  unfold B8
  obtain ⟨s, hs⟩ : ∃ s : ByteArray, s = ⟨key.toArray⟩ := ⟨_, rfl⟩
  have hsz : s.size = key.length := by rw [hs]; exact size_toBA key
  rw [← hs, ← hsz]
  clear hs hsz
  have HF := Lib.hid (fun h W => ffits_any k m b size h W)
  obtain ⟨R, hR⟩ : ∃ R, R = if Hd.shapeOk k m b = false then (4 : Int) else if s.size = 0 ∨ 255 < s.size then 90 else if Hd.fitsE k b size ≠ 0 then Hd.fitsE k b size else if idx < 0 ∨ k + m ≤ idx then 2 else if ep < 1 ∨ 4294967295 < ep ∨ cn < 1 ∨ 4294967295 < cn then 2 else 0 := ⟨_, rfl⟩
  rw [← hR]
  have HR := Lib.hid hR
  clear hR
  go_enter Tryz.func116, Tryz.ntmps116
  go_wp2_with fail
  refine (fmay_any k m b _).mono ?_
  rintro e w1 ⟨rfl, hb1⟩
  have K1 := Lib.hid ((Blk.new w 28 #[.int .u8 (a0.toNat : Int), .int .u8 (a1.toNat : Int), .int .u8 (a2.toNat : Int), .int .u8 (a3.toNat : Int), .int .u8 (a4.toNat : Int), .int .u8 (a5.toNat : Int), .int .u8 (a6.toNat : Int), .int .u8 (a7.toNat : Int), .int .i64 k, .int .i64 m, .int .i64 b, .string s, .int .i64 size, .int .i64 idx, .int .i64 ep, .int .i64 cn]).below hb1 (by rw [alloc_size]; omega))
  have HB1 : Hid (Below w.heap.size w w1) := Lib.hid (((Below.refl _ w).alloc (Nat.le_refl _) _).trans (hb1.mono (by rw [alloc_size]; omega)))
  clear hb1
  by_cases g1 : Hd.shapeOk k m b = false
  · obtain rfl : R = 4 := HR.out.trans (if_pos g1)
    rw [g1]
    go_wp2
    go_ret
    exact ⟨rfl, HB1.out⟩
  · replace HR := Lib.hid (HR.out.trans (if_neg g1))
    have g1' : Hd.shapeOk k m b = true := by simpa using g1
    rw [g1']
    have y8 : w1.cell? ⟨w.heap.size, 8, none⟩ = some (.int .i64 k) := K1.out.cell 8
    have y9 : w1.cell? ⟨w.heap.size, 9, none⟩ = some (.int .i64 m) := K1.out.cell 9
    have y10 : w1.cell? ⟨w.heap.size, 10, none⟩ = some (.int .i64 b) := K1.out.cell 10
    have y11 : w1.cell? ⟨w.heap.size, 11, none⟩ = some (.string s) := K1.out.cell 11
    have y12 : w1.cell? ⟨w.heap.size, 12, none⟩ = some (.int .i64 size) := K1.out.cell 12
    by_cases g2 : s.size = 0 ∨ 255 < s.size
    · obtain rfl : R = 90 := HR.out.trans (if_pos g2)
      rcases (show s.size = 0 ∨ (¬ s.size = 0 ∧ 255 < s.size) by omega) with q1 | ⟨q1, q2⟩
      · have t1 : ((s.size : Int) == 0) = true := beq_iff_eq.2 (by omega)
        clear g2 g1
        go_wp2
        go_ret
        exact ⟨rfl, HB1.out⟩
      · have t1 : ((s.size : Int) == 0) = false := beq_eq_false_iff_ne.2 (by omega)
        have t2 : (255 : Int) < (s.size : Int) := by omega
        clear g2 g1
        go_wp2
        go_ret
        exact ⟨rfl, HB1.out⟩
    · replace HR := Lib.hid (HR.out.trans (if_neg g2))
      have t1 : ((s.size : Int) == 0) = false := beq_eq_false_iff_ne.2 (by omega)
      have t2 : ¬ (255 : Int) < (s.size : Int) := by omega
      go_wp2_with fail
      refine (HF.out g1' _).mono ?_
      rintro e w2 ⟨rfl, hb2⟩
      have K2 := Lib.hid (K1.out.below hb2 K1.out.lt)
      have HB2 : Hid (Below w.heap.size w w2) := Lib.hid (HB1.out.trans (hb2.mono HB1.out.size))
      clear hb2 y8 y9 y10 y11 y12
      by_cases g3 : Hd.fitsE k b size ≠ 0
      · obtain rfl : R = Hd.fitsE k b size := HR.out.trans (if_pos g3)
        have t3 : (Hd.fitsE k b size == 0) = false := beq_eq_false_iff_ne.2 (by omega)
        clear g1 g2
        go_wp2
        go_ret
        exact ⟨rfl, HB2.out⟩
      · replace HR := Lib.hid (HR.out.trans (if_neg g3))
        rw [show Hd.fitsE k b size = 0 by omega]
        have z8 : w2.cell? ⟨w.heap.size, 8, none⟩ = some (.int .i64 k) := K2.out.cell 8
        have z9 : w2.cell? ⟨w.heap.size, 9, none⟩ = some (.int .i64 m) := K2.out.cell 9
        have z13 : w2.cell? ⟨w.heap.size, 13, none⟩ = some (.int .i64 idx) := K2.out.cell 13
        have z14 : w2.cell? ⟨w.heap.size, 14, none⟩ = some (.int .i64 ep) := K2.out.cell 14
        have z15 : w2.cell? ⟨w.heap.size, 15, none⟩ = some (.int .i64 cn) := K2.out.cell 15
        obtain ⟨q1, q2, q3, q4, q5, q6⟩ := of_decide_eq_true g1'
        have hkm : wrap64 (k + m) = k + m := IntWalk.wrap64_in _ (by omega)
        clear g1 g2 g3 q3 q5 q6
        by_cases g4 : idx < 0 ∨ k + m ≤ idx
        · obtain rfl : R = 2 := HR.out.trans (if_pos g4)
          rcases (show idx < 0 ∨ (¬ idx < 0 ∧ k + m ≤ idx) by omega) with p1 | ⟨p1, p2⟩
          · clear g4
            go_wp2
            go_ret
            exact ⟨rfl, HB2.out⟩
          · clear g4
            go_wp2
            go_ret
            exact ⟨rfl, HB2.out⟩
        · replace HR := Lib.hid (HR.out.trans (if_neg g4))
          have p1 : ¬ idx < 0 := by omega
          have p2 : ¬ k + m ≤ idx := by omega
          clear g4
          by_cases g5 : ep < 1 ∨ 4294967295 < ep ∨ cn < 1 ∨ 4294967295 < cn
          · obtain rfl : R = 2 := HR.out.trans (if_pos g5)
            rcases (show ep < 1 ∨ (¬ep < 1 ∧ 4294967295 < ep) ∨ (¬ep < 1 ∧ ¬4294967295 < ep ∧ cn < 1) ∨ (¬ep < 1 ∧ ¬4294967295 < ep ∧ ¬cn < 1 ∧ 4294967295 < cn) by omega) with r1 | ⟨r1, r2⟩ | ⟨r1, r2, r3⟩ | ⟨r1, r2, r3, r4⟩
            · clear g5
              go_wp2
              go_ret
              exact ⟨rfl, HB2.out⟩
            · clear g5
              go_wp2
              go_ret
              exact ⟨rfl, HB2.out⟩
            · clear g5
              go_wp2
              go_ret
              exact ⟨rfl, HB2.out⟩
            · clear g5
              go_wp2
              go_ret
              exact ⟨rfl, HB2.out⟩
          · obtain rfl : R = 0 := HR.out.trans (if_neg g5)
            have r1 : ¬ep < 1 := by omega
            have r2 : ¬4294967295 < ep := by omega
            have r3 : ¬cn < 1 := by omega
            have r4 : ¬4294967295 < cn := by omega
            clear g5
            go_wp2
            go_ret
            exact ⟨rfl, HB2.out⟩
end Go.Proofs.YtcbebefdbdppdaaGreat
namespace Go.Proofs.YtcbebefdbdppdaaGreat
open Go.RowKit Go.Maps
def lenV (i : Nat) : Value := .int .i64 (i : Int)
theorem intInfoB : (Tryz.prog.info? 3).map (fun i => (i.zero, i.size, i.bytes)) = some (some (.int .i64 0), 1, 8) := by kernel_rfl
def Fill (w wr : World) (n B k : Nat) : Prop :=
  ∃ xs, wr.ownsRow w.heap.size 3 1 (.slice (some ⟨w.heap.size + 1, 0, none⟩) n n) n xs ∧ (∀ j, j < k → xs[j]? = some (lenV B)) ∧ Below w.heap.size w wr
theorem Fill.next {w wr : World} {n B k : Nat} (h : Fill w wr n B k) (hk : k < n) : Fill w (wr.setCell ⟨w.heap.size + 1, k, none⟩ (.int .i64 (B : Int))) n B (k + 1) := by
  obtain ⟨xs, hr, hx, hb⟩ := h
  have hlen : xs.length = n := by have := hr.1; simpa using this
  refine ⟨xs.set k (lenV B), (hr.stored k _).1, fun j hj => ?_, hb.setCell (p := ⟨w.heap.size + 1, k, none⟩) (by show w.heap.size ≤ w.heap.size + 1; omega) _⟩
  by_cases hjk : j = k
  · subst hjk; exact List.getElem?_set_self (by omega)
  · rw [List.getElem?_set_ne (Ne.symm hjk)]; exact hx j (by omega)
theorem Fill.cell {w wr : World} {n B k j : Nat} (h : Fill w wr n B k) (hj : j < n) : ∃ u, wr.cell? ⟨w.heap.size + 1, j, none⟩ = some u := by
  obtain ⟨xs, hr, _, _⟩ := h
  have hlen : xs.length = n := by have := hr.1; simpa using this
  exact ⟨xs[j], (hr.cellAt j (by omega)).trans (List.getElem?_eq_getElem (by omega))⟩
theorem Fill.frozen {w wr : World} {n B k : Nat} (h : Fill w wr n B k) (j : Nat) : wr.frozen? ⟨w.heap.size + 1, j, none⟩ = false := by
  obtain ⟨xs, hr, _, _⟩ := h
  exact hr.frozenAt j
theorem Fill.full {w wr : World} {n B : Nat} (h : Fill w wr n B n) : wr.ownsRow w.heap.size 3 1 (.slice (some ⟨w.heap.size + 1, 0, none⟩) n n) n ((List.replicate n B).map lenV) ∧ Below w.heap.size w wr := by
  obtain ⟨xs, hr, hx, hb⟩ := h
  have hlen : xs.length = n := by have := hr.1; simpa using this
  refine ⟨?_, hb⟩
  rwa [show xs = (List.replicate n B).map lenV from List.ext_getElem? fun j => by
    by_cases hj : j < n
    · rw [hx j hj, List.getElem?_map, List.getElem?_replicate_of_lt hj]; rfl
    · rw [List.getElem?_eq_none (by omega), List.getElem?_eq_none (by rw [List.length_map, List.length_replicate]; omega)]] at hr
theorem fill_start {w : World} {n B : Nat} (o : Obj) (hn : n ≤ maxLen) : Fill w ((w.alloc o).alloc (.cells (madeCells #[.int .i64 0] n) 3)) n B 0 := by
  have hb : Blk ((w.alloc o).alloc (.cells (madeCells #[.int .i64 0] n) 3)) (w.heap.size + 1) 3 (madeCells #[.int .i64 0] n) := blk_last _ _ _ _ (by rw [alloc_size])
  exact ⟨(madeCells #[.int .i64 0] n).toList, ⟨by rw [Array.length_toList, size_madeCells, Nat.mul_one], .inr ⟨w.heap.size + 1, n, _, rfl, Nat.le_succ _, hb, Nat.le_refl _, hn, by rw [size_madeCells, Nat.mul_one], by rw [List.take_of_length_le (by rw [Array.length_toList, size_madeCells]; omega)]⟩⟩, fun j hj => by omega, ((Below.refl _ w).alloc (Nat.le_refl _) _).alloc (by rw [alloc_size]; omega) _⟩
theorem ceil_zero {S z : Nat} (h : S % z = 0) (hz : 0 < z) : (S + z - 1) / z = S / z := by
  have h1 := Nat.div_add_mod S z
  rw [h, Nat.add_zero] at h1
  have e : S + z - 1 = (z - 1) + z * (S / z) := by omega
  rw [e, Nat.add_mul_div_left _ _ hz, Nat.div_eq_of_lt (by omega), Nat.zero_add]
theorem ceil_rest {S z : Nat} (h : S % z ≠ 0) (hz : 0 < z) : (S + z - 1) / z = S / z + 1 := by
  have h1 := Nat.div_add_mod S z
  have h2 := Nat.mod_lt S hz
  have e : S + z - 1 = (S % z - 1) + z * (S / z + 1) := by rw [Nat.mul_add, Nat.mul_one]; omega
  rw [e, Nat.add_mul_div_left _ _ hz, Nat.div_eq_of_lt (by omega), Nat.zero_add]
theorem lens_zero {K B S : Nat} (h : S % (K * B) = 0) (hz : 0 < K * B) : Hd.lensN K B S = List.replicate ((S + K * B - 1) / (K * B)) B := by
  unfold Hd.lensN
  rw [if_pos h, ceil_zero h hz]
theorem lens_rest {K B S : Nat} (h : S % (K * B) ≠ 0) (hz : 0 < K * B) : 0 < (S + K * B - 1) / (K * B) ∧ Hd.lensN K B S = (List.replicate ((S + K * B - 1) / (K * B)) B).set ((S + K * B - 1) / (K * B) - 1) ((S % (K * B) + K - 1) / K) := by
  rw [ceil_rest h hz]
  refine ⟨Nat.succ_pos _, ?_⟩
  unfold Hd.lensN
  rw [if_neg h, Nat.add_sub_cancel, List.replicate_succ', List.set_append_right _ _ (by rw [List.length_replicate]; exact Nat.le_refl _), List.length_replicate, Nat.sub_self]
  rfl
theorem w64n {x : Int} (h0 : -100 ≤ x) (h1 : x ≤ 100000000) : wrap64 x = x := IntWalk.wrap64_in _ (by omega)
theorem w64b {x : Int} (h0 : 0 ≤ x) (h1 : x ≤ 1000000000000) : wrap64 x = x := IntWalk.wrap64_in _ (by omega)
theorem w64 {x : Int} (h0 : 0 ≤ x) (h1 : x ≤ 100000000) : wrap64 x = x := IntWalk.wrap64_in _ (by omega)
theorem w64p {a b : Nat} (h1 : 1 ≤ b) (h : a + b ≤ 100000000) : wrap64 ((a : Int) + (b : Int) - 1) = (a : Int) + (b : Int) - 1 := w64 (by omega) (by omega)
theorem w64y {r K y : Nat} (hK : 1 ≤ K) (h : r + K ≤ 100000000) (hy : y = (r + K - 1) / K) : ((r : Int) + (K : Int) - 1).tdiv (K : Int) = (y : Int) ∧ wrap64 (y : Int) = (y : Int) ∧ ((K : Int) == 0) = false := by
  have h1 : y ≤ r + K - 1 := by rw [hy]; exact Nat.div_le_self _ _
  refine ⟨?_, w64 (by omega) (by omega), beq_eq_false_iff_ne.2 (by omega)⟩
  rw [show (r : Int) + (K : Int) - 1 = ((r + K - 1 : Nat) : Int) by omega, Int.tdiv_eq_ediv_of_nonneg (by omega), hy, Int.natCast_ediv]
theorem preK {n : Nat} (h : 0 < n) : ∃ m : Nat, m < n ∧ n - 1 = m ∧ (m : Int) < (n : Int) ∧ (n : Int) - 1 = (m : Int) := ⟨n - 1, by omega, rfl, by omega, by omega⟩
theorem posI {r : Nat} (h : r ≠ 0) : (0 : Int) < (r : Int) := by omega
theorem nposI {r : Nat} (h : r = 0) : ¬(0 : Int) < (r : Int) := by omega
theorem w64k {k n : Nat} (h : k < n) (hn : n ≤ 4096) : wrap64 ((k : Int) + 1) = (k : Int) + 1 := w64 (by omega) (by omega)
theorem ltI {k n : Nat} (h : k < n) : (k : Int) < (n : Int) := by omega
theorem w64r {r K : Nat} (h : r + K ≤ 100000000) : wrap64 (r : Int) = (r : Int) := w64 (by omega) (by omega)
theorem w64s {n : Nat} (h : n ≤ 4096) : wrap64 ((n : Int) - 1) = (n : Int) - 1 := w64n (by omega) (by omega)
set_option maxHeartbeats 2000000 in
theorem flens_any (K B S : Nat) (M : Int) (hK : 1 ≤ K ∧ K ≤ 255) (hB : 1 ≤ B ∧ B ≤ 65536) (hS : S ≤ 1048576) (hN : (S + K * B - 1) / (K * B) ≤ 4096) (w : World) :
    Calls Tryz.prog 117 #[.agg #[.int .i64 (K : Int), .int .i64 M, .int .i64 (B : Int)], .int .i64 (S : Int)] w fun e w' =>
      ∃ v, e = .returned v ∧ w'.ownsRow w.heap.size 3 1 v (Hd.lensN K B S).length ((Hd.lensN K B S).map lenV) ∧ Below w.heap.size w w' := by
  obtain ⟨L, hL⟩ : ∃ L, L = Hd.lensN K B S := ⟨_, rfl⟩
  rw [← hL]
  obtain ⟨z, hz⟩ : ∃ z, z = K * B := ⟨_, rfl⟩
  have hzI : (K : Int) * (B : Int) = (z : Int) := by rw [hz, Int.natCast_mul]
  have hz1 : 1 ≤ z := by rw [hz]; exact Nat.mul_pos hK.1 hB.1
  have hz2 : z ≤ 16711680 := by rw [hz]; have := Nat.mul_le_mul hK.2 hB.2; omega
  have HL0 : Hid (S % z = 0 → L = List.replicate ((S + z - 1) / z) B) := Lib.hid fun h => by rw [hL]; rw [hz] at h ⊢; exact lens_zero h (by omega)
  have HL1 : Hid (S % z ≠ 0 → 0 < (S + z - 1) / z ∧ L = (List.replicate ((S + z - 1) / z) B).set ((S + z - 1) / z - 1) ((S % z + K - 1) / K)) := Lib.hid fun h => by rw [hL]; rw [hz] at h ⊢; exact lens_rest h (by omega)
  rw [← hz] at hN
  clear hL hz
  obtain ⟨n, hn⟩ : ∃ n, n = (S + z - 1) / z := ⟨_, rfl⟩
  rw [← hn] at HL0 HL1 hN
  have a0 : wrap64 ((K : Int) * (B : Int)) = (z : Int) := by rw [hzI]; exact w64 (by omega) (by omega)
  have a1 : wrap64 ((S : Int) + (z : Int)) = (S : Int) + (z : Int) := w64 (by omega) (by omega)
  have a2 : wrap64 ((S : Int) + (z : Int) - 1) = (S : Int) + (z : Int) - 1 := w64 (by omega) (by omega)
  have a3 : ((S : Int) + (z : Int) - 1).tdiv (z : Int) = (n : Int) := by
    rw [show (S : Int) + (z : Int) - 1 = ((S + z - 1 : Nat) : Int) by omega, Int.tdiv_eq_ediv_of_nonneg (by omega), hn, Int.natCast_ediv]
  have a4 : wrap64 (n : Int) = (n : Int) := w64 (by omega) (by omega)
  have a5 : ((z : Int) == 0) = false := beq_eq_false_iff_ne.2 (by omega)
  obtain ⟨r, hr⟩ : ∃ r, r = S % z := ⟨_, rfl⟩
  rw [← hr] at HL0 HL1
  have a6 : (S : Int).tmod (z : Int) = (r : Int) := by rw [Int.tmod_eq_emod_of_nonneg (by omega), hr, Int.natCast_emod]
  have hrz : r < z := by rw [hr]; exact Nat.mod_lt _ (by omega)
  have a7 : wrap64 ((r : Int) + (K : Int)) = (r : Int) + (K : Int) := w64 (by omega) (by omega)
  have hrK : r + K ≤ 100000000 := Nat.le_trans (Nat.add_le_add (Nat.le_of_lt hrz) hK.2) (by omega)
  have a8 : wrap64 ((r : Int) + (K : Int) - 1) = (r : Int) + (K : Int) - 1 := w64p hK.1 hrK
  obtain ⟨y, hy⟩ : ∃ y, y = (r + K - 1) / K := ⟨_, rfl⟩
  rw [← hy] at HL1
  obtain ⟨a9, a10, a11⟩ := w64y hK.1 hrK hy
  have a12 := w64s hN
  have a13 : wrap64 (r : Int) = (r : Int) := w64r hrK
  clear hn hr hy hzI
  obtain ⟨i3, hi3, hx0, hx1, hx2⟩ := info_parts intInfoB
  have hmk := fun (W : World) => run_make (P := Tryz.prog) W 88 3 i3 _ Tryz.underlying88 hi3 hx0 .i64 .i64 (n : Int) (n : Int) (Int.natCast_nonneg _) (Int.le_refl _) (by rw [hx2]; omega) (by omega)
  simp only [Int.toNat_natCast, hx1, Nat.mul_one] at hmk
  have HST : Hid (∀ o : Obj, Fill w ((w.alloc o).alloc (.cells (madeCells #[.int .i64 0] n) 3)) n B 0) := Lib.hid fun o => fill_start o (by unfold maxLen; omega)
  have HBX : Hid (∀ o : Obj, Blk ((w.alloc (.cells #[.int .i64 (K : Int), .int .i64 M, .int .i64 (B : Int)] 24)).alloc o) w.heap.size 24 #[.int .i64 (K : Int), .int .i64 M, .int .i64 (B : Int)]) := Lib.hid fun o => (Blk.new w _ _).alloc o
  clear hi3 hx0 hx1 hx2 hz2 hS
  go_enter Tryz.func117, Tryz.ntmps117
  go_wp2_with fail
  go_loopw [7, 23] (fun _ s23 wr => ∃ k : Nat, k ≤ n ∧ s23 = .int .i64 (k : Int) ∧ Fill w wr n B k ∧ Blk wr w.heap.size 24 #[.int .i64 (K : Int), .int .i64 M, .int .i64 (B : Int)]) (fun _ s _ => n - (intOf s).toNat)
  case atStart => exact ⟨0, Nat.zero_le _, rfl, HST.out _, HBX.out _⟩
  case round =>
    obtain ⟨k, hk, rfl, hF, hBx⟩ := hrel
    have HFI := Lib.hid hF
    have HBK := Lib.hid hBx
    by_cases hlt : k < n
    · have hlt' : (k : Int) < (n : Int) := ltI hlt
      have y2 : wr.cell? ⟨w.heap.size, 2, none⟩ = some (.int .i64 (B : Int)) := hBx.cell 2
      obtain ⟨u, hu⟩ := hF.cell hlt
      have hfz := hF.frozen k
      clear hF hBx
      go_wp2_with fail
      clear a0 a1 a2 a3 a5 a6 a7 a8 a9 a10 a11 a13
      go_roundw
      case rel => exact ⟨k + 1, hlt, by go_num, HFI.out.next hlt, HBK.out.far (Nat.ne_of_lt (Nat.lt_succ_self _)) _⟩
      case measure => simp [intOf]; omega
    · obtain rfl : k = n := Nat.le_antisymm hk (Nat.le_of_not_lt hlt)
      have y0 : wr.cell? ⟨w.heap.size, 0, none⟩ = some (.int .i64 (K : Int)) := hBx.cell 0
      clear hF hBx
      by_cases hr0 : r = 0
      · have t := nposI hr0
        have t2 : ¬0 < r := Nat.not_lt.2 (Nat.le_of_eq hr0)
        have hL := HL0.out hr0
        have HF := Lib.hid HFI.out.full
        subst hL
        clear hr0 HFI
        have hzn : ¬z = 0 := Nat.pos_iff_ne_zero.1 hz1
        have hKn : ¬K = 0 := Nat.pos_iff_ne_zero.1 hK.1
        clear hz1 hrz hrK hN a13 hK hB hk hlt
        go_wp2_with fail
        go_ret
        refine ⟨_, rfl, ?_, HF.out.2⟩
        have hfin := HF.out.1
        rw [List.map_replicate] at hfin
        exact hfin
      · have t := posI hr0
        have t2 : 0 < r := Nat.pos_of_ne_zero hr0
        obtain ⟨hk0, hL⟩ := HL1.out hr0
        obtain ⟨m, hm, hm2, hmI, hm3⟩ := preK hk0
        rw [hm3] at a12
        rw [hm2] at hL
        have HF := Lib.hid HFI.out.full
        obtain ⟨u, hu⟩ := HFI.out.cell hm
        have hfz := HFI.out.frozen m
        subst hL
        clear hr0 HFI hm2
        have hzn : ¬z = 0 := Nat.pos_iff_ne_zero.1 hz1
        have hKn : ¬K = 0 := Nat.pos_iff_ne_zero.1 hK.1
        clear hz1 hrz hrK hN a13 hK hB hk hlt
        go_wp2_with fail
        go_ret
        refine ⟨_, rfl, ?_, HF.out.2.setCell (p := ⟨w.heap.size + 1, m, none⟩) (Nat.le_succ _) _⟩
        have hfin := (HF.out.1.stored m (lenV y)).1
        rw [List.map_replicate] at hfin
        rw [List.length_set, List.length_replicate, List.map_set, List.map_replicate]
        exact hfin
end Go.Proofs.YtcbebefdbdppdaaGreat
namespace Go.Proofs.YtcbebefdbdppdaaGreat
open Go.RowKit Go.Maps
section
variable {P : Program} {w : World}
theorem wpList_load_at {ops : Array Oper} {rest : List Oper} {o : Oper} {a : Act} {Q : Exit → Act → World → Prop} (hgd : o.guard = none) (ty : TypeId) (x : Operand) (ho : o.op = .load ty x)
    (ad : Addr) (hx : a.eval x = .pointer (some ad)) (v : Value) (hrun : (loadVar ty ad).run P w = .ok v w) (h : wpList P ops Q rest (a.put o.dst v) w) : wpList P ops Q (o :: rest) a w :=
  wpList_plain hgd fun _ hK => by
    unfold Oper.wp execOp
    simp only [ho, hx, Instr.loadAt, Instr.sureAddr, Sem.run_bind, Sem.run_pure, Result.andThen_ok, hrun]
    exact hK _ _ h
theorem wpList_store_at {ops : Array Oper} {rest : List Oper} {o : Oper} {a : Act} {Q : Exit → Act → World → Prop} (hgd : o.guard = none) (ty : TypeId) (x y : Operand) (ho : o.op = .store ty x y)
    (ad : Addr) (hx : a.eval x = .pointer (some ad)) (v : Value) (hy : a.eval y = v) (w' : World) (hrun : (storeVar ty ad v).run P w = .ok () w') (h : wpList P ops Q rest (a.put o.dst undef) w') : wpList P ops Q (o :: rest) a w :=
  wpList_plain hgd fun _ hK => by
    unfold Oper.wp execOp
    simp only [ho, hx, hy, Instr.storeAt, Instr.sureAddr, Sem.run_bind, Sem.run_pure, Result.andThen_ok, hrun]
    exact hK _ _ h
theorem wpList_load_if {ops : Array Oper} {rest : List Oper} {o : Oper} {a : Act} {Q : Exit → Act → World → Prop} (ty : TypeId) (x : Operand) (ho : o.op = .load ty x) (hgd : Region.wanted o (yielded ops a.tmps) = true)
    (ad : Addr) (hx : a.eval x = .pointer (some ad)) (v : Value) (hrun : (loadVar ty ad).run P w = .ok v w) (h : wpList P ops Q rest (a.put o.dst v) w) : wpList P ops Q (o :: rest) a w :=
  wpList_step fun _ hK => by
    rw [if_pos hgd]
    unfold Oper.wp execOp
    simp only [ho, hx, Instr.loadAt, Instr.sureAddr, Sem.run_bind, Sem.run_pure, Result.andThen_ok, hrun]
    exact hK _ _ h
theorem run_loadVar_part {g off n : Nat} {t : TypeId} {cs : Array Value} {fs : Array Field} (ty : TypeId) (hg : Blk w g t cs) (hu : P.underlying ty = some (.struct fs)) (hi : (P.info? ty).map (·.size) = some n)
    (xs : List Value) (hl : xs.length = n) (hx : ∀ j v, xs[j]? = some v → cs[off + j]? = some v) : (loadVar ty ⟨g, off, none⟩).run P w = .ok (.agg xs.toArray) w := by
  have hc : (loadCells ⟨g, off, none⟩ xs.length).run P w = .ok xs.toArray w :=
    run_loadCells_list (P := P) w ⟨g, off, none⟩ xs (fun j v hv => by
      have hadd : (⟨g, off, none⟩ : Addr).add j = ⟨g, off + j, none⟩ := by unfold Addr.add; split <;> simp_all
      rw [hadd, hg.cell]; exact hx j v hv)
  cases hq : P.info? ty with
  | none => simp [hq] at hi
  | some i =>
    have hs : i.size = n := by simpa [hq] using hi
    have hagg : (isAgg ty).run P w = .ok true w := by
      unfold isAgg
      rw [Sem.run_bind, run_underlying hu w]
      rfl
    rw [hl] at hc
    simp [loadVar, Sem.run_bind, hagg, sizeOf, typeInfo, hq, hs, hc]
theorem run_loadVar_cells {n : Nat} {fs : Array Field} (ty : TypeId) (a : Addr) (hu : P.underlying ty = some (.struct fs)) (hi : (P.info? ty).map (·.size) = some n) (cs : Array Value) (hl : cs.size = n) (hx : ∀ j v, cs.toList[j]? = some v → w.cell? (a.add j) = some v) : (loadVar ty a).run P w = .ok (.agg cs) w := by
  have hc : (loadCells a cs.toList.length).run P w = .ok cs.toList.toArray w := run_loadCells_list (P := P) w a cs.toList hx
  cases hq : P.info? ty with
  | none => simp [hq] at hi
  | some i =>
    have hs : i.size = n := by simpa [hq] using hi
    have hagg : (isAgg ty).run P w = .ok true w := by
      unfold isAgg
      rw [Sem.run_bind, run_underlying hu w]
      rfl
    rw [Array.length_toList, hl, Array.toArray_toList] at hc
    simp [loadVar, Sem.run_bind, hagg, sizeOf, typeInfo, hq, hs, hc]
theorem run_loadVar_all {g n : Nat} {t : TypeId} {cs : Array Value} {fs : Array Field} (ty : TypeId) (hg : Blk w g t cs) (hu : P.underlying ty = some (.struct fs)) (hi : (P.info? ty).map (·.size) = some n) (hl : cs.size = n) : (loadVar ty ⟨g, 0, none⟩).run P w = .ok (.agg cs) w := by
  have := run_loadVar_part (off := 0) ty hg hu hi cs.toList (by simpa using hl) (fun j v h => by simpa using h)
  simpa using this
theorem run_loadVar_mid {g off n : Nat} {t : TypeId} {pre xs post : List Value} {fs : Array Field} (ty : TypeId) (hg : Blk w g t (pre ++ xs ++ post).toArray) (hu : P.underlying ty = some (.struct fs)) (hi : (P.info? ty).map (·.size) = some n) (hp : pre.length = off) (hl : xs.length = n) : (loadVar ty ⟨g, off, none⟩).run P w = .ok (.agg xs.toArray) w := by
  refine run_loadVar_part ty hg hu hi xs hl fun j v h => ?_
  obtain ⟨hj, _⟩ := List.getElem?_eq_some_iff.1 h
  rw [List.getElem?_toArray, List.append_assoc, List.getElem?_append_right (by omega), List.getElem?_append_left (by omega), show off + j - pre.length = j by omega]
  exact h
theorem run_storeVar_whole {g : Nat} {t : TypeId} {cur vs : Array Value} (ty : TypeId) (hg : Blk w g t cur) (hi : (P.info? ty).map (·.size) = some vs.size) (hs : vs.size = cur.size) (h1 : ∀ v ∈ vs.toList, v.oneCell' = true) :
    ∃ w', (storeVar ty ⟨g, 0, none⟩ (.agg vs)).run P w = .ok () w' ∧ Blk w' g t vs ∧ Touch (· = g) w w' ∧ w'.heap.size = w.heap.size := by
  have hst := run_storeCells_at P g 0 t vs.toList 0 cur w hg (by simp; omega) h1
  have hd : cur.toList.drop vs.toList.length = [] := List.drop_of_length_le (by simp; omega)
  simp only [Nat.zero_add, List.take_zero, List.nil_append, hd, List.append_nil, Array.toArray_toList] at hst
  refine ⟨w.setRow g vs, ?_, setRow_heap w g cur _ _ _ hg, ⟨rfl, rfl, rfl, by simp [World.setRow], fun k _ hk => setRow_other w g k _ hk⟩, by simp [World.setRow]⟩
  cases hq : P.info? ty with
  | none => simp [hq] at hi
  | some i =>
    have hz : i.size = vs.size := by simpa [hq] using hi
    have hcs : (Value.agg vs).cells = vs := rfl
    simp [storeVar, hcs, sizeOf, typeInfo, hq, hz, hst]
end
end Go.Proofs.YtcbebefdbdppdaaGreat
