/- What the document reads of bytes: Parse. -/
import Derived.Test.YtdiaihpilniikaaKyf
import Derived.Test.YtdiaihpilniikaaKw
namespace Go.Proofs.Ytdiaihpilniikaa
open Go.RowKit Go.Maps

set_option maxRecDepth 100000 in
set_option maxHeartbeats 4000000 in
theorem refparse_short (A : Option Addr) (n c : Nat) (w : World) (hn : n ≠ 31) : Calls Try.prog 16 #[.slice A n c] w fun e w' => e = .returned (.tuple #[labV Lab.zero, .int .i64 150]) ∧ Below w.heap.size w w' := by
  have hne : ((n : Int) != 31) = true := by simp; omega
  have hZ : labV Lab.zero = .agg #[.int .u8 0, .int .u8 0, .int .u8 0, .int .u8 0, .int .u8 0, .int .u8 0, .int .u8 0, .int .u8 0, .int .i64 0, .int .i64 0, .int .i64 0, .int .i64 0, .int .i64 0] := rfl
  rw [hZ]
  clear hZ hn
  go_enter Try.func16, Try.ntmps16
  go_wp2
  refine bodyPost_ret (v := .tuple #[.agg #[.int .u8 0, .int .u8 0, .int .u8 0, .int .u8 0, .int .u8 0, .int .u8 0, .int .u8 0, .int .u8 0, .int .i64 0, .int .i64 0, .int .i64 0, .int .i64 0, .int .i64 0], .int .i64 150]) (by simp only [results, Try.results16]; go_simp) rfl ⟨rfl, ?_⟩
  repeat (first | with_reducible exact Below.refl _ _ | with_reducible refine Below.setCell ?_ (by simp) _ | with_reducible refine below_drewN ?_ _ | with_reducible refine below_drew1 ?_ | with_reducible refine Below.alloc ?_ (Nat.le_refl _) _)
/-- The label in memory, its first k bytes laid. -/
def layTab (x0 x1 x2 x3 x4 x5 x6 x7 : UInt8) (k : Nat) : Array Value := #[.int .u8 (if 0 < k then (x0.toNat : Int) else 0), .int .u8 (if 1 < k then (x1.toNat : Int) else 0), .int .u8 (if 2 < k then (x2.toNat : Int) else 0), .int .u8 (if 3 < k then (x3.toNat : Int) else 0), .int .u8 (if 4 < k then (x4.toNat : Int) else 0), .int .u8 (if 5 < k then (x5.toNat : Int) else 0), .int .u8 (if 6 < k then (x6.toNat : Int) else 0), .int .u8 (if 7 < k then (x7.toNat : Int) else 0), .int .i64 0, .int .i64 0, .int .i64 0, .int .i64 0, .int .i64 0]
theorem reads_part {w : World} {B n i m : Nat} {ad : Addr} {xs : List Value} (h : Reads w B 1 (some ad) n xs) (hi : i + m ≤ n) (hn : 0 < n) : Reads w B 1 (some (ad.add i)) m ((xs.drop i).take m) := by
  obtain ⟨ad', e, hb, hcell⟩ := h.2 hn
  injection e with e
  subst e
  refine ⟨by rw [List.length_take, List.length_drop, h.1]; omega, fun _ => ⟨_, rfl, by rw [block_of_add]; exact hb, fun j u hu => ?_⟩⟩
  rw [add_of_add]
  rw [List.getElem?_take] at hu
  split at hu
  · rw [List.getElem?_drop] at hu; exact hcell _ u hu
  · cases hu
theorem refval_one (x : UInt8) : refval [x] = (x.toNat : Int) := by
  unfold refval
  have hx := x.toNat_lt
  have : unle [x] = x.toNat := by simp [unle]
  rw [this, if_pos (by omega)]
theorem refval_four (l : List UInt8) (h : l.length = 4) : refval l = (unle l : Int) := by
  unfold refval
  have := unle_lt l
  rw [h] at this
  rw [if_pos (by omega)]
/-- What the document reads of 31 bytes, ahead of its test. -/
def refOf (b : List UInt8) : Lab := { Lab.of b with e := refval ((b.drop 19).take 8) }
theorem refOf_st (b : List UInt8) (h : b.length = 31) : (refOf b).st.length = 8 := by
  show ((b.drop 4).take 8).length = 8
  rw [List.length_take, List.length_drop]; omega
theorem refOf_eq (b : List UInt8) (h : (refOf b).may = 0) : refOf b = Lab.of b := by
  have hf := may_fits h
  have h1 : (refOf b).e = refval ((b.drop 19).take 8) := rfl
  have h2 : 0 ≤ refval ((b.drop 19).take 8) := by rw [← h1]; omega
  have h3 : refval ((b.drop 19).take 8) = (unle ((b.drop 19).take 8) : Int) := by
    unfold refval at h2 ⊢
    split
    · rfl
    · rename_i h4; rw [if_neg h4] at h2; omega
  unfold refOf
  rw [h3]; rfl
theorem refOf_no (b : List UInt8) (h : (refOf b).may ≠ 0) : ¬ Lab.reads b := by
  rintro ⟨h1, _, _, h4⟩
  apply h
  have hf := may_fits h4
  have h3 : refval ((b.drop 19).take 8) = (unle ((b.drop 19).take 8) : Int) := by
    unfold refval
    have e : (Lab.of b).e = (unle ((b.drop 19).take 8) : Int) := rfl
    rw [e] at hf
    rw [if_pos (by omega)]
  have : refOf b = Lab.of b := by unfold refOf; rw [h3]; rfl
  rw [this]; exact h4
theorem refOf_same (b : List UInt8) (hl : b.length = 31) (h : (refOf b).may = 0) (hb : (refOf b).bytes = b) : Lab.parse b = (refOf b, 0) := by
  have := Lab.parse_bytes (refOf b) (refOf_st b hl) h
  rw [hb] at this; exact this
theorem refOf_other (b : List UInt8) (h : (refOf b).may = 0) (hb : (refOf b).bytes ≠ b) : Lab.parse b = (Lab.zero, 150) := by
  apply Lab.parse_bad
  intro hr
  apply hb
  rw [refOf_eq b h]
  exact (Lab.bytes_of hr).1
theorem calls_world {P : Program} {F : Nat} {args : Array Value} {w : World} {Q : Ending → World → Prop} (h : ∀ W, W = w → Calls P F args W Q) : Calls P F args w Q := h w rfl
set_option maxRecDepth 100000 in
set_option maxHeartbeats 16000000 in
theorem refparse31 (ad : Addr) (c : Nat) (bs : List UInt8) (hl : bs.length = 31) (w : World) (B : Nat) (hx : Reads w B 1 (some ad) 31 (bs.map B8)) (hB : B ≤ w.heap.size) (hc : 31 ≤ c) :
    Calls Try.prog 16 #[.slice (some ad) 31 c] w fun e w' => e = .returned (.tuple #[labV (Lab.parse bs).1, .int .i64 (Lab.parse bs).2]) ∧ Below w.heap.size w w' := by
  have HX := Lib.hid hx
  obtain ⟨x0, x1, x2, x3, x4, x5, x6, x7, hst⟩ := lab_eight (refOf_st bs hl)
  have HD : Hid ((bs.drop 4).take 8 = [x0, x1, x2, x3, x4, x5, x6, x7]) := Lib.hid hst
  have HBX : Hid (∀ W, Below w.heap.size w W → Reads W B 1 (some ad) 31 (bs.map B8)) := Lib.hid fun W h => hx.below (h.mono hB)
  have HCELL : Hid (∀ (W : World) (i : Nat) (x : UInt8), Below w.heap.size w W → [x0, x1, x2, x3, x4, x5, x6, x7][i]? = some x → W.cell? (ad.add (4 + i)) = some (.int .u8 (x.toNat : Int))) := Lib.hid fun W i x h hi => by
    have h1 := reads_part (HBX.out W h) (i := 4) (m := 8) (by decide) (by decide)
    rw [← List.map_drop, ← List.map_take, HD.out] at h1
    obtain ⟨ad', e, _, hcell⟩ := h1.2 (by decide)
    injection e with e
    subst e
    have := hcell i (B8 x) (by rw [List.getElem?_map, hi]; rfl)
    rw [add_of_add] at this
    exact this
  clear hx hst
  go_enter Try.func16, Try.ntmps16
  go_wp2_with fail
  refine wp_world fun W hW => ?_
  obtain ⟨p, hp⟩ : ∃ p, p = w.heap.size := ⟨_, rfl⟩
  have HR : Hid (Blk W p 26 #[.int .u8 0, .int .u8 0, .int .u8 0, .int .u8 0, .int .u8 0, .int .u8 0, .int .u8 0, .int .u8 0, .int .i64 0, .int .i64 0, .int .i64 0, .int .i64 0, .int .i64 0]) := Lib.hid (by rw [hW, hp]; exact (Blk.new _ _ _).alloc _)
  have HA : Hid (Blk W (p + 1) 26 (layTab x0 x1 x2 x3 x4 x5 x6 x7 0)) := Lib.hid (by rw [hW, hp]; exact blk_last _ _ _ _ (by rw [alloc_size]))
  have HW : Hid (Below w.heap.size w W) := Lib.hid (by rw [hW]; exact ((Below.refl _ _).alloc (Nat.le_refl _) _).alloc (by simp) _)
  rw [← hp]
  have hpw : w.heap.size ≤ p := by omega
  have HP := Lib.hid hp
  clear hW hp
  go_loopw [5] (fun s5 wr => ∃ k : Nat, k ≤ 8 ∧ s5 = .int .i64 k ∧ Blk wr p 26 #[.int .u8 0, .int .u8 0, .int .u8 0, .int .u8 0, .int .u8 0, .int .u8 0, .int .u8 0, .int .u8 0, .int .i64 0, .int .i64 0, .int .i64 0, .int .i64 0, .int .i64 0] ∧ Blk wr (p + 1) 26 (layTab x0 x1 x2 x3 x4 x5 x6 x7 k) ∧ Below w.heap.size w wr) (fun s _ => 8 - (intOf s).toNat)
  case atStart => exact ⟨0, Nat.zero_le _, rfl, HR.out, HA.out, HW.out⟩
  case round =>
    obtain ⟨k, hk, rfl, hr, ha, hb⟩ := hrel
    have HR1 := Lib.hid hr
    have HA1 := Lib.hid ha
    have HB1 := Lib.hid hb
    have hsz := ha.lt
    clear hr ha hb
    by_cases hlt : k < 8
    · have hfr : ∀ j, wr.frozen? ⟨p + 1, j, none⟩ = false := HA1.out.frozen
      obtain rfl | rfl | rfl | rfl | rfl | rfl | rfl | rfl : k = 0 ∨ k = 1 ∨ k = 2 ∨ k = 3 ∨ k = 4 ∨ k = 5 ∨ k = 6 ∨ k = 7 := by omega
      · have hc1 : wr.cell? ⟨ad.block, ad.off + 4, none⟩ = some (.int .u8 (x0.toNat : Int)) := HCELL.out wr 0 x0 HB1.out rfl
        have hc2 : wr.cell? ⟨p + 1, 0, none⟩ = some (.int .u8 0) := HA1.out.cell 0
        go_wp2
        go_roundw
        case rel => exact ⟨1, by omega, by go_num, HR1.out.far (by simp) _, HA1.out.set_ 0 _, HB1.out.setCell (by show w.heap.size ≤ p + 1; omega) _⟩
        case measure => first | (simp [intOf]; done) | (simp [intOf]; omega)
      · have hc1 : wr.cell? ⟨ad.block, ad.off + 5, none⟩ = some (.int .u8 (x1.toNat : Int)) := HCELL.out wr 1 x1 HB1.out rfl
        have hc2 : wr.cell? ⟨p + 1, 1, none⟩ = some (.int .u8 0) := HA1.out.cell 1
        go_wp2
        go_roundw
        case rel => exact ⟨2, by omega, by go_num, HR1.out.far (by simp) _, HA1.out.set_ 1 _, HB1.out.setCell (by show w.heap.size ≤ p + 1; omega) _⟩
        case measure => first | (simp [intOf]; done) | (simp [intOf]; omega)
      · have hc1 : wr.cell? ⟨ad.block, ad.off + 6, none⟩ = some (.int .u8 (x2.toNat : Int)) := HCELL.out wr 2 x2 HB1.out rfl
        have hc2 : wr.cell? ⟨p + 1, 2, none⟩ = some (.int .u8 0) := HA1.out.cell 2
        go_wp2
        go_roundw
        case rel => exact ⟨3, by omega, by go_num, HR1.out.far (by simp) _, HA1.out.set_ 2 _, HB1.out.setCell (by show w.heap.size ≤ p + 1; omega) _⟩
        case measure => first | (simp [intOf]; done) | (simp [intOf]; omega)
      · have hc1 : wr.cell? ⟨ad.block, ad.off + 7, none⟩ = some (.int .u8 (x3.toNat : Int)) := HCELL.out wr 3 x3 HB1.out rfl
        have hc2 : wr.cell? ⟨p + 1, 3, none⟩ = some (.int .u8 0) := HA1.out.cell 3
        go_wp2
        go_roundw
        case rel => exact ⟨4, by omega, by go_num, HR1.out.far (by simp) _, HA1.out.set_ 3 _, HB1.out.setCell (by show w.heap.size ≤ p + 1; omega) _⟩
        case measure => first | (simp [intOf]; done) | (simp [intOf]; omega)
      · have hc1 : wr.cell? ⟨ad.block, ad.off + 8, none⟩ = some (.int .u8 (x4.toNat : Int)) := HCELL.out wr 4 x4 HB1.out rfl
        have hc2 : wr.cell? ⟨p + 1, 4, none⟩ = some (.int .u8 0) := HA1.out.cell 4
        go_wp2
        go_roundw
        case rel => exact ⟨5, by omega, by go_num, HR1.out.far (by simp) _, HA1.out.set_ 4 _, HB1.out.setCell (by show w.heap.size ≤ p + 1; omega) _⟩
        case measure => first | (simp [intOf]; done) | (simp [intOf]; omega)
      · have hc1 : wr.cell? ⟨ad.block, ad.off + 9, none⟩ = some (.int .u8 (x5.toNat : Int)) := HCELL.out wr 5 x5 HB1.out rfl
        have hc2 : wr.cell? ⟨p + 1, 5, none⟩ = some (.int .u8 0) := HA1.out.cell 5
        go_wp2
        go_roundw
        case rel => exact ⟨6, by omega, by go_num, HR1.out.far (by simp) _, HA1.out.set_ 5 _, HB1.out.setCell (by show w.heap.size ≤ p + 1; omega) _⟩
        case measure => first | (simp [intOf]; done) | (simp [intOf]; omega)
      · have hc1 : wr.cell? ⟨ad.block, ad.off + 10, none⟩ = some (.int .u8 (x6.toNat : Int)) := HCELL.out wr 6 x6 HB1.out rfl
        have hc2 : wr.cell? ⟨p + 1, 6, none⟩ = some (.int .u8 0) := HA1.out.cell 6
        go_wp2
        go_roundw
        case rel => exact ⟨7, by omega, by go_num, HR1.out.far (by simp) _, HA1.out.set_ 6 _, HB1.out.setCell (by show w.heap.size ≤ p + 1; omega) _⟩
        case measure => first | (simp [intOf]; done) | (simp [intOf]; omega)
      · have hc1 : wr.cell? ⟨ad.block, ad.off + 11, none⟩ = some (.int .u8 (x7.toNat : Int)) := HCELL.out wr 7 x7 HB1.out rfl
        have hc2 : wr.cell? ⟨p + 1, 7, none⟩ = some (.int .u8 0) := HA1.out.cell 7
        go_wp2
        go_roundw
        case rel => exact ⟨8, by omega, by go_num, HR1.out.far (by simp) _, HA1.out.set_ 7 _, HB1.out.setCell (by show w.heap.size ≤ p + 1; omega) _⟩
        case measure => first | (simp [intOf]; done) | (simp [intOf]; omega)
    · obtain rfl : k = 8 := by omega
      have HA2 : Hid (Blk wr (p + 1) 26 #[.int .u8 (x0.toNat : Int), .int .u8 (x1.toNat : Int), .int .u8 (x2.toNat : Int), .int .u8 (x3.toNat : Int), .int .u8 (x4.toNat : Int), .int .u8 (x5.toNat : Int), .int .u8 (x6.toNat : Int), .int .u8 (x7.toNat : Int), .int .i64 0, .int .i64 0, .int .i64 0, .int .i64 0, .int .i64 0]) := HA1
      clear HA1
      have c0 : wr.cell? ⟨p + 1, 8, none⟩ = some (.int .i64 0) := HA2.out.cell 8
      have d0 : ∀ j, wr.frozen? ⟨p + 1, j, none⟩ = false := HA2.out.frozen
      have e0 : wr.heap.size > p + 1 := HA2.out.lt
      go_wp2_with fail
      refine (refvalue_any (some ⟨ad.block, ad.off + 12, none⟩) 1 (c - 12) ((bs.drop 12).take 1) wr B (by have h := reads_part (HBX.out _ HB1.out) (i := 12) (m := 1) (by decide) (by decide); rw [← List.map_drop, ← List.map_take] at h; exact h) (by decide)).mono ?_
      rintro e w' ⟨rfl, hw'⟩
      subst hw'
      obtain ⟨v0, hv0⟩ : ∃ v, v = refval ((bs.drop 12).take 1) := ⟨_, rfl⟩
      rw [← hv0]
      have HV0 := Lib.hid hv0
      clear hv0
      go_wp2_with fail
      refine calls_world fun W0 hW0 => ?_
      have HRW0 : Hid (Blk W0 p 26 #[.int .u8 0, .int .u8 0, .int .u8 0, .int .u8 0, .int .u8 0, .int .u8 0, .int .u8 0, .int .u8 0, .int .i64 0, .int .i64 0, .int .i64 0, .int .i64 0, .int .i64 0]) := Lib.hid (by rw [hW0]; exact HR1.out.far (by simp) _)
      have HAW0 : Hid (Blk W0 (p + 1) 26 #[.int .u8 (x0.toNat : Int), .int .u8 (x1.toNat : Int), .int .u8 (x2.toNat : Int), .int .u8 (x3.toNat : Int), .int .u8 (x4.toNat : Int), .int .u8 (x5.toNat : Int), .int .u8 (x6.toNat : Int), .int .u8 (x7.toNat : Int), .int .i64 v0, .int .i64 0, .int .i64 0, .int .i64 0, .int .i64 0]) := Lib.hid (by rw [hW0]; exact HA2.out.set_ 8 _)
      have HBW0 : Hid (Below w.heap.size w W0) := Lib.hid (by rw [hW0]; exact HB1.out.setCell (by show w.heap.size ≤ p + 1; omega) _)
      clear hW0 c0 d0 e0
      have c1 : W0.cell? ⟨p + 1, 9, none⟩ = some (.int .i64 0) := HAW0.out.cell 9
      have d1 : ∀ j, W0.frozen? ⟨p + 1, j, none⟩ = false := HAW0.out.frozen
      have e1 : W0.heap.size > p + 1 := HAW0.out.lt
      refine (refvalue_any (some ⟨ad.block, ad.off + 13, none⟩) 1 (c - 13) ((bs.drop 13).take 1) W0 B (by have h := reads_part (HBX.out _ HBW0.out) (i := 13) (m := 1) (by decide) (by decide); rw [← List.map_drop, ← List.map_take] at h; exact h) (by decide)).mono ?_
      rintro e w' ⟨rfl, hw'⟩
      subst hw'
      obtain ⟨v1, hv1⟩ : ∃ v, v = refval ((bs.drop 13).take 1) := ⟨_, rfl⟩
      rw [← hv1]
      have HV1 := Lib.hid hv1
      clear hv1
      go_wp2_with fail
      refine calls_world fun W1 hW1 => ?_
      have HRW1 : Hid (Blk W1 p 26 #[.int .u8 0, .int .u8 0, .int .u8 0, .int .u8 0, .int .u8 0, .int .u8 0, .int .u8 0, .int .u8 0, .int .i64 0, .int .i64 0, .int .i64 0, .int .i64 0, .int .i64 0]) := Lib.hid (by rw [hW1]; exact HRW0.out.far (by simp) _)
      have HAW1 : Hid (Blk W1 (p + 1) 26 #[.int .u8 (x0.toNat : Int), .int .u8 (x1.toNat : Int), .int .u8 (x2.toNat : Int), .int .u8 (x3.toNat : Int), .int .u8 (x4.toNat : Int), .int .u8 (x5.toNat : Int), .int .u8 (x6.toNat : Int), .int .u8 (x7.toNat : Int), .int .i64 v0, .int .i64 v1, .int .i64 0, .int .i64 0, .int .i64 0]) := Lib.hid (by rw [hW1]; exact HAW0.out.set_ 9 _)
      have HBW1 : Hid (Below w.heap.size w W1) := Lib.hid (by rw [hW1]; exact HBW0.out.setCell (by show w.heap.size ≤ p + 1; omega) _)
      clear hW1 c1 d1 e1
      have c2 : W1.cell? ⟨p + 1, 10, none⟩ = some (.int .i64 0) := HAW1.out.cell 10
      have d2 : ∀ j, W1.frozen? ⟨p + 1, j, none⟩ = false := HAW1.out.frozen
      have e2 : W1.heap.size > p + 1 := HAW1.out.lt
      refine (refvalue_any (some ⟨ad.block, ad.off + 14, none⟩) 4 (c - 14) ((bs.drop 14).take 4) W1 B (by have h := reads_part (HBX.out _ HBW1.out) (i := 14) (m := 4) (by decide) (by decide); rw [← List.map_drop, ← List.map_take] at h; exact h) (by decide)).mono ?_
      rintro e w' ⟨rfl, hw'⟩
      subst hw'
      obtain ⟨v2, hv2⟩ : ∃ v, v = refval ((bs.drop 14).take 4) := ⟨_, rfl⟩
      rw [← hv2]
      have HV2 := Lib.hid hv2
      clear hv2
      go_wp2_with fail
      refine calls_world fun W2 hW2 => ?_
      have HRW2 : Hid (Blk W2 p 26 #[.int .u8 0, .int .u8 0, .int .u8 0, .int .u8 0, .int .u8 0, .int .u8 0, .int .u8 0, .int .u8 0, .int .i64 0, .int .i64 0, .int .i64 0, .int .i64 0, .int .i64 0]) := Lib.hid (by rw [hW2]; exact HRW1.out.far (by simp) _)
      have HAW2 : Hid (Blk W2 (p + 1) 26 #[.int .u8 (x0.toNat : Int), .int .u8 (x1.toNat : Int), .int .u8 (x2.toNat : Int), .int .u8 (x3.toNat : Int), .int .u8 (x4.toNat : Int), .int .u8 (x5.toNat : Int), .int .u8 (x6.toNat : Int), .int .u8 (x7.toNat : Int), .int .i64 v0, .int .i64 v1, .int .i64 v2, .int .i64 0, .int .i64 0]) := Lib.hid (by rw [hW2]; exact HAW1.out.set_ 10 _)
      have HBW2 : Hid (Below w.heap.size w W2) := Lib.hid (by rw [hW2]; exact HBW1.out.setCell (by show w.heap.size ≤ p + 1; omega) _)
      clear hW2 c2 d2 e2
      have c3 : W2.cell? ⟨p + 1, 11, none⟩ = some (.int .i64 0) := HAW2.out.cell 11
      have d3 : ∀ j, W2.frozen? ⟨p + 1, j, none⟩ = false := HAW2.out.frozen
      have e3 : W2.heap.size > p + 1 := HAW2.out.lt
      refine (refvalue_any (some ⟨ad.block, ad.off + 18, none⟩) 1 (c - 18) ((bs.drop 18).take 1) W2 B (by have h := reads_part (HBX.out _ HBW2.out) (i := 18) (m := 1) (by decide) (by decide); rw [← List.map_drop, ← List.map_take] at h; exact h) (by decide)).mono ?_
      rintro e w' ⟨rfl, hw'⟩
      subst hw'
      obtain ⟨v3, hv3⟩ : ∃ v, v = refval ((bs.drop 18).take 1) := ⟨_, rfl⟩
      rw [← hv3]
      have HV3 := Lib.hid hv3
      clear hv3
      go_wp2_with fail
      refine calls_world fun W3 hW3 => ?_
      have HRW3 : Hid (Blk W3 p 26 #[.int .u8 0, .int .u8 0, .int .u8 0, .int .u8 0, .int .u8 0, .int .u8 0, .int .u8 0, .int .u8 0, .int .i64 0, .int .i64 0, .int .i64 0, .int .i64 0, .int .i64 0]) := Lib.hid (by rw [hW3]; exact HRW2.out.far (by simp) _)
      have HAW3 : Hid (Blk W3 (p + 1) 26 #[.int .u8 (x0.toNat : Int), .int .u8 (x1.toNat : Int), .int .u8 (x2.toNat : Int), .int .u8 (x3.toNat : Int), .int .u8 (x4.toNat : Int), .int .u8 (x5.toNat : Int), .int .u8 (x6.toNat : Int), .int .u8 (x7.toNat : Int), .int .i64 v0, .int .i64 v1, .int .i64 v2, .int .i64 v3, .int .i64 0]) := Lib.hid (by rw [hW3]; exact HAW2.out.set_ 11 _)
      have HBW3 : Hid (Below w.heap.size w W3) := Lib.hid (by rw [hW3]; exact HBW2.out.setCell (by show w.heap.size ≤ p + 1; omega) _)
      clear hW3 c3 d3 e3
      have c4 : W3.cell? ⟨p + 1, 12, none⟩ = some (.int .i64 0) := HAW3.out.cell 12
      have d4 : ∀ j, W3.frozen? ⟨p + 1, j, none⟩ = false := HAW3.out.frozen
      have e4 : W3.heap.size > p + 1 := HAW3.out.lt
      have q0 : W3.cell? ⟨p + 1, 0, none⟩ = some (.int .u8 (x0.toNat : Int)) := HAW3.out.cell 0
      have q1 : W3.cell? ⟨p + 1, 1, none⟩ = some (.int .u8 (x1.toNat : Int)) := HAW3.out.cell 1
      have q2 : W3.cell? ⟨p + 1, 2, none⟩ = some (.int .u8 (x2.toNat : Int)) := HAW3.out.cell 2
      have q3 : W3.cell? ⟨p + 1, 3, none⟩ = some (.int .u8 (x3.toNat : Int)) := HAW3.out.cell 3
      have q4 : W3.cell? ⟨p + 1, 4, none⟩ = some (.int .u8 (x4.toNat : Int)) := HAW3.out.cell 4
      have q5 : W3.cell? ⟨p + 1, 5, none⟩ = some (.int .u8 (x5.toNat : Int)) := HAW3.out.cell 5
      have q6 : W3.cell? ⟨p + 1, 6, none⟩ = some (.int .u8 (x6.toNat : Int)) := HAW3.out.cell 6
      have q7 : W3.cell? ⟨p + 1, 7, none⟩ = some (.int .u8 (x7.toNat : Int)) := HAW3.out.cell 7
      have q8 : W3.cell? ⟨p + 1, 8, none⟩ = some (.int .i64 v0) := HAW3.out.cell 8
      have q9 : W3.cell? ⟨p + 1, 9, none⟩ = some (.int .i64 v1) := HAW3.out.cell 9
      have q10 : W3.cell? ⟨p + 1, 10, none⟩ = some (.int .i64 v2) := HAW3.out.cell 10
      have q11 : W3.cell? ⟨p + 1, 11, none⟩ = some (.int .i64 v3) := HAW3.out.cell 11
      refine (refvalue_any (some ⟨ad.block, ad.off + 19, none⟩) 8 (c - 19) ((bs.drop 19).take 8) W3 B (by have h := reads_part (HBX.out _ HBW3.out) (i := 19) (m := 8) (by decide) (by decide); rw [← List.map_drop, ← List.map_take] at h; exact h) (by decide)).mono ?_
      rintro e w' ⟨rfl, hw'⟩
      subst hw'
      obtain ⟨v4, hv4⟩ : ∃ v, v = refval ((bs.drop 19).take 8) := ⟨_, rfl⟩
      rw [← hv4]
      have HV4 := Lib.hid hv4
      clear hv4
      go_wp2_with fail
      refine calls_world fun W4 hW4 => ?_
      have HRW4 : Hid (Blk W4 p 26 #[.int .u8 0, .int .u8 0, .int .u8 0, .int .u8 0, .int .u8 0, .int .u8 0, .int .u8 0, .int .u8 0, .int .i64 0, .int .i64 0, .int .i64 0, .int .i64 0, .int .i64 0]) := Lib.hid (by rw [hW4]; exact HRW3.out.far (by simp) _)
      have HAW4 : Hid (Blk W4 (p + 1) 26 #[.int .u8 (x0.toNat : Int), .int .u8 (x1.toNat : Int), .int .u8 (x2.toNat : Int), .int .u8 (x3.toNat : Int), .int .u8 (x4.toNat : Int), .int .u8 (x5.toNat : Int), .int .u8 (x6.toNat : Int), .int .u8 (x7.toNat : Int), .int .i64 v0, .int .i64 v1, .int .i64 v2, .int .i64 v3, .int .i64 v4]) := Lib.hid (by rw [hW4]; exact HAW3.out.set_ 12 _)
      have HBW4 : Hid (Below w.heap.size w W4) := Lib.hid (by rw [hW4]; exact HBW3.out.setCell (by show w.heap.size ≤ p + 1; omega) _)
      clear hW4 c4 d4 e4
      have HLV : Hid (labV (refOf bs) = .agg #[.int .u8 (x0.toNat : Int), .int .u8 (x1.toNat : Int), .int .u8 (x2.toNat : Int), .int .u8 (x3.toNat : Int), .int .u8 (x4.toNat : Int), .int .u8 (x5.toNat : Int), .int .u8 (x6.toNat : Int), .int .u8 (x7.toNat : Int), .int .i64 v0, .int .i64 v1, .int .i64 v2, .int .i64 v3, .int .i64 v4]) := Lib.hid (by
        have e1 : (refOf bs).st = [x0, x1, x2, x3, x4, x5, x6, x7] := HD.out
        have b1 : (bs.drop 12).take 1 = [bs.getD 12 0] ∧ (bs.drop 13).take 1 = [bs.getD 13 0] ∧ (bs.drop 18).take 1 = [bs.getD 18 0] := by
          match bs, hl with
          | [_, _, _, _, _, _, _, _, _, _, _, _, _, _, _, _, _, _, _, _, _, _, _, _, _, _, _, _, _, _, _], _ => exact ⟨rfl, rfl, rfl⟩
        have e2 : (refOf bs).k = v0 := by rw [HV0.out, b1.1, refval_one]; rfl
        have e3 : (refOf bs).m = v1 := by rw [HV1.out, b1.2.1, refval_one]; rfl
        have e4 : (refOf bs).b = v2 := by rw [HV2.out, refval_four _ (by rw [List.length_take, List.length_drop]; omega)]; rfl
        have e5 : (refOf bs).i = v3 := by rw [HV3.out, b1.2.2, refval_one]; rfl
        have e6 : (refOf bs).e = v4 := by rw [HV4.out]; rfl
        unfold labV labCells
        rw [e1, e2, e3, e4, e5, e6]
        rfl)
      have HWF : Hid (refOf bs).Wf := Lib.hid ⟨refOf_st bs hl, by have h : (refOf bs).k = ((bs.getD 12 0).toNat : Int) := rfl; have := (bs.getD 12 0).toNat_lt; omega, by have h : (refOf bs).m = ((bs.getD 13 0).toNat : Int) := rfl; have := (bs.getD 13 0).toNat_lt; omega⟩
      have hwp : W4.heap.size > p + 1 := HAW4.out.lt
      by_cases hm : (refOf bs).may = 0
      · have hEN := refencode_ok (refOf bs) HWF.out hm W4
        rw [HLV.out] at hEN
        refine hEN.mono ?_
        rintro e V ⟨u, rfl, ho, hb⟩
        obtain ⟨a, d, rfl, _⟩ := own_shape ho
        have KA := Lib.hid (HAW4.out.below hb hwp)
        have KR := Lib.hid (HRW4.out.below hb (by omega))
        have HBV : Hid (Below w.heap.size w V) := Lib.hid (HBW4.out.trans (hb.mono HBW4.out.size))
        have hvp : V.heap.size > p + 1 := KA.out.lt
        have hva := conv_at V _ a (refOf bs).bytes 31 d (Reads.of_own ho)
        have hvb := conv_at V _ (some ad) bs 31 c (HBX.out V HBV.out)
        clear ho hb
        by_cases hsame : (refOf bs).bytes = bs
        · have HPV : Hid (Lab.parse bs = (refOf bs, 0)) := Lib.hid (refOf_same bs hl hm hsame)
          rw [hsame] at hva
          obtain ⟨s, hs⟩ : ∃ s : ByteArray, s = ⟨bs.toArray⟩ := ⟨_, rfl⟩
          rw [← hs] at hva hvb
          clear hs hm hsame
          have q0 : V.cell? ⟨p + 1, 0, none⟩ = some (.int .u8 (x0.toNat : Int)) := KA.out.cell 0; have r0 : V.cell? ⟨p, 0, none⟩ = some (.int .u8 0) := KR.out.cell 0; have q1 : V.cell? ⟨p + 1, 1, none⟩ = some (.int .u8 (x1.toNat : Int)) := KA.out.cell 1; have r1 : V.cell? ⟨p, 1, none⟩ = some (.int .u8 0) := KR.out.cell 1; have q2 : V.cell? ⟨p + 1, 2, none⟩ = some (.int .u8 (x2.toNat : Int)) := KA.out.cell 2; have r2 : V.cell? ⟨p, 2, none⟩ = some (.int .u8 0) := KR.out.cell 2; have q3 : V.cell? ⟨p + 1, 3, none⟩ = some (.int .u8 (x3.toNat : Int)) := KA.out.cell 3; have r3 : V.cell? ⟨p, 3, none⟩ = some (.int .u8 0) := KR.out.cell 3; have q4 : V.cell? ⟨p + 1, 4, none⟩ = some (.int .u8 (x4.toNat : Int)) := KA.out.cell 4; have r4 : V.cell? ⟨p, 4, none⟩ = some (.int .u8 0) := KR.out.cell 4; have q5 : V.cell? ⟨p + 1, 5, none⟩ = some (.int .u8 (x5.toNat : Int)) := KA.out.cell 5; have r5 : V.cell? ⟨p, 5, none⟩ = some (.int .u8 0) := KR.out.cell 5; have q6 : V.cell? ⟨p + 1, 6, none⟩ = some (.int .u8 (x6.toNat : Int)) := KA.out.cell 6; have r6 : V.cell? ⟨p, 6, none⟩ = some (.int .u8 0) := KR.out.cell 6; have q7 : V.cell? ⟨p + 1, 7, none⟩ = some (.int .u8 (x7.toNat : Int)) := KA.out.cell 7; have r7 : V.cell? ⟨p, 7, none⟩ = some (.int .u8 0) := KR.out.cell 7; have q8 : V.cell? ⟨p + 1, 8, none⟩ = some (.int .i64 v0) := KA.out.cell 8; have r8 : V.cell? ⟨p, 8, none⟩ = some (.int .i64 0) := KR.out.cell 8; have q9 : V.cell? ⟨p + 1, 9, none⟩ = some (.int .i64 v1) := KA.out.cell 9; have r9 : V.cell? ⟨p, 9, none⟩ = some (.int .i64 0) := KR.out.cell 9; have q10 : V.cell? ⟨p + 1, 10, none⟩ = some (.int .i64 v2) := KA.out.cell 10; have r10 : V.cell? ⟨p, 10, none⟩ = some (.int .i64 0) := KR.out.cell 10; have q11 : V.cell? ⟨p + 1, 11, none⟩ = some (.int .i64 v3) := KA.out.cell 11; have r11 : V.cell? ⟨p, 11, none⟩ = some (.int .i64 0) := KR.out.cell 11; have q12 : V.cell? ⟨p + 1, 12, none⟩ = some (.int .i64 v4) := KA.out.cell 12; have r12 : V.cell? ⟨p, 12, none⟩ = some (.int .i64 0) := KR.out.cell 12; have rf : ∀ j, V.frozen? ⟨p, j, none⟩ = false := KR.out.frozen
          go_wp2
          refine bodyPost_ret (v := .tuple #[.agg #[.int .u8 (x0.toNat : Int), .int .u8 (x1.toNat : Int), .int .u8 (x2.toNat : Int), .int .u8 (x3.toNat : Int), .int .u8 (x4.toNat : Int), .int .u8 (x5.toNat : Int), .int .u8 (x6.toNat : Int), .int .u8 (x7.toNat : Int), .int .i64 v0, .int .i64 v1, .int .i64 v2, .int .i64 v3, .int .i64 v4], .int .i64 0]) (by simp only [results, Try.results16]; go_simp) rfl ⟨by rw [HPV.out]; show _ = Ending.returned (.tuple #[labV (refOf bs), _]); rw [HLV.out], ?_⟩
          repeat (first | with_reducible exact HBV.out | with_reducible refine Below.setCell ?_ (by show w.heap.size ≤ p; omega) _ | with_reducible refine below_drewN ?_ _ | with_reducible refine below_drew1 ?_)
        · have HPV : Hid (Lab.parse bs = (Lab.zero, 150)) := Lib.hid (refOf_other bs hm hsame)
          obtain ⟨s, hs⟩ : ∃ s : ByteArray, s = ⟨bs.toArray⟩ := ⟨_, rfl⟩
          obtain ⟨s2, hs2⟩ : ∃ s : ByteArray, s = ⟨(refOf bs).bytes.toArray⟩ := ⟨_, rfl⟩
          have hne : (s2.toList == s.toList) = false := by
            rw [hs, hs2, ByteArray.toList_eq, ByteArray.toList_eq]
            simpa using hsame
          rw [← hs] at hvb
          rw [← hs2] at hva
          clear hs hs2 hm hsame
          have q0 : V.cell? ⟨p + 1, 0, none⟩ = some (.int .u8 (x0.toNat : Int)) := KA.out.cell 0; have r0 : V.cell? ⟨p, 0, none⟩ = some (.int .u8 0) := KR.out.cell 0; have q1 : V.cell? ⟨p + 1, 1, none⟩ = some (.int .u8 (x1.toNat : Int)) := KA.out.cell 1; have r1 : V.cell? ⟨p, 1, none⟩ = some (.int .u8 0) := KR.out.cell 1; have q2 : V.cell? ⟨p + 1, 2, none⟩ = some (.int .u8 (x2.toNat : Int)) := KA.out.cell 2; have r2 : V.cell? ⟨p, 2, none⟩ = some (.int .u8 0) := KR.out.cell 2; have q3 : V.cell? ⟨p + 1, 3, none⟩ = some (.int .u8 (x3.toNat : Int)) := KA.out.cell 3; have r3 : V.cell? ⟨p, 3, none⟩ = some (.int .u8 0) := KR.out.cell 3; have q4 : V.cell? ⟨p + 1, 4, none⟩ = some (.int .u8 (x4.toNat : Int)) := KA.out.cell 4; have r4 : V.cell? ⟨p, 4, none⟩ = some (.int .u8 0) := KR.out.cell 4; have q5 : V.cell? ⟨p + 1, 5, none⟩ = some (.int .u8 (x5.toNat : Int)) := KA.out.cell 5; have r5 : V.cell? ⟨p, 5, none⟩ = some (.int .u8 0) := KR.out.cell 5; have q6 : V.cell? ⟨p + 1, 6, none⟩ = some (.int .u8 (x6.toNat : Int)) := KA.out.cell 6; have r6 : V.cell? ⟨p, 6, none⟩ = some (.int .u8 0) := KR.out.cell 6; have q7 : V.cell? ⟨p + 1, 7, none⟩ = some (.int .u8 (x7.toNat : Int)) := KA.out.cell 7; have r7 : V.cell? ⟨p, 7, none⟩ = some (.int .u8 0) := KR.out.cell 7; have q8 : V.cell? ⟨p + 1, 8, none⟩ = some (.int .i64 v0) := KA.out.cell 8; have r8 : V.cell? ⟨p, 8, none⟩ = some (.int .i64 0) := KR.out.cell 8; have q9 : V.cell? ⟨p + 1, 9, none⟩ = some (.int .i64 v1) := KA.out.cell 9; have r9 : V.cell? ⟨p, 9, none⟩ = some (.int .i64 0) := KR.out.cell 9; have q10 : V.cell? ⟨p + 1, 10, none⟩ = some (.int .i64 v2) := KA.out.cell 10; have r10 : V.cell? ⟨p, 10, none⟩ = some (.int .i64 0) := KR.out.cell 10; have q11 : V.cell? ⟨p + 1, 11, none⟩ = some (.int .i64 v3) := KA.out.cell 11; have r11 : V.cell? ⟨p, 11, none⟩ = some (.int .i64 0) := KR.out.cell 11; have q12 : V.cell? ⟨p + 1, 12, none⟩ = some (.int .i64 v4) := KA.out.cell 12; have r12 : V.cell? ⟨p, 12, none⟩ = some (.int .i64 0) := KR.out.cell 12; have rf : ∀ j, V.frozen? ⟨p, j, none⟩ = false := KR.out.frozen
          go_wp2
          refine bodyPost_ret (v := .tuple #[.agg #[.int .u8 0, .int .u8 0, .int .u8 0, .int .u8 0, .int .u8 0, .int .u8 0, .int .u8 0, .int .u8 0, .int .i64 0, .int .i64 0, .int .i64 0, .int .i64 0, .int .i64 0], .int .i64 150]) (by simp only [results, Try.results16]; go_simp) rfl ⟨by rw [HPV.out]; rfl, ?_⟩
          repeat (first | with_reducible exact HBV.out | with_reducible refine Below.setCell ?_ (by show w.heap.size ≤ p; omega) _ | with_reducible refine below_drewN ?_ _ | with_reducible refine below_drew1 ?_)
      · have hEN := refencode_bad (refOf bs) HWF.out hm W4
        have HPV : Hid (Lab.parse bs = (Lab.zero, 150)) := Lib.hid (Lab.parse_bad (refOf_no bs hm))
        obtain ⟨mm, hmm⟩ : ∃ mm, mm = (refOf bs).may := ⟨_, rfl⟩
        rw [HLV.out, ← hmm] at hEN
        rw [← hmm] at hm
        have hme : (mm != 0) = true := by simp [hm]
        refine hEN.mono ?_
        rintro e V ⟨rfl, hb⟩
        have KA := Lib.hid (HAW4.out.below hb hwp)
        have KR := Lib.hid (HRW4.out.below hb (by omega))
        have HBV : Hid (Below w.heap.size w V) := Lib.hid (HBW4.out.trans (hb.mono HBW4.out.size))
        have hvp : V.heap.size > p + 1 := KA.out.lt
        clear hb hm hmm
        have q0 : V.cell? ⟨p + 1, 0, none⟩ = some (.int .u8 (x0.toNat : Int)) := KA.out.cell 0; have r0 : V.cell? ⟨p, 0, none⟩ = some (.int .u8 0) := KR.out.cell 0; have q1 : V.cell? ⟨p + 1, 1, none⟩ = some (.int .u8 (x1.toNat : Int)) := KA.out.cell 1; have r1 : V.cell? ⟨p, 1, none⟩ = some (.int .u8 0) := KR.out.cell 1; have q2 : V.cell? ⟨p + 1, 2, none⟩ = some (.int .u8 (x2.toNat : Int)) := KA.out.cell 2; have r2 : V.cell? ⟨p, 2, none⟩ = some (.int .u8 0) := KR.out.cell 2; have q3 : V.cell? ⟨p + 1, 3, none⟩ = some (.int .u8 (x3.toNat : Int)) := KA.out.cell 3; have r3 : V.cell? ⟨p, 3, none⟩ = some (.int .u8 0) := KR.out.cell 3; have q4 : V.cell? ⟨p + 1, 4, none⟩ = some (.int .u8 (x4.toNat : Int)) := KA.out.cell 4; have r4 : V.cell? ⟨p, 4, none⟩ = some (.int .u8 0) := KR.out.cell 4; have q5 : V.cell? ⟨p + 1, 5, none⟩ = some (.int .u8 (x5.toNat : Int)) := KA.out.cell 5; have r5 : V.cell? ⟨p, 5, none⟩ = some (.int .u8 0) := KR.out.cell 5; have q6 : V.cell? ⟨p + 1, 6, none⟩ = some (.int .u8 (x6.toNat : Int)) := KA.out.cell 6; have r6 : V.cell? ⟨p, 6, none⟩ = some (.int .u8 0) := KR.out.cell 6; have q7 : V.cell? ⟨p + 1, 7, none⟩ = some (.int .u8 (x7.toNat : Int)) := KA.out.cell 7; have r7 : V.cell? ⟨p, 7, none⟩ = some (.int .u8 0) := KR.out.cell 7; have q8 : V.cell? ⟨p + 1, 8, none⟩ = some (.int .i64 v0) := KA.out.cell 8; have r8 : V.cell? ⟨p, 8, none⟩ = some (.int .i64 0) := KR.out.cell 8; have q9 : V.cell? ⟨p + 1, 9, none⟩ = some (.int .i64 v1) := KA.out.cell 9; have r9 : V.cell? ⟨p, 9, none⟩ = some (.int .i64 0) := KR.out.cell 9; have q10 : V.cell? ⟨p + 1, 10, none⟩ = some (.int .i64 v2) := KA.out.cell 10; have r10 : V.cell? ⟨p, 10, none⟩ = some (.int .i64 0) := KR.out.cell 10; have q11 : V.cell? ⟨p + 1, 11, none⟩ = some (.int .i64 v3) := KA.out.cell 11; have r11 : V.cell? ⟨p, 11, none⟩ = some (.int .i64 0) := KR.out.cell 11; have q12 : V.cell? ⟨p + 1, 12, none⟩ = some (.int .i64 v4) := KA.out.cell 12; have r12 : V.cell? ⟨p, 12, none⟩ = some (.int .i64 0) := KR.out.cell 12; have rf : ∀ j, V.frozen? ⟨p, j, none⟩ = false := KR.out.frozen
        go_wp2
        refine bodyPost_ret (v := .tuple #[.agg #[.int .u8 0, .int .u8 0, .int .u8 0, .int .u8 0, .int .u8 0, .int .u8 0, .int .u8 0, .int .u8 0, .int .i64 0, .int .i64 0, .int .i64 0, .int .i64 0, .int .i64 0], .int .i64 150]) (by simp only [results, Try.results16]; go_simp) rfl ⟨by rw [HPV.out]; rfl, ?_⟩
        repeat (first | with_reducible exact HBV.out | with_reducible refine Below.setCell ?_ (by show w.heap.size ≤ p; omega) _ | with_reducible refine below_drewN ?_ _ | with_reducible refine below_drew1 ?_)
theorem refparse_any (A : Option Addr) (n c : Nat) (bs : List UInt8) (w : World) (B : Nat) (hx : Reads w B 1 A n (bs.map B8)) (hB : B ≤ w.heap.size) (hc : n ≤ c) :
    Calls Try.prog 16 #[.slice A n c] w fun e w' => e = .returned (.tuple #[labV (Lab.parse bs).1, .int .i64 (Lab.parse bs).2]) ∧ Below w.heap.size w w' := by
  have hl : bs.length = n := by have := hx.1; simpa using this
  by_cases hn : n = 31
  · subst hn
    obtain ⟨ad, rfl, _⟩ := hx.2 (by decide)
    exact refparse31 ad c bs (by omega) w B hx hB hc
  · rw [Lab.parse_bad (fun h => hn (by rw [← hl]; exact h.1))]
    exact refparse_short A n c w hn
end Go.Proofs.Ytdiaihpilniikaa
