/- What bytes say: Parse, where length and beginning are right. -/
import Derived.Test.YtdiaihpilniikaaKm
import Derived.Deep.DeepCutAuto
namespace Go.Proofs.Ytdiaihpilniikaa
open Go.RowKit Go.Maps

theorem reads_take {w : World} {B g n j : Nat} {xs : List Value} (h : Reads w B 1 (some ⟨g, 0, none⟩) n xs) (hj : j ≤ n) : Reads w B 1 (some ⟨g, 0, none⟩) j (xs.take j) := by
  refine ⟨by rw [List.length_take, h.1]; omega, fun h0 => ?_⟩
  obtain ⟨ad, e, hb, hc⟩ := h.2 (by omega)
  refine ⟨ad, e, hb, fun i u hu => hc i u ?_⟩
  rw [List.getElem?_take] at hu
  split at hu
  · exact hu
  · cases hu
theorem Reads.up {w : World} {B B' size n : Nat} {A : Option Addr} {xs : List Value} (h : Reads w B size A n xs) (hB : B ≤ B') : Reads w B' size A n xs :=
  ⟨h.1, fun hn => by obtain ⟨ad, e, hb, hc⟩ := h.2 hn; exact ⟨ad, e, by omega, hc⟩⟩
/-- The parts of 31 bytes, as a reader behind the beginning sees them. -/
theorem lab_of_parts {bs : List UInt8} (h : bs.length = 31) : Lab.of bs = ⟨((bs.drop 4).drop 0).take 8, (unle (((bs.drop 4).drop 8).take 1) : Int), (unle (((bs.drop 4).drop 9).take 1) : Int), (unle (((bs.drop 4).drop 10).take 4) : Int), (unle (((bs.drop 4).drop 14).take 1) : Int), (unle (((bs.drop 4).drop 15).take 8) : Int)⟩ ∧ bs.drop 27 = ((bs.drop 4).drop 23).take 4 := by
  match bs, h with
  | [b0, b1, b2, b3, b4, b5, b6, b7, b8, b9, b10, b11, b12, b13, b14, b15, b16, b17, b18, b19, b20, b21, b22, b23, b24, b25, b26, b27, b28, b29, b30], _ => exact ⟨rfl, rfl⟩
theorem unle_bd (l : List UInt8) (p m : Nat) : unle ((l.drop p).take m) < 256 ^ m := Nat.lt_of_lt_of_le (unle_lt _) (Nat.pow_le_pow_right (by decide) (by rw [List.length_take]; omega))
theorem wrap_u32 (q : Nat) (h : q < 4294967296) : wrap64 (q : Int) = (q : Int) := IntWalk.wrap64_in _ (by omega)

set_option maxRecDepth 100000 in
set_option maxHeartbeats 20000000 in
theorem parse_right (g c : Nat) (bs : List UInt8) (w : World) (B : Nat) (hx : Reads w B 1 (some ⟨g, 0, none⟩) 31 (bs.map B8)) (hB : B ≤ w.heap.size) (hc : 31 ≤ c) (hM : bs.take 4 = labMagic) : Calls Try.prog 17 #[.slice (some ⟨g, 0, none⟩) 31 c] w fun e w' => e = .returned (.tuple #[labV (Lab.parse bs).1, .int .i64 (Lab.parse bs).2]) ∧ Below w.heap.size w w' := by
  have hl : bs.length = 31 := by have := hx.1; simpa using this
  have HX := Lib.hid hx
  have HL := Lib.hid hl
  have HMG := Lib.hid hM
  have HQ := Lib.hid (magic_neq 67 82 78 1)
  rw [show (!([67, 82, 78, 1] == labMagic)) = false from rfl] at HQ
  have hgl : g < w.heap.size := by
    have := (reads_cells hx (j := 0) (u := B8 bs[0]) (by rw [List.getElem?_map, List.getElem?_eq_getElem (by omega)]; rfl)).2
    omega
  have hmag : ∀ j (x : UInt8), labMagic[j]? = some x → w.cell? ⟨g, j, none⟩ = some (B8 x) := fun j x hj => (reads_cells hx (j := j) (by
    rw [← hM, List.getElem?_take] at hj
    split at hj
    · rw [List.getElem?_map, hj]; rfl
    · cases hj)).1
  have HCE : Hid (∀ V : World, V.heap[g]? = w.heap[g]? → V.cell? ⟨g, 0, none⟩ = some (.int .u8 67) ∧ V.cell? ⟨g, 1, none⟩ = some (.int .u8 82) ∧ V.cell? ⟨g, 2, none⟩ = some (.int .u8 78) ∧ V.cell? ⟨g, 3, none⟩ = some (.int .u8 1)) := Lib.hid fun V hV => ⟨(World.cell?_of_block hV).trans (hmag 0 67 rfl), (World.cell?_of_block hV).trans (hmag 1 82 rfl), (World.cell?_of_block hV).trans (hmag 2 78 rfl), (World.cell?_of_block hV).trans (hmag 3 1 rfl)⟩
  have hq : ∀ W : World, (binOp .neq 56 (.agg #[.int .u8 67, .int .u8 82, .int .u8 78, .int .u8 1]) (.agg #[.int .u8 67, .int .u8 82, .int .u8 78, .int .u8 1])).run Try.prog W = .ok (.bool false) W := HQ.out
  have hgd : Try.prog.eqGuardType Try.prog.depth 56 = false := by kernel_rfl
  have hc4 : (4 : Int) ≤ (c : Int) := by omega
  have hc27 : (27 : Int) ≤ (c : Int) := by omega
  have ha4 := array4 ⟨g, 0, none⟩ c
  have HPT := Lib.hid (lab_of_parts hl)
  have HB0 := Lib.hid hB
  clear hM hx hl hmag hB
  go_enter Try.func17, Try.ntmps17
  go_upto_region 1 with fail
  go_cut [18] (fun s18 wx => s18 = .bool false ∧ Blk wx w.heap.size 26 #[.int .u8 0, .int .u8 0, .int .u8 0, .int .u8 0, .int .u8 0, .int .u8 0, .int .u8 0, .int .u8 0, .int .i64 0, .int .i64 0, .int .i64 0, .int .i64 0, .int .i64 0] ∧ Below w.heap.size w wx)
  case first =>
    have e0 : (w.alloc (.cells #[.int .u8 0, .int .u8 0, .int .u8 0, .int .u8 0, .int .u8 0, .int .u8 0, .int .u8 0, .int .u8 0, .int .i64 0, .int .i64 0, .int .i64 0, .int .i64 0, .int .i64 0] 26)).heap[g]? = w.heap[g]? := Below.heap_alloc w _ g hgl
    go_region_held3 (fun w' => w'.cell? ⟨g, 0, none⟩ = some (.int .u8 67) ∧ w'.cell? ⟨g, 1, none⟩ = some (.int .u8 82) ∧ w'.cell? ⟨g, 2, none⟩ = some (.int .u8 78) ∧ w'.cell? ⟨g, 3, none⟩ = some (.int .u8 1)) (first | exact HCE.out _ (by first | with_reducible assumption | exact e0) | go_keep)
      (first
        | (go_at_call 28; refine (magic_any _).mono ?_; rintro e w1 ⟨rfl, hb1⟩; have e1 : w1.heap[g]? = w.heap[g]? := (hb1.block g (by show g < (World.alloc w _).heap.size; rw [alloc_size]; omega)).trans e0; have HB1 : Hid (Below w.heap.size w w1) := Lib.hid (Below.trans (below_drew1 ((Below.refl _ w).alloc (Nat.le_refl _) _)) (hb1.mono (by show w.heap.size ≤ (World.alloc w _).heap.size; rw [alloc_size]; omega))); have k1 : Blk w1 w.heap.size 26 #[.int .u8 0, .int .u8 0, .int .u8 0, .int .u8 0, .int .u8 0, .int .u8 0, .int .u8 0, .int .u8 0, .int .i64 0, .int .i64 0, .int .i64 0, .int .i64 0, .int .i64 0] := ((Blk.new w _ _).drew).below hb1 (by show w.heap.size < (World.alloc w _).heap.size; rw [alloc_size]; omega); have K1 := Lib.hid k1; clear hb1 k1))
    all_goals
      go_wp2_with fail
      go_meet
      exact ⟨rfl, K1.out, HB1.out⟩
  case rest =>
    obtain ⟨rfl, hkc, hbc⟩ := hcut
    have HKC := Lib.hid hkc
    have HBC := Lib.hid hbc
    have hsc := hbc.size
    have hlz := hkc.lt
    have HXC : Hid (Reads wc w.heap.size 1 (some ⟨g, 0, none⟩) 31 (bs.map B8)) := Lib.hid ((HX.out.below (hbc.mono HB0.out)).up HB0.out)
    have HX4 : Hid (Reads wc w.heap.size 1 (some ⟨g, 4, none⟩) 27 ((bs.drop 4).map B8)) := Lib.hid (by have := reads_drop HXC.out (j := 4) (by decide); rw [← List.map_drop] at this; exact this)
    clear hkc hbc hq hgd ha4
    go_wp2_with fail
    refine (open_any (some ⟨g, 4, none⟩) 27 _ (bs.drop 4) wc _ HX4.out (by decide) (by decide)).mono ?_
    rintro e w2 ⟨r, g2, d, rfl, hrd, hr2, hg2, hb2⟩
    have HRD2 := Lib.hid hrd
    have HB2 : Hid (Below w.heap.size w w2) := Lib.hid (HBC.out.trans (hb2.mono hsc))
    have HK2 := Lib.hid (HKC.out.below hb2 hlz)
    have hs2 := hb2.size
    have hrl2 := hrd.head.lt
    have hgl2 := hrd.glt
    clear hrd hb2
    go_wp2_with fail
    refine (bytes_any r g2 27 d 0 8 (bs.drop 4) w2 HRD2.out (by decide) (by decide)).mono ?_
    rintro e w3 ⟨v3, rfl, hrd3, ho3, ht3⟩
    have hs3 := ht3.size
    obtain ⟨a0, a1, a2, a3, a4, a5, a6, a7, hst⟩ := lab_eight (s := ((bs.drop 4).drop 0).take 8) (by rw [List.length_take, List.length_drop, List.length_drop, HL.out]; rfl)
    rw [hst] at ho3
    obtain ⟨g3, c3, rfl⟩ : ∃ g3 c3, v3 = .slice (some ⟨g3, 0, none⟩) 8 c3 := by
      rcases ho3.2 with ⟨_, h0⟩ | ⟨g', cap, cur, hv, _⟩
      · omega
      · exact ⟨g', cap, hv⟩
    have hr3 := Reads.of_own ho3
    have s0 : w3.cell? ⟨g3, 0, none⟩ = some (.int .u8 (a0.toNat : Int)) := (reads_cells hr3 (j := 0) rfl).1
    have s1 : w3.cell? ⟨g3, 1, none⟩ = some (.int .u8 (a1.toNat : Int)) := (reads_cells hr3 (j := 1) rfl).1
    have s2 : w3.cell? ⟨g3, 2, none⟩ = some (.int .u8 (a2.toNat : Int)) := (reads_cells hr3 (j := 2) rfl).1
    have s3 : w3.cell? ⟨g3, 3, none⟩ = some (.int .u8 (a3.toNat : Int)) := (reads_cells hr3 (j := 3) rfl).1
    have s4 : w3.cell? ⟨g3, 4, none⟩ = some (.int .u8 (a4.toNat : Int)) := (reads_cells hr3 (j := 4) rfl).1
    have s5 : w3.cell? ⟨g3, 5, none⟩ = some (.int .u8 (a5.toNat : Int)) := (reads_cells hr3 (j := 5) rfl).1
    have s6 : w3.cell? ⟨g3, 6, none⟩ = some (.int .u8 (a6.toNat : Int)) := (reads_cells hr3 (j := 6) rfl).1
    have s7 : w3.cell? ⟨g3, 7, none⟩ = some (.int .u8 (a7.toNat : Int)) := (reads_cells hr3 (j := 7) rfl).1
    have ha8 := array8 ⟨g3, 0, none⟩ c3
    have HST := Lib.hid hst
    have HRD3 := Lib.hid hrd3
    have HT3 := Lib.hid ht3
    have HB3 : Hid (Below w.heap.size w w3) := Lib.hid (HB2.out.trans (ht3.below (Nat.le_trans hsc hs2) fun i (hi : i = r) => by omega))
    have HK3 := Lib.hid (HK2.out.touch ht3 (by omega))
    clear hst hrd3 ho3 ht3 hr3
    go_wp2_with fail
    obtain ⟨L, hL⟩ : ∃ L, L = w3.heap.size := ⟨_, rfl⟩
    rw [← hL]
    have hLr : ¬ L = r := by omega
    have hLg : ¬ L = g2 := by omega
    have hgL : g2 ≠ L := by omega
    have hrL : r ≠ L := by omega
    have hLw : ¬ w.heap.size = L := by omega
    have hLwl : w.heap.size ≤ L := by omega
    obtain ⟨X3, hX3⟩ : ∃ X, X = w3.alloc (.cells #[.int .u8 (a0.toNat : Int), .int .u8 (a1.toNat : Int), .int .u8 (a2.toNat : Int), .int .u8 (a3.toNat : Int), .int .u8 (a4.toNat : Int), .int .u8 (a5.toNat : Int), .int .u8 (a6.toNat : Int), .int .u8 (a7.toNat : Int), .int .i64 0, .int .i64 0, .int .i64 0, .int .i64 0, .int .i64 0] 26) := ⟨_, rfl⟩
    rw [← hX3]
    have hb33 : Below w3.heap.size w3 X3 := by rw [hX3]; exact (Below.refl _ _).alloc (Nat.le_refl _) _
    have HR3 := Lib.hid (HRD3.out.below hb33)
    have HL3 : Hid (Blk X3 L 26 #[.int .u8 (a0.toNat : Int), .int .u8 (a1.toNat : Int), .int .u8 (a2.toNat : Int), .int .u8 (a3.toNat : Int), .int .u8 (a4.toNat : Int), .int .u8 (a5.toNat : Int), .int .u8 (a6.toNat : Int), .int .u8 (a7.toNat : Int), .int .i64 0, .int .i64 0, .int .i64 0, .int .i64 0, .int .i64 0]) := Lib.hid (by rw [hX3, hL]; exact Blk.new _ _ _)
    have HBX3 : Hid (Below w.heap.size w X3) := Lib.hid (HB3.out.trans (hb33.mono (by omega)))
    have HKX3 := Lib.hid (HK3.out.below hb33 HK3.out.lt)
    clear hX3 hb33 s0 s1 s2 s3 s4 s5 s6 s7 hL
    obtain ⟨qK, hqK⟩ : ∃ q, q = unle (((bs.drop 4).drop 8).take 1) := ⟨_, rfl⟩
    have HqK := Lib.hid hqK
    have bqK : Hid (qK < 256) := Lib.hid (by rw [hqK]; exact unle_bd _ 8 1)
    have wqK : wrap64 (qK : Int) = (qK : Int) := wrap_u32 qK (by have := bqK.out; omega)
    refine (take8_any r g2 27 d 8 (bs.drop 4) X3 HR3.out (by decide)).mono ?_
    rw [← hqK]
    rintro e w4 ⟨rfl, hrd, ht⟩
    have hs4 := ht.size
    have k4 : Blk w4 L 26 #[.int .u8 (a0.toNat : Int), .int .u8 (a1.toNat : Int), .int .u8 (a2.toNat : Int), .int .u8 (a3.toNat : Int), .int .u8 (a4.toNat : Int), .int .u8 (a5.toNat : Int), .int .u8 (a6.toNat : Int), .int .u8 (a7.toNat : Int), .int .i64 0, .int .i64 0, .int .i64 0, .int .i64 0, .int .i64 0] := HL3.out.touch ht hLr
    have y4 : w4.cell? ⟨L, 8, none⟩ = some (.int .i64 0) := k4.cell 8
    have yf4 : ∀ i, w4.frozen? ⟨L, i, none⟩ = false := k4.frozen
    have HR4 : Hid (RdAt (w4.setCell ⟨L, 8, none⟩ (.int .i64 (qK : Int))) r g2 27 d 9 (bs.drop 4)) := Lib.hid (hrd.keep (Below.heap_setCell w4 ⟨L, 8, none⟩ _ r hrL) (Below.heap_setCell w4 ⟨L, 8, none⟩ _ g2 hgL))
    have HL4 : Hid (Blk (w4.setCell ⟨L, 8, none⟩ (.int .i64 (qK : Int))) L 26 #[.int .u8 (a0.toNat : Int), .int .u8 (a1.toNat : Int), .int .u8 (a2.toNat : Int), .int .u8 (a3.toNat : Int), .int .u8 (a4.toNat : Int), .int .u8 (a5.toNat : Int), .int .u8 (a6.toNat : Int), .int .u8 (a7.toNat : Int), .int .i64 (qK : Int), .int .i64 0, .int .i64 0, .int .i64 0, .int .i64 0]) := Lib.hid (k4.set_ 8 (.int .i64 (qK : Int)))
    have HBX4 : Hid (Below w.heap.size w (w4.setCell ⟨L, 8, none⟩ (.int .i64 (qK : Int)))) := Lib.hid ((HBX3.out.trans (ht.below HBX3.out.size fun i (hi : i = r) => by omega)).setCell hLwl _)
    have HKX4 : Hid (Blk (w4.setCell ⟨L, 8, none⟩ (.int .i64 (qK : Int))) w.heap.size 26 #[.int .u8 0, .int .u8 0, .int .u8 0, .int .u8 0, .int .u8 0, .int .u8 0, .int .u8 0, .int .u8 0, .int .i64 0, .int .i64 0, .int .i64 0, .int .i64 0, .int .i64 0]) := Lib.hid ((HKX3.out.touch ht (by omega)).far hLw _)
    clear hqK hrd ht k4
    go_wp2_with fail
    clear y4 yf4
    obtain ⟨qM, hqM⟩ : ∃ q, q = unle (((bs.drop 4).drop 9).take 1) := ⟨_, rfl⟩
    have HqM := Lib.hid hqM
    have bqM : Hid (qM < 256) := Lib.hid (by rw [hqM]; exact unle_bd _ 9 1)
    have wqM : wrap64 (qM : Int) = (qM : Int) := wrap_u32 qM (by have := bqM.out; omega)
    refine (take8_any r g2 27 d 9 (bs.drop 4) (w4.setCell ⟨L, 8, none⟩ (.int .i64 (qK : Int))) HR4.out (by decide)).mono ?_
    rw [← hqM]
    rintro e w5 ⟨rfl, hrd, ht⟩
    have hs5 := ht.size
    have k5 : Blk w5 L 26 #[.int .u8 (a0.toNat : Int), .int .u8 (a1.toNat : Int), .int .u8 (a2.toNat : Int), .int .u8 (a3.toNat : Int), .int .u8 (a4.toNat : Int), .int .u8 (a5.toNat : Int), .int .u8 (a6.toNat : Int), .int .u8 (a7.toNat : Int), .int .i64 (qK : Int), .int .i64 0, .int .i64 0, .int .i64 0, .int .i64 0] := HL4.out.touch ht hLr
    have y5 : w5.cell? ⟨L, 9, none⟩ = some (.int .i64 0) := k5.cell 9
    have yf5 : ∀ i, w5.frozen? ⟨L, i, none⟩ = false := k5.frozen
    have HR5 : Hid (RdAt (w5.setCell ⟨L, 9, none⟩ (.int .i64 (qM : Int))) r g2 27 d 10 (bs.drop 4)) := Lib.hid (hrd.keep (Below.heap_setCell w5 ⟨L, 9, none⟩ _ r hrL) (Below.heap_setCell w5 ⟨L, 9, none⟩ _ g2 hgL))
    have HL5 : Hid (Blk (w5.setCell ⟨L, 9, none⟩ (.int .i64 (qM : Int))) L 26 #[.int .u8 (a0.toNat : Int), .int .u8 (a1.toNat : Int), .int .u8 (a2.toNat : Int), .int .u8 (a3.toNat : Int), .int .u8 (a4.toNat : Int), .int .u8 (a5.toNat : Int), .int .u8 (a6.toNat : Int), .int .u8 (a7.toNat : Int), .int .i64 (qK : Int), .int .i64 (qM : Int), .int .i64 0, .int .i64 0, .int .i64 0]) := Lib.hid (k5.set_ 9 (.int .i64 (qM : Int)))
    have HBX5 : Hid (Below w.heap.size w (w5.setCell ⟨L, 9, none⟩ (.int .i64 (qM : Int)))) := Lib.hid ((HBX4.out.trans (ht.below HBX4.out.size fun i (hi : i = r) => by omega)).setCell hLwl _)
    have HKX5 : Hid (Blk (w5.setCell ⟨L, 9, none⟩ (.int .i64 (qM : Int))) w.heap.size 26 #[.int .u8 0, .int .u8 0, .int .u8 0, .int .u8 0, .int .u8 0, .int .u8 0, .int .u8 0, .int .u8 0, .int .i64 0, .int .i64 0, .int .i64 0, .int .i64 0, .int .i64 0]) := Lib.hid ((HKX4.out.touch ht (by omega)).far hLw _)
    clear hqM hrd ht k5
    go_wp2_with fail
    clear y5 yf5
    obtain ⟨qB, hqB⟩ : ∃ q, q = unle (((bs.drop 4).drop 10).take 4) := ⟨_, rfl⟩
    have HqB := Lib.hid hqB
    have bqB : Hid (qB < 4294967296) := Lib.hid (by rw [hqB]; exact unle_bd _ 10 4)
    have wqB : wrap64 (qB : Int) = (qB : Int) := wrap_u32 qB (by have := bqB.out; omega)
    refine (take32_any r g2 27 d 10 (bs.drop 4) (w5.setCell ⟨L, 9, none⟩ (.int .i64 (qM : Int))) HR5.out (by decide)).mono ?_
    rw [← hqB]
    rintro e w6 ⟨rfl, hrd, ht⟩
    have hs6 := ht.size
    have k6 : Blk w6 L 26 #[.int .u8 (a0.toNat : Int), .int .u8 (a1.toNat : Int), .int .u8 (a2.toNat : Int), .int .u8 (a3.toNat : Int), .int .u8 (a4.toNat : Int), .int .u8 (a5.toNat : Int), .int .u8 (a6.toNat : Int), .int .u8 (a7.toNat : Int), .int .i64 (qK : Int), .int .i64 (qM : Int), .int .i64 0, .int .i64 0, .int .i64 0] := HL5.out.touch ht hLr
    have y6 : w6.cell? ⟨L, 10, none⟩ = some (.int .i64 0) := k6.cell 10
    have yf6 : ∀ i, w6.frozen? ⟨L, i, none⟩ = false := k6.frozen
    have HR6 : Hid (RdAt (w6.setCell ⟨L, 10, none⟩ (.int .i64 (qB : Int))) r g2 27 d 14 (bs.drop 4)) := Lib.hid (hrd.keep (Below.heap_setCell w6 ⟨L, 10, none⟩ _ r hrL) (Below.heap_setCell w6 ⟨L, 10, none⟩ _ g2 hgL))
    have HL6 : Hid (Blk (w6.setCell ⟨L, 10, none⟩ (.int .i64 (qB : Int))) L 26 #[.int .u8 (a0.toNat : Int), .int .u8 (a1.toNat : Int), .int .u8 (a2.toNat : Int), .int .u8 (a3.toNat : Int), .int .u8 (a4.toNat : Int), .int .u8 (a5.toNat : Int), .int .u8 (a6.toNat : Int), .int .u8 (a7.toNat : Int), .int .i64 (qK : Int), .int .i64 (qM : Int), .int .i64 (qB : Int), .int .i64 0, .int .i64 0]) := Lib.hid (k6.set_ 10 (.int .i64 (qB : Int)))
    have HBX6 : Hid (Below w.heap.size w (w6.setCell ⟨L, 10, none⟩ (.int .i64 (qB : Int)))) := Lib.hid ((HBX5.out.trans (ht.below HBX5.out.size fun i (hi : i = r) => by omega)).setCell hLwl _)
    have HKX6 : Hid (Blk (w6.setCell ⟨L, 10, none⟩ (.int .i64 (qB : Int))) w.heap.size 26 #[.int .u8 0, .int .u8 0, .int .u8 0, .int .u8 0, .int .u8 0, .int .u8 0, .int .u8 0, .int .u8 0, .int .i64 0, .int .i64 0, .int .i64 0, .int .i64 0, .int .i64 0]) := Lib.hid ((HKX5.out.touch ht (by omega)).far hLw _)
    clear hqB hrd ht k6
    go_wp2_with fail
    clear y6 yf6
    obtain ⟨qI, hqI⟩ : ∃ q, q = unle (((bs.drop 4).drop 14).take 1) := ⟨_, rfl⟩
    have HqI := Lib.hid hqI
    have bqI : Hid (qI < 256) := Lib.hid (by rw [hqI]; exact unle_bd _ 14 1)
    have wqI : wrap64 (qI : Int) = (qI : Int) := wrap_u32 qI (by have := bqI.out; omega)
    refine (take8_any r g2 27 d 14 (bs.drop 4) (w6.setCell ⟨L, 10, none⟩ (.int .i64 (qB : Int))) HR6.out (by decide)).mono ?_
    rw [← hqI]
    rintro e w7 ⟨rfl, hrd, ht⟩
    have hs7 := ht.size
    have k7 : Blk w7 L 26 #[.int .u8 (a0.toNat : Int), .int .u8 (a1.toNat : Int), .int .u8 (a2.toNat : Int), .int .u8 (a3.toNat : Int), .int .u8 (a4.toNat : Int), .int .u8 (a5.toNat : Int), .int .u8 (a6.toNat : Int), .int .u8 (a7.toNat : Int), .int .i64 (qK : Int), .int .i64 (qM : Int), .int .i64 (qB : Int), .int .i64 0, .int .i64 0] := HL6.out.touch ht hLr
    have y7 : w7.cell? ⟨L, 11, none⟩ = some (.int .i64 0) := k7.cell 11
    have yf7 : ∀ i, w7.frozen? ⟨L, i, none⟩ = false := k7.frozen
    have HR7 : Hid (RdAt (w7.setCell ⟨L, 11, none⟩ (.int .i64 (qI : Int))) r g2 27 d 15 (bs.drop 4)) := Lib.hid (hrd.keep (Below.heap_setCell w7 ⟨L, 11, none⟩ _ r hrL) (Below.heap_setCell w7 ⟨L, 11, none⟩ _ g2 hgL))
    have HL7 : Hid (Blk (w7.setCell ⟨L, 11, none⟩ (.int .i64 (qI : Int))) L 26 #[.int .u8 (a0.toNat : Int), .int .u8 (a1.toNat : Int), .int .u8 (a2.toNat : Int), .int .u8 (a3.toNat : Int), .int .u8 (a4.toNat : Int), .int .u8 (a5.toNat : Int), .int .u8 (a6.toNat : Int), .int .u8 (a7.toNat : Int), .int .i64 (qK : Int), .int .i64 (qM : Int), .int .i64 (qB : Int), .int .i64 (qI : Int), .int .i64 0]) := Lib.hid (k7.set_ 11 (.int .i64 (qI : Int)))
    have HBX7 : Hid (Below w.heap.size w (w7.setCell ⟨L, 11, none⟩ (.int .i64 (qI : Int)))) := Lib.hid ((HBX6.out.trans (ht.below HBX6.out.size fun i (hi : i = r) => by omega)).setCell hLwl _)
    have HKX7 : Hid (Blk (w7.setCell ⟨L, 11, none⟩ (.int .i64 (qI : Int))) w.heap.size 26 #[.int .u8 0, .int .u8 0, .int .u8 0, .int .u8 0, .int .u8 0, .int .u8 0, .int .u8 0, .int .u8 0, .int .i64 0, .int .i64 0, .int .i64 0, .int .i64 0, .int .i64 0]) := Lib.hid ((HKX6.out.touch ht (by omega)).far hLw _)
    clear hqI hrd ht k7
    go_wp2_with fail
    clear y7 yf7
    obtain ⟨qE, hqE⟩ : ∃ q, q = unle (((bs.drop 4).drop 15).take 8) := ⟨_, rfl⟩
    have HqE := Lib.hid hqE
    have bqE : Hid (qE < 18446744073709551616) := Lib.hid (by rw [hqE]; exact unle_bd _ 15 8)
    refine (take64_any r g2 27 d 15 (bs.drop 4) (w7.setCell ⟨L, 11, none⟩ (.int .i64 (qI : Int))) HR7.out (by decide)).mono ?_
    rw [← hqE]
    rintro e w8 ⟨rfl, hrd, ht⟩
    have hs8 := ht.size
    have HR8 := Lib.hid hrd
    have HL8 := Lib.hid (HL7.out.touch ht hLr)
    have HBX8 : Hid (Below w.heap.size w w8) := Lib.hid (HBX7.out.trans (ht.below HBX7.out.size fun i (hi : i = r) => by omega))
    have HKX8 := Lib.hid (HKX7.out.touch ht (by omega))
    clear hqE hrd ht
    go_wp2_with fail
    obtain ⟨qS, hqS⟩ : ∃ q, q = unle (((bs.drop 4).drop 23).take 4) := ⟨_, rfl⟩
    have HqS := Lib.hid hqS
    have bqS : Hid (qS < 4294967296) := Lib.hid (by rw [hqS]; exact unle_bd _ 23 4)
    have wqS : wrap64 (qS : Int) = (qS : Int) := wrap_u32 qS (by have := bqS.out; omega)
    refine (take32_any r g2 27 d 23 (bs.drop 4) w8 HR8.out (by decide)).mono ?_
    rw [← hqS]
    rintro e w9 ⟨rfl, hrd, ht⟩
    have hs9 := ht.size
    have HR9 := Lib.hid hrd
    have HL9 := Lib.hid (HL8.out.touch ht hLr)
    have HBX9 : Hid (Below w.heap.size w w9) := Lib.hid (HBX8.out.trans (ht.below HBX8.out.size fun i (hi : i = r) => by omega))
    have HKX9 := Lib.hid (HKX8.out.touch ht (by omega))
    clear hqS hrd ht
    have HLO : Hid (Lab.of bs = ⟨[a0, a1, a2, a3, a4, a5, a6, a7], (qK : Int), (qM : Int), (qB : Int), (qI : Int), (qE : Int)⟩) := Lib.hid (by rw [HPT.out.1, HST.out, ← HqK.out, ← HqM.out, ← HqB.out, ← HqI.out, ← HqE.out])
    have HUS : Hid (unle (bs.drop 27) = qS) := Lib.hid (by rw [HPT.out.2, ← HqS.out])
    obtain ⟨z, hz⟩ : ∃ z, wrap64 (qE : Int) = z := ⟨_, rfl⟩
    have HZE : Hid (qE ≤ 4294967295 → z = (qE : Int)) := Lib.hid fun h => by rw [← hz]; exact wrap_u32 qE (by omega)
    have y12 : w9.cell? ⟨L, 12, none⟩ = some (.int .i64 0) := HL9.out.cell 12
    have yf9 : ∀ i, w9.frozen? ⟨L, i, none⟩ = false := HL9.out.frozen
    go_wp2_with fail
    clear y12 yf9 hz
    have HR10 : Hid (RdAt (w9.setCell ⟨L, 12, none⟩ (.int .i64 z)) r g2 27 d 27 (bs.drop 4)) := Lib.hid (HR9.out.keep (Below.heap_setCell w9 ⟨L, 12, none⟩ _ r hrL) (Below.heap_setCell w9 ⟨L, 12, none⟩ _ g2 hgL))
    have HL10 : Hid (Blk (w9.setCell ⟨L, 12, none⟩ (.int .i64 z)) L 26 #[.int .u8 (a0.toNat : Int), .int .u8 (a1.toNat : Int), .int .u8 (a2.toNat : Int), .int .u8 (a3.toNat : Int), .int .u8 (a4.toNat : Int), .int .u8 (a5.toNat : Int), .int .u8 (a6.toNat : Int), .int .u8 (a7.toNat : Int), .int .i64 (qK : Int), .int .i64 (qM : Int), .int .i64 (qB : Int), .int .i64 (qI : Int), .int .i64 z]) := Lib.hid (HL9.out.set_ 12 (.int .i64 z))
    have HBX10 : Hid (Below w.heap.size w (w9.setCell ⟨L, 12, none⟩ (.int .i64 z))) := Lib.hid (HBX9.out.setCell hLwl _)
    have HKX10 : Hid (Blk (w9.setCell ⟨L, 12, none⟩ (.int .i64 z)) w.heap.size 26 #[.int .u8 0, .int .u8 0, .int .u8 0, .int .u8 0, .int .u8 0, .int .u8 0, .int .u8 0, .int .u8 0, .int .i64 0, .int .i64 0, .int .i64 0, .int .i64 0, .int .i64 0]) := Lib.hid (HKX9.out.far hLw _)
    refine (end_any r g2 27 d 27 (bs.drop 4) _ HR10.out rfl).mono ?_
    rintro e w10 ⟨rfl, kd, hw10⟩
    have HL11 : Hid (Blk w10 L 26 #[.int .u8 (a0.toNat : Int), .int .u8 (a1.toNat : Int), .int .u8 (a2.toNat : Int), .int .u8 (a3.toNat : Int), .int .u8 (a4.toNat : Int), .int .u8 (a5.toNat : Int), .int .u8 (a6.toNat : Int), .int .u8 (a7.toNat : Int), .int .i64 (qK : Int), .int .i64 (qM : Int), .int .i64 (qB : Int), .int .i64 (qI : Int), .int .i64 z]) := Lib.hid (by rw [hw10]; exact HL10.out.drewN kd)
    have HB11 : Hid (Below w.heap.size w w10) := Lib.hid (by rw [hw10]; exact below_drewN HBX10.out kd)
    have HK11 : Hid (Blk w10 w.heap.size 26 #[.int .u8 0, .int .u8 0, .int .u8 0, .int .u8 0, .int .u8 0, .int .u8 0, .int .u8 0, .int .u8 0, .int .i64 0, .int .i64 0, .int .i64 0, .int .i64 0, .int .i64 0]) := Lib.hid (by rw [hw10]; exact HKX10.out.drewN kd)
    have hs10 := HB11.out.size
    have hL10 := HL11.out.lt
    clear hw10
    have HX27 : Hid (Reads w10 w.heap.size 1 (some ⟨g, 0, none⟩) 27 ((bs.take 27).map B8)) := Lib.hid (by
      have := reads_take ((HX.out.below (HB11.out.mono HB0.out)).up HB0.out) (j := 27) (by decide)
      rw [← List.map_take] at this; exact this)
    by_cases hE : qE ≤ 4294967295
    case' neg =>
      have hE2 : (4294967295 : Int) < (qE : Int) := by omega
      have HBAD : Hid (¬Lab.reads bs) := Lib.hid fun h => by
        have h1 := may_fits h.2.2.2
        rw [HLO.out] at h1
        have := h1.2.2.2.2.2.2.2.2
        simp only at this
        omega
      clear hE
      have u0 : w10.cell? ⟨w.heap.size, 0, none⟩ = some (.int .u8 0) := HK11.out.cell 0
      have u1 : w10.cell? ⟨w.heap.size, 1, none⟩ = some (.int .u8 0) := HK11.out.cell 1
      have u2 : w10.cell? ⟨w.heap.size, 2, none⟩ = some (.int .u8 0) := HK11.out.cell 2
      have u3 : w10.cell? ⟨w.heap.size, 3, none⟩ = some (.int .u8 0) := HK11.out.cell 3
      have u4 : w10.cell? ⟨w.heap.size, 4, none⟩ = some (.int .u8 0) := HK11.out.cell 4
      have u5 : w10.cell? ⟨w.heap.size, 5, none⟩ = some (.int .u8 0) := HK11.out.cell 5
      have u6 : w10.cell? ⟨w.heap.size, 6, none⟩ = some (.int .u8 0) := HK11.out.cell 6
      have u7 : w10.cell? ⟨w.heap.size, 7, none⟩ = some (.int .u8 0) := HK11.out.cell 7
      have u8 : w10.cell? ⟨w.heap.size, 8, none⟩ = some (.int .i64 0) := HK11.out.cell 8
      have u9 : w10.cell? ⟨w.heap.size, 9, none⟩ = some (.int .i64 0) := HK11.out.cell 9
      have u10 : w10.cell? ⟨w.heap.size, 10, none⟩ = some (.int .i64 0) := HK11.out.cell 10
      have u11 : w10.cell? ⟨w.heap.size, 11, none⟩ = some (.int .i64 0) := HK11.out.cell 11
      have u12 : w10.cell? ⟨w.heap.size, 12, none⟩ = some (.int .i64 0) := HK11.out.cell 12
      have uf : ∀ i, w10.frozen? ⟨w.heap.size, i, none⟩ = false := HK11.out.frozen
      go_wp2
      refine bodyPost_ret (v := .tuple #[.agg #[.int .u8 0, .int .u8 0, .int .u8 0, .int .u8 0, .int .u8 0, .int .u8 0, .int .u8 0, .int .u8 0, .int .i64 0, .int .i64 0, .int .i64 0, .int .i64 0, .int .i64 0], .int .i64 150]) (by simp only [results, Try.results17]; go_simp) rfl ⟨?_, ?_⟩
      · rw [Lab.parse_bad HBAD.out]; rfl
      · iterate 13 (with_reducible refine Below.setCell ?_ (by simp) _)
        exact HB11.out

    case' pos =>
      have hE2 : ¬((4294967295 : Int) < (qE : Int)) := by omega
      have hzE : z = (qE : Int) := HZE.out hE
      subst hzE
      clear hE
      go_wp2_with fail
      refine (sum_any (some ⟨g, 0, none⟩) 27 c (bs.take 27) w10 _ HX27.out hs10 (by decide)).mono ?_
      rintro e w11 ⟨rfl, hb11⟩
      have HL12 := Lib.hid (HL11.out.below hb11 hL10)
      have HK12 := Lib.hid (HK11.out.below hb11 HK11.out.lt)
      have HB12 : Hid (Below w.heap.size w w11) := Lib.hid (HB11.out.trans (hb11.mono hs10))
      have hs11 := hb11.size
      clear hb11
      obtain ⟨cs, hcs⟩ : ∃ q, q = crcSum (bs.take 27) := ⟨_, rfl⟩
      have HCS := Lib.hid hcs
      rw [← hcs]
      clear hcs
      by_cases hS : qS = cs
      case' neg =>
        have hS2 : ((qS : Int) != (cs : Int)) = true := by simp; omega
        have HBAD : Hid (¬Lab.reads bs) := Lib.hid fun h => by
          have h1 := h.2.2.1
          rw [HUS.out, ← HCS.out] at h1
          exact hS h1
        clear hS
        have u0 : w11.cell? ⟨w.heap.size, 0, none⟩ = some (.int .u8 0) := HK12.out.cell 0
        have u1 : w11.cell? ⟨w.heap.size, 1, none⟩ = some (.int .u8 0) := HK12.out.cell 1
        have u2 : w11.cell? ⟨w.heap.size, 2, none⟩ = some (.int .u8 0) := HK12.out.cell 2
        have u3 : w11.cell? ⟨w.heap.size, 3, none⟩ = some (.int .u8 0) := HK12.out.cell 3
        have u4 : w11.cell? ⟨w.heap.size, 4, none⟩ = some (.int .u8 0) := HK12.out.cell 4
        have u5 : w11.cell? ⟨w.heap.size, 5, none⟩ = some (.int .u8 0) := HK12.out.cell 5
        have u6 : w11.cell? ⟨w.heap.size, 6, none⟩ = some (.int .u8 0) := HK12.out.cell 6
        have u7 : w11.cell? ⟨w.heap.size, 7, none⟩ = some (.int .u8 0) := HK12.out.cell 7
        have u8 : w11.cell? ⟨w.heap.size, 8, none⟩ = some (.int .i64 0) := HK12.out.cell 8
        have u9 : w11.cell? ⟨w.heap.size, 9, none⟩ = some (.int .i64 0) := HK12.out.cell 9
        have u10 : w11.cell? ⟨w.heap.size, 10, none⟩ = some (.int .i64 0) := HK12.out.cell 10
        have u11 : w11.cell? ⟨w.heap.size, 11, none⟩ = some (.int .i64 0) := HK12.out.cell 11
        have u12 : w11.cell? ⟨w.heap.size, 12, none⟩ = some (.int .i64 0) := HK12.out.cell 12
        have uf : ∀ i, w11.frozen? ⟨w.heap.size, i, none⟩ = false := HK12.out.frozen
        go_wp2
        refine bodyPost_ret (v := .tuple #[.agg #[.int .u8 0, .int .u8 0, .int .u8 0, .int .u8 0, .int .u8 0, .int .u8 0, .int .u8 0, .int .u8 0, .int .i64 0, .int .i64 0, .int .i64 0, .int .i64 0, .int .i64 0], .int .i64 150]) (by simp only [results, Try.results17]; go_simp) rfl ⟨?_, ?_⟩
        · rw [Lab.parse_bad HBAD.out]; rfl
        · iterate 13 (with_reducible refine Below.setCell ?_ (by simp) _)
          exact HB12.out

      case' pos =>
        have hS2 : ((qS : Int) != (cs : Int)) = false := by simp; omega
        have HLV : Hid (labV (Lab.of bs) = .agg #[.int .u8 (a0.toNat : Int), .int .u8 (a1.toNat : Int), .int .u8 (a2.toNat : Int), .int .u8 (a3.toNat : Int), .int .u8 (a4.toNat : Int), .int .u8 (a5.toNat : Int), .int .u8 (a6.toNat : Int), .int .u8 (a7.toNat : Int), .int .i64 (qK : Int), .int .i64 (qM : Int), .int .i64 (qB : Int), .int .i64 (qI : Int), .int .i64 (qE : Int)]) := Lib.hid (by rw [HLO.out]; rfl)
        have HWF : Hid ((Lab.of bs).Wf) := Lib.hid (by rw [HLO.out]; exact ⟨rfl, ⟨by simp only; omega, by have := bqK.out; simp only; omega⟩, ⟨by simp only; omega, by have := bqM.out; simp only; omega⟩⟩)
        have t0 : w11.cell? ⟨L, 0, none⟩ = some (.int .u8 (a0.toNat : Int)) := HL12.out.cell 0
        have t1 : w11.cell? ⟨L, 1, none⟩ = some (.int .u8 (a1.toNat : Int)) := HL12.out.cell 1
        have t2 : w11.cell? ⟨L, 2, none⟩ = some (.int .u8 (a2.toNat : Int)) := HL12.out.cell 2
        have t3 : w11.cell? ⟨L, 3, none⟩ = some (.int .u8 (a3.toNat : Int)) := HL12.out.cell 3
        have t4 : w11.cell? ⟨L, 4, none⟩ = some (.int .u8 (a4.toNat : Int)) := HL12.out.cell 4
        have t5 : w11.cell? ⟨L, 5, none⟩ = some (.int .u8 (a5.toNat : Int)) := HL12.out.cell 5
        have t6 : w11.cell? ⟨L, 6, none⟩ = some (.int .u8 (a6.toNat : Int)) := HL12.out.cell 6
        have t7 : w11.cell? ⟨L, 7, none⟩ = some (.int .u8 (a7.toNat : Int)) := HL12.out.cell 7
        have t8 : w11.cell? ⟨L, 8, none⟩ = some (.int .i64 (qK : Int)) := HL12.out.cell 8
        have t9 : w11.cell? ⟨L, 9, none⟩ = some (.int .i64 (qM : Int)) := HL12.out.cell 9
        have t10 : w11.cell? ⟨L, 10, none⟩ = some (.int .i64 (qB : Int)) := HL12.out.cell 10
        have t11 : w11.cell? ⟨L, 11, none⟩ = some (.int .i64 (qI : Int)) := HL12.out.cell 11
        have t12 : w11.cell? ⟨L, 12, none⟩ = some (.int .i64 (qE : Int)) := HL12.out.cell 12
        go_wp2_with fail
        rw [← HLV.out]
        refine (check_any (Lab.of bs) HWF.out w11).mono ?_
        rintro e w12 ⟨rfl, hb12⟩
        have HL13 := Lib.hid (HL12.out.below hb12 HL12.out.lt)
        have HK13 := Lib.hid (HK12.out.below hb12 HK12.out.lt)
        have HB13 : Hid (Below w.heap.size w w12) := Lib.hid (HB12.out.trans (hb12.mono HB12.out.size))
        clear hb12 t0 t1 t2 t3 t4 t5 t6 t7 t8 t9 t10 t11 t12
        by_cases hm : (Lab.of bs).may = 0
        case' neg =>
          have HBAD : Hid (¬Lab.reads bs) := Lib.hid fun h => hm h.2.2.2
          obtain ⟨my, hmy⟩ : ∃ my, my = (Lab.of bs).may := ⟨_, rfl⟩
          rw [← hmy] at hm ⊢
          have hm2 : (my != 0) = true := by simp [hm]
          clear hm hmy
          have u0 : w12.cell? ⟨w.heap.size, 0, none⟩ = some (.int .u8 0) := HK13.out.cell 0
          have u1 : w12.cell? ⟨w.heap.size, 1, none⟩ = some (.int .u8 0) := HK13.out.cell 1
          have u2 : w12.cell? ⟨w.heap.size, 2, none⟩ = some (.int .u8 0) := HK13.out.cell 2
          have u3 : w12.cell? ⟨w.heap.size, 3, none⟩ = some (.int .u8 0) := HK13.out.cell 3
          have u4 : w12.cell? ⟨w.heap.size, 4, none⟩ = some (.int .u8 0) := HK13.out.cell 4
          have u5 : w12.cell? ⟨w.heap.size, 5, none⟩ = some (.int .u8 0) := HK13.out.cell 5
          have u6 : w12.cell? ⟨w.heap.size, 6, none⟩ = some (.int .u8 0) := HK13.out.cell 6
          have u7 : w12.cell? ⟨w.heap.size, 7, none⟩ = some (.int .u8 0) := HK13.out.cell 7
          have u8 : w12.cell? ⟨w.heap.size, 8, none⟩ = some (.int .i64 0) := HK13.out.cell 8
          have u9 : w12.cell? ⟨w.heap.size, 9, none⟩ = some (.int .i64 0) := HK13.out.cell 9
          have u10 : w12.cell? ⟨w.heap.size, 10, none⟩ = some (.int .i64 0) := HK13.out.cell 10
          have u11 : w12.cell? ⟨w.heap.size, 11, none⟩ = some (.int .i64 0) := HK13.out.cell 11
          have u12 : w12.cell? ⟨w.heap.size, 12, none⟩ = some (.int .i64 0) := HK13.out.cell 12
          have uf : ∀ i, w12.frozen? ⟨w.heap.size, i, none⟩ = false := HK13.out.frozen
          go_wp2
          refine bodyPost_ret (v := .tuple #[.agg #[.int .u8 0, .int .u8 0, .int .u8 0, .int .u8 0, .int .u8 0, .int .u8 0, .int .u8 0, .int .u8 0, .int .i64 0, .int .i64 0, .int .i64 0, .int .i64 0, .int .i64 0], .int .i64 150]) (by simp only [results, Try.results17]; go_simp) rfl ⟨?_, ?_⟩
          · rw [Lab.parse_bad HBAD.out]; rfl
          · iterate 13 (with_reducible refine Below.setCell ?_ (by simp) _)
            exact HB13.out

        case' pos =>
          have HOKR : Hid (Lab.parse bs = (Lab.of bs, 0)) := Lib.hid (if_pos ⟨HL.out, HMG.out, (HUS.out.trans hS).trans HCS.out, hm⟩)
          rw [hm]
          clear hm hS
          have t0 : w12.cell? ⟨L, 0, none⟩ = some (.int .u8 (a0.toNat : Int)) := HL13.out.cell 0
          have t1 : w12.cell? ⟨L, 1, none⟩ = some (.int .u8 (a1.toNat : Int)) := HL13.out.cell 1
          have t2 : w12.cell? ⟨L, 2, none⟩ = some (.int .u8 (a2.toNat : Int)) := HL13.out.cell 2
          have t3 : w12.cell? ⟨L, 3, none⟩ = some (.int .u8 (a3.toNat : Int)) := HL13.out.cell 3
          have t4 : w12.cell? ⟨L, 4, none⟩ = some (.int .u8 (a4.toNat : Int)) := HL13.out.cell 4
          have t5 : w12.cell? ⟨L, 5, none⟩ = some (.int .u8 (a5.toNat : Int)) := HL13.out.cell 5
          have t6 : w12.cell? ⟨L, 6, none⟩ = some (.int .u8 (a6.toNat : Int)) := HL13.out.cell 6
          have t7 : w12.cell? ⟨L, 7, none⟩ = some (.int .u8 (a7.toNat : Int)) := HL13.out.cell 7
          have t8 : w12.cell? ⟨L, 8, none⟩ = some (.int .i64 (qK : Int)) := HL13.out.cell 8
          have t9 : w12.cell? ⟨L, 9, none⟩ = some (.int .i64 (qM : Int)) := HL13.out.cell 9
          have t10 : w12.cell? ⟨L, 10, none⟩ = some (.int .i64 (qB : Int)) := HL13.out.cell 10
          have t11 : w12.cell? ⟨L, 11, none⟩ = some (.int .i64 (qI : Int)) := HL13.out.cell 11
          have t12 : w12.cell? ⟨L, 12, none⟩ = some (.int .i64 (qE : Int)) := HL13.out.cell 12
          have u0 : w12.cell? ⟨w.heap.size, 0, none⟩ = some (.int .u8 0) := HK13.out.cell 0
          have u1 : w12.cell? ⟨w.heap.size, 1, none⟩ = some (.int .u8 0) := HK13.out.cell 1
          have u2 : w12.cell? ⟨w.heap.size, 2, none⟩ = some (.int .u8 0) := HK13.out.cell 2
          have u3 : w12.cell? ⟨w.heap.size, 3, none⟩ = some (.int .u8 0) := HK13.out.cell 3
          have u4 : w12.cell? ⟨w.heap.size, 4, none⟩ = some (.int .u8 0) := HK13.out.cell 4
          have u5 : w12.cell? ⟨w.heap.size, 5, none⟩ = some (.int .u8 0) := HK13.out.cell 5
          have u6 : w12.cell? ⟨w.heap.size, 6, none⟩ = some (.int .u8 0) := HK13.out.cell 6
          have u7 : w12.cell? ⟨w.heap.size, 7, none⟩ = some (.int .u8 0) := HK13.out.cell 7
          have u8 : w12.cell? ⟨w.heap.size, 8, none⟩ = some (.int .i64 0) := HK13.out.cell 8
          have u9 : w12.cell? ⟨w.heap.size, 9, none⟩ = some (.int .i64 0) := HK13.out.cell 9
          have u10 : w12.cell? ⟨w.heap.size, 10, none⟩ = some (.int .i64 0) := HK13.out.cell 10
          have u11 : w12.cell? ⟨w.heap.size, 11, none⟩ = some (.int .i64 0) := HK13.out.cell 11
          have u12 : w12.cell? ⟨w.heap.size, 12, none⟩ = some (.int .i64 0) := HK13.out.cell 12
          have uf : ∀ i, w12.frozen? ⟨w.heap.size, i, none⟩ = false := HK13.out.frozen
          go_wp2
          refine bodyPost_ret (v := .tuple #[.agg #[.int .u8 (a0.toNat : Int), .int .u8 (a1.toNat : Int), .int .u8 (a2.toNat : Int), .int .u8 (a3.toNat : Int), .int .u8 (a4.toNat : Int), .int .u8 (a5.toNat : Int), .int .u8 (a6.toNat : Int), .int .u8 (a7.toNat : Int), .int .i64 (qK : Int), .int .i64 (qM : Int), .int .i64 (qB : Int), .int .i64 (qI : Int), .int .i64 (qE : Int)], .int .i64 0]) (by simp only [results, Try.results17]; go_simp) rfl ⟨?_, ?_⟩
          · rw [HOKR.out, HLV.out]
          · iterate 13 (with_reducible refine Below.setCell ?_ (by simp) _)
            exact HB13.out
end Go.Proofs.Ytdiaihpilniikaa
