/- LabelTold: the walk. -/
import Derived.Test.YtdiaihpilniikaaKw
import Derived.Test.YtdiaihpilniikaaKya
import Derived.Test.YtdiaihpilniikaaPg
import Derived.Deep.DeepCutAuto
import Derived.Deep.CutBlock
namespace Go.Proofs.Ytdiaihpilniikaa
open Go.RowKit Go.Maps

theorem ofInt_u8 (a : Nat) (h : a < 256) : (BitVec.ofInt 8 (a : Int)).toNat = a := by
  rw [BitVec.toNat_ofInt]
  show ((a : Int) % (256 : Int)).toNat = a
  omega
theorem u8_xor_bytes (x y : UInt8) : bits .xor .u8 (x.toNat : Int) (y.toNat : Int) = ((x ^^^ y).toNat : Int) := by
  have hx := x.toNat_lt
  have hy := y.toNat_lt
  have hz : x.toNat ^^^ y.toNat < 2 ^ 8 := Nat.xor_lt_two_pow hx hy
  show IntKind.u8.wrap ((BitVec.ofInt 8 (x.toNat : Int) ^^^ BitVec.ofInt 8 (y.toNat : Int)).toNat : Int) = _
  rw [BitVec.toNat_xor, ofInt_u8 _ hx, ofInt_u8 _ hy, UInt8.toNat_xor]
  show ((x.toNat ^^^ y.toNat : Nat) : Int) % 256 = _
  omega
theorem blind_any (A : Option Addr) (n c : Nat) (bs : List UInt8) (w : World) (B : Nat) (hx : Reads w B 1 A n (bs.map B8)) (hB : B ≤ w.heap.size) (hbig : n ≤ 140737488355328) :
    Calls Try.prog 21 #[.slice A n c] w fun e w' => e = .returned (.bool (decide (over 0 bs = 0))) ∧ Below w.heap.size w w' := by
  have HO := Lib.hid (over_any 0 (by decide) A n c bs w B hx hB hbig)
  by_cases h0 : over 0 bs = 0
  · rw [decide_eq_true h0]
    rw [h0] at HO
    clear hx hB hbig h0
    go_enter Try.func21, Try.ntmps21
    go_wp2_with (go_at_call 39; refine HO.out.mono ?_; rintro e w1 ⟨rfl, hb1⟩; have HB1 := Lib.hid hb1; clear hb1)
    go_ret
    exact ⟨rfl, HB1.out⟩
  · rw [decide_eq_false h0]
    obtain ⟨q, hq⟩ : ∃ q, q = over 0 bs := ⟨_, rfl⟩
    rw [← hq] at HO h0
    have hne : ((q : Int) == 0) = false := by simp; exact h0
    clear hx hB hbig hq
    go_enter Try.func21, Try.ntmps21
    go_wp2_with (go_at_call 39; refine HO.out.mono ?_; rintro e w1 ⟨rfl, hb1⟩; have HB1 := Lib.hid hb1; clear hb1)
    go_ret
    exact ⟨rfl, HB1.out⟩
theorem tmod248 (z : Int) : -247 ≤ z.tmod 248 ∧ z.tmod 248 ≤ 247 := by
  have h1 := Int.tmod_lt_of_pos z (show (0:Int) < 248 by decide)
  have h2 := Int.lt_tmod_of_pos z (show (0:Int) < 248 by decide)
  omega
theorem pow8 : ∀ r, r < 8 → (2 : Int) ^ r % (256 : Int) = ((UInt8.ofNat (1 <<< r)).toNat : Int) := by decide
theorem make31 (W : World) : (Instr.makeSlice 33 (.int .i64 31) (.int .i64 31)).run Try.prog W = .ok (.slice (some ⟨W.heap.size, 0, none⟩) 31 31) (W.alloc (.cells ((List.replicate 31 (0 : UInt8)).map B8).toArray 5)) := by kernel_rfl

set_option maxRecDepth 100000 in
set_option maxHeartbeats 8000000 in
theorem told_bad (l : Lab) (hl : l.Wf) (hm : l.may ≠ 0) (v1 v2 : Value) (w : World) : Calls Try.prog 9 #[labV l, v1, v2] w fun e w' => e = .returned (.bool true) ∧ Below w.heap.size w w' := by
  have HFT := Lib.hid (fun W => fit_any l hl W)
  have HEB : Hid (∀ W, Calls Try.prog 15 #[labV l] W fun e w' => e = .returned (.tuple #[.slice none 0 0, .int .i64 l.may]) ∧ Below W.heap.size W w') := Lib.hid (encode_bad l hl hm)
  have HF2 : Hid (∀ W, Calls Try.prog 19 #[labV l] W fun e w' => e = .returned (.bool false) ∧ Below W.heap.size W w') := Lib.hid fun W => by have h := HFT.out W; rw [decide_eq_false hm] at h; exact h
  obtain ⟨a0, a1, a2, a3, a4, a5, a6, a7, n0, n1, n2, n3, n4, hv⟩ := agg_hid l hl.st
  rw [hv] at HEB HF2 ⊢
  have h42 := may_two l hm
  obtain ⟨y, hy⟩ : ∃ y, y = l.may := ⟨_, rfl⟩
  rw [← hy] at HEB h42
  clear hl hm hv HFT hy
  rcases h42 with rfl | rfl
  all_goals
    go_enter Try.func9, Try.ntmps9
    go_wp2_with (first
      | (go_at_call 13; refine (known_any _).mono ?_; rintro e w1 ⟨rfl, hb⟩; have HB1 := Lib.hid hb; have K1 := Lib.hid ((Blk.new w _ _).below hb (by rw [alloc_size]; omega)); have hs1 := hb.size; rw [alloc_size] at hs1; have y0 : w1.cell? ⟨w.heap.size, 0, none⟩ = some (.int .u8 (a0.toNat : Int)) := K1.out.cell 0; have y1 : w1.cell? ⟨w.heap.size, 1, none⟩ = some (.int .u8 (a1.toNat : Int)) := K1.out.cell 1; have y2 : w1.cell? ⟨w.heap.size, 2, none⟩ = some (.int .u8 (a2.toNat : Int)) := K1.out.cell 2; have y3 : w1.cell? ⟨w.heap.size, 3, none⟩ = some (.int .u8 (a3.toNat : Int)) := K1.out.cell 3; have y4 : w1.cell? ⟨w.heap.size, 4, none⟩ = some (.int .u8 (a4.toNat : Int)) := K1.out.cell 4; have y5 : w1.cell? ⟨w.heap.size, 5, none⟩ = some (.int .u8 (a5.toNat : Int)) := K1.out.cell 5; have y6 : w1.cell? ⟨w.heap.size, 6, none⟩ = some (.int .u8 (a6.toNat : Int)) := K1.out.cell 6; have y7 : w1.cell? ⟨w.heap.size, 7, none⟩ = some (.int .u8 (a7.toNat : Int)) := K1.out.cell 7; have y8 : w1.cell? ⟨w.heap.size, 8, none⟩ = some (.int .i64 n0) := K1.out.cell 8; have y9 : w1.cell? ⟨w.heap.size, 9, none⟩ = some (.int .i64 n1) := K1.out.cell 9; have y10 : w1.cell? ⟨w.heap.size, 10, none⟩ = some (.int .i64 n2) := K1.out.cell 10; have y11 : w1.cell? ⟨w.heap.size, 11, none⟩ = some (.int .i64 n3) := K1.out.cell 11; have y12 : w1.cell? ⟨w.heap.size, 12, none⟩ = some (.int .i64 n4) := K1.out.cell 12; clear hb)
      | (go_at_call 15; refine (HEB.out _).mono ?_; rintro e w2 ⟨rfl, hb⟩; have HB2 := Lib.hid hb; have K2 := Lib.hid (K1.out.below hb K1.out.lt); have hs2 := hb.size; have z0 : w2.cell? ⟨w.heap.size, 0, none⟩ = some (.int .u8 (a0.toNat : Int)) := K2.out.cell 0; have z1 : w2.cell? ⟨w.heap.size, 1, none⟩ = some (.int .u8 (a1.toNat : Int)) := K2.out.cell 1; have z2 : w2.cell? ⟨w.heap.size, 2, none⟩ = some (.int .u8 (a2.toNat : Int)) := K2.out.cell 2; have z3 : w2.cell? ⟨w.heap.size, 3, none⟩ = some (.int .u8 (a3.toNat : Int)) := K2.out.cell 3; have z4 : w2.cell? ⟨w.heap.size, 4, none⟩ = some (.int .u8 (a4.toNat : Int)) := K2.out.cell 4; have z5 : w2.cell? ⟨w.heap.size, 5, none⟩ = some (.int .u8 (a5.toNat : Int)) := K2.out.cell 5; have z6 : w2.cell? ⟨w.heap.size, 6, none⟩ = some (.int .u8 (a6.toNat : Int)) := K2.out.cell 6; have z7 : w2.cell? ⟨w.heap.size, 7, none⟩ = some (.int .u8 (a7.toNat : Int)) := K2.out.cell 7; have z8 : w2.cell? ⟨w.heap.size, 8, none⟩ = some (.int .i64 n0) := K2.out.cell 8; have z9 : w2.cell? ⟨w.heap.size, 9, none⟩ = some (.int .i64 n1) := K2.out.cell 9; have z10 : w2.cell? ⟨w.heap.size, 10, none⟩ = some (.int .i64 n2) := K2.out.cell 10; have z11 : w2.cell? ⟨w.heap.size, 11, none⟩ = some (.int .i64 n3) := K2.out.cell 11; have z12 : w2.cell? ⟨w.heap.size, 12, none⟩ = some (.int .i64 n4) := K2.out.cell 12; clear hb)
      | (go_at_call 19; refine (HF2.out _).mono ?_; rintro e w3 ⟨rfl, hb⟩; have HB3 := Lib.hid hb; clear hb))
    go_ret
    exact ⟨rfl, ((((Below.refl _ w).alloc (Nat.le_refl _) _).trans (HB1.out.mono (by rw [alloc_size]; omega))).trans (HB2.out.mono (by omega))).trans (HB3.out.mono (by omega))⟩

def I64 (z : Int) : Value := .int .i64 z
def natV (k : Nat) : Value := .int .i64 (k : Int)
/-- What loop 3 keeps: the marks that were turned, the bytes turned so. -/
def ToldAt (w wr : World) (g c : Nat) (bs : List UInt8) (v : Value) (ats : List Nat) : Prop :=
  (∀ k ∈ ats, k < 248) ∧ ats.Nodup ∧ wr.ownsRow (w.heap.size + 1) 5 1 (.slice (some ⟨g, 0, none⟩) 31 c) 31 ((flips bs ats).map B8) ∧ wr.ownsRow (w.heap.size + 1) 3 1 v ats.length (ats.map natV)

theorem _root_.Go.World.ownsRow.keep_below {w w' : World} {base B : Nat} {e : TypeId} {size n : Nat} {v : Value} {xs : List Value} (h : w.ownsRow base e size v n xs) (hb : Below B w w') (hB : w.heap.size ≤ B) : w'.ownsRow base e size v n xs :=
  ownsRow_keep h fun k hk => hb.block k (by have := (h.lt k hk).2; omega)
set_option maxRecDepth 100000 in
set_option maxHeartbeats 40000000 in
theorem told_ok (l : Lab) (hl : l.Wf) (hm : l.may = 0) (A1 A2 : Option Addr) (m1 c1 m2 c2 : Nat) (ys : List UInt8) (zs : List Int) (w : World) (hx : Reads w w.heap.size 1 A1 m1 (ys.map B8)) (hz : Reads w w.heap.size 1 A2 m2 (zs.map I64)) (hzb : ∀ z ∈ zs, -9223372036854775808 ≤ z ∧ z ≤ 9223372036854775807) (hm2 : m2 ≤ 17592186044416) :
    Calls Try.prog 9 #[labV l, .slice A1 m1 c1, .slice A2 m2 c2] w fun e w' => e = .returned (.bool true) ∧ Below w.heap.size w w' := by
  have HFT := Lib.hid (fun W => fit_any l hl W)
  have HES := Lib.hid (lab_eql l hl.st)
  have HEN : Hid (∀ W, Calls Try.prog 15 #[labV l] W fun e w' => ∃ g c, e = .returned (.tuple #[.slice (some ⟨g, 0, none⟩) 31 c, .int .i64 0]) ∧ w'.ownsRow W.heap.size 5 1 (.slice (some ⟨g, 0, none⟩) 31 c) 31 (l.bytes.map B8) ∧ Below W.heap.size W w' ∧ 31 ≤ c) := Lib.hid fun W => by
    refine (encode_ok l hl hm W).mono ?_
    rintro e w' ⟨u, he, ho, hb⟩
    obtain ⟨A, c, rfl, hle⟩ := own_shape ho
    obtain ⟨g, rfl⟩ := own_head ho (by decide)
    exact ⟨g, c, he, ho, hb, hle⟩
  have HF2 : Hid (∀ W, Calls Try.prog 19 #[labV l] W fun e w' => e = .returned (.bool true) ∧ Below W.heap.size W w') := Lib.hid fun W => by have h := HFT.out W; rw [decide_eq_true hm] at h; exact h
  have HRD : Hid (Lab.reads l.bytes) := Lib.hid (Lab.parse_ok (by rw [Lab.parse_bytes l hl.st hm]))
  have HPB : Hid (Lab.parse l.bytes = (l, 0)) := Lib.hid (Lab.parse_bytes l hl.st hm)
  have HLN : Hid (l.bytes.length = 31) := Lib.hid (l.bytes_length hl.st)
  obtain ⟨a0, a1, a2, a3, a4, a5, a6, a7, n0, n1, n2, n3, n4, hv⟩ := agg_hid l hl.st
  have HV := Lib.hid hv
  rw [hv] at HEN HF2 HES ⊢
  have HX := Lib.hid hx
  have HZ := Lib.hid hz
  have HZB := Lib.hid hzb
  have hmk := make31
  clear hl hm hv HFT hx hz hzb
  go_enter Try.func9, Try.ntmps9
  go_upto_block 0 with (first
    | (go_at_call 13; refine (known_any _).mono ?_; rintro e w1 ⟨rfl, hb⟩; have HB1 : Hid (Below (w.heap.size + 1) (w.alloc (.cells #[.int .u8 (a0.toNat : Int), .int .u8 (a1.toNat : Int), .int .u8 (a2.toNat : Int), .int .u8 (a3.toNat : Int), .int .u8 (a4.toNat : Int), .int .u8 (a5.toNat : Int), .int .u8 (a6.toNat : Int), .int .u8 (a7.toNat : Int), .int .i64 n0, .int .i64 n1, .int .i64 n2, .int .i64 n3, .int .i64 n4] 26)) w1) := Lib.hid (by rw [← alloc_size]; exact hb); have K1 := Lib.hid ((Blk.new w _ _).below hb (by rw [alloc_size]; omega)); have hs1 := hb.size; rw [alloc_size] at hs1; have y0 : w1.cell? ⟨w.heap.size, 0, none⟩ = some (.int .u8 (a0.toNat : Int)) := K1.out.cell 0; have y1 : w1.cell? ⟨w.heap.size, 1, none⟩ = some (.int .u8 (a1.toNat : Int)) := K1.out.cell 1; have y2 : w1.cell? ⟨w.heap.size, 2, none⟩ = some (.int .u8 (a2.toNat : Int)) := K1.out.cell 2; have y3 : w1.cell? ⟨w.heap.size, 3, none⟩ = some (.int .u8 (a3.toNat : Int)) := K1.out.cell 3; have y4 : w1.cell? ⟨w.heap.size, 4, none⟩ = some (.int .u8 (a4.toNat : Int)) := K1.out.cell 4; have y5 : w1.cell? ⟨w.heap.size, 5, none⟩ = some (.int .u8 (a5.toNat : Int)) := K1.out.cell 5; have y6 : w1.cell? ⟨w.heap.size, 6, none⟩ = some (.int .u8 (a6.toNat : Int)) := K1.out.cell 6; have y7 : w1.cell? ⟨w.heap.size, 7, none⟩ = some (.int .u8 (a7.toNat : Int)) := K1.out.cell 7; have y8 : w1.cell? ⟨w.heap.size, 8, none⟩ = some (.int .i64 n0) := K1.out.cell 8; have y9 : w1.cell? ⟨w.heap.size, 9, none⟩ = some (.int .i64 n1) := K1.out.cell 9; have y10 : w1.cell? ⟨w.heap.size, 10, none⟩ = some (.int .i64 n2) := K1.out.cell 10; have y11 : w1.cell? ⟨w.heap.size, 11, none⟩ = some (.int .i64 n3) := K1.out.cell 11; have y12 : w1.cell? ⟨w.heap.size, 12, none⟩ = some (.int .i64 n4) := K1.out.cell 12; clear hb)
    | (go_at_call 15; refine (HEN.out _).mono ?_; rintro e w2 ⟨g, c, rfl, ho, hb, hc31⟩; have HO2 := Lib.hid (ownsRow_base_a ho hs1); have HB2 := Lib.hid (hb.mono hs1); have K2 := Lib.hid (K1.out.below hb K1.out.lt); have hs2 := hb.size; have z0 : w2.cell? ⟨w.heap.size, 0, none⟩ = some (.int .u8 (a0.toNat : Int)) := K2.out.cell 0; have z1 : w2.cell? ⟨w.heap.size, 1, none⟩ = some (.int .u8 (a1.toNat : Int)) := K2.out.cell 1; have z2 : w2.cell? ⟨w.heap.size, 2, none⟩ = some (.int .u8 (a2.toNat : Int)) := K2.out.cell 2; have z3 : w2.cell? ⟨w.heap.size, 3, none⟩ = some (.int .u8 (a3.toNat : Int)) := K2.out.cell 3; have z4 : w2.cell? ⟨w.heap.size, 4, none⟩ = some (.int .u8 (a4.toNat : Int)) := K2.out.cell 4; have z5 : w2.cell? ⟨w.heap.size, 5, none⟩ = some (.int .u8 (a5.toNat : Int)) := K2.out.cell 5; have z6 : w2.cell? ⟨w.heap.size, 6, none⟩ = some (.int .u8 (a6.toNat : Int)) := K2.out.cell 6; have z7 : w2.cell? ⟨w.heap.size, 7, none⟩ = some (.int .u8 (a7.toNat : Int)) := K2.out.cell 7; have z8 : w2.cell? ⟨w.heap.size, 8, none⟩ = some (.int .i64 n0) := K2.out.cell 8; have z9 : w2.cell? ⟨w.heap.size, 9, none⟩ = some (.int .i64 n1) := K2.out.cell 9; have z10 : w2.cell? ⟨w.heap.size, 10, none⟩ = some (.int .i64 n2) := K2.out.cell 10; have z11 : w2.cell? ⟨w.heap.size, 11, none⟩ = some (.int .i64 n3) := K2.out.cell 11; have z12 : w2.cell? ⟨w.heap.size, 12, none⟩ = some (.int .i64 n4) := K2.out.cell 12; clear ho hb)
    | (go_at_call 19; refine (HF2.out _).mono ?_; rintro e w3 ⟨rfl, hb⟩; have HO3 := Lib.hid (ownsRow_below HO2.out hb); have HB3 : Hid (Below (w.heap.size + 1) (w.alloc (.cells #[.int .u8 (a0.toNat : Int), .int .u8 (a1.toNat : Int), .int .u8 (a2.toNat : Int), .int .u8 (a3.toNat : Int), .int .u8 (a4.toNat : Int), .int .u8 (a5.toNat : Int), .int .u8 (a6.toNat : Int), .int .u8 (a7.toNat : Int), .int .i64 n0, .int .i64 n1, .int .i64 n2, .int .i64 n3, .int .i64 n4] 26)) w3) := Lib.hid ((HB1.out.trans HB2.out).trans (hb.mono (by omega))); have hs3 := hb.size; clear hb))
  have K3 : Hid (Blk w3 w.heap.size 26 #[.int .u8 (a0.toNat : Int), .int .u8 (a1.toNat : Int), .int .u8 (a2.toNat : Int), .int .u8 (a3.toNat : Int), .int .u8 (a4.toNat : Int), .int .u8 (a5.toNat : Int), .int .u8 (a6.toNat : Int), .int .u8 (a7.toNat : Int), .int .i64 n0, .int .i64 n1, .int .i64 n2, .int .i64 n3, .int .i64 n4]) := Lib.hid ((Blk.new w _ _).below HB3.out (by omega))
  have HW3 : Hid (Below w.heap.size w w3) := Lib.hid (((Below.refl _ w).alloc (Nat.le_refl _) _).trans (HB3.out.mono (by omega)))
  have hg0 : g ≠ w.heap.size := fun h => by have := own_blk_ne HO3.out K3.out (by decide); exact this (by rw [h]; rfl)
  have hg1 : w.heap.size + 1 ≤ g := by have := (HO3.out.lt g rfl).1; omega
  obtain ⟨gp, hgp⟩ : ∃ gp, gp = w3.heap.size := ⟨_, rfl⟩
  have hg2 : g < gp := by have := (HO3.out.lt g rfl).2; omega
  have hp1 : w.heap.size < gp := by omega
  have HP3 : Hid (Blk (w3.alloc (.cells ((List.replicate 31 (0 : UInt8)).map B8).toArray 5)) gp 5 ((List.replicate 31 (0 : UInt8)).map B8).toArray) := Lib.hid (by rw [hgp]; exact Blk.new _ _ _)
  have HQ3 : Hid (Below gp w3 (w3.alloc (.cells ((List.replicate 31 (0 : UInt8)).map B8).toArray 5))) := Lib.hid (by rw [hgp]; exact (Below.refl _ _).alloc (Nat.le_refl _) _)
  rw [← hgp]
  have HG := Lib.hid hgp
  clear hgp
  go_cut [10] (fun _ wx => ∃ ps : List UInt8, ps.length = 31 ∧ Blk wx gp 5 (ps.map B8).toArray ∧ Below gp w3 wx)
  case first =>
    go_wp2_with fail
    go_loopw [10] (fun s10 wr => ∃ (i : Nat) (ps : List UInt8), i ≤ 31 ∧ s10 = .int .i64 i ∧ ps.length = 31 ∧ Blk wr gp 5 (ps.map B8).toArray ∧ Below gp w3 wr) (fun s _ => 31 - (intOf s).toNat)
    case atStart => exact ⟨0, _, Nat.zero_le _, rfl, List.length_replicate, HP3.out, HQ3.out⟩
    case round =>
      obtain ⟨i, ps, hi, rfl, hps, hbk, hbl⟩ := hrel
      have HPS := Lib.hid hps
      have HBK := Lib.hid hbk
      have HBL := Lib.hid hbl
      have hsz := hbk.lt
      clear hps hbk hbl
      by_cases h1 : i < 31
      · by_cases h2 : i < m1
        · obtain ⟨ad, u, rfl, _, hu, hc⟩ := (HX.out.below (HW3.out.trans (HBL.out.mono (by omega)))).at_ h2
          obtain ⟨y, hy⟩ : ∃ y, ys[i]? = some y := ⟨_, List.getElem?_eq_getElem (by have := HX.out.1; simp at this; omega)⟩
          obtain rfl : u = .int .u8 (y.toNat : Int) := by
            rw [List.getElem?_map, hy] at hu; exact (Option.some.inj hu).symm
          obtain ⟨x, hcx⟩ : ∃ x, wr.cell? ⟨gp, i, none⟩ = some x := HBK.out.cellAt (by simp; have := HPS.out; omega)
          have hfz : ∀ j, wr.frozen? ⟨gp, j, none⟩ = false := HBK.out.frozen
          have h1' : (i : Int) < 31 := by omega
          clear hu hy
          go_wp2
          go_roundw
          case rel => exact ⟨i + 1, ps.set i y, by omega, by go_num, by rw [List.length_set]; exact HPS.out, by have h := HBK.out.set_ i (.int .u8 (y.toNat : Int)); rw [List.setIfInBounds_toArray, show (.int .u8 (y.toNat : Int)) = B8 y from rfl, ← List.map_set] at h; exact h, HBL.out.setCell (by simp) _⟩
          case measure => simp [intOf]; omega
        · have h1' : (i : Int) < 31 := by omega
          go_wp2
          go_meet
          exact ⟨ps, HPS.out, HBK.out, HBL.out⟩
      · have h1' : ¬ (i : Int) < 31 := by omega
        go_wp2
        go_meet
        exact ⟨ps, HPS.out, HBK.out, HBL.out⟩
  case rest =>
    obtain ⟨w4, rfl⟩ : ∃ x, x = wc := ⟨_, rfl⟩
    obtain ⟨ps, hps, hbk, hbl⟩ := hcut
    have HPS := Lib.hid hps
    have HP4 := Lib.hid hbk
    have HB4 := Lib.hid hbl
    have hz4 := hbk.lt
    have HO4 := Lib.hid (HO3.out.keep_below hbl (Nat.le_of_eq HG.out.symm))
    obtain ⟨bs, hbs⟩ : ∃ bs, bs = l.bytes := ⟨_, rfl⟩
    rw [← hbs] at HO4 HLN HRD HPB
    have HBS := Lib.hid hbs
    have HTW : Hid (∀ W, Below gp w3 W → Calls Try.prog 18 #[.slice (some ⟨g, 0, none⟩) 31 c] W fun e w' => ∃ a d, e = .returned (.slice (some ⟨a, 0, none⟩) 31 d) ∧ w'.ownsRow W.heap.size 5 1 (.slice (some ⟨a, 0, none⟩) 31 d) 31 (bs.map B8) ∧ Below W.heap.size W w' ∧ 31 ≤ d) := Lib.hid fun W hW => by
      rw [hbs]
      refine (twin_any (some ⟨g, 0, none⟩) 31 c l.bytes W _ (Reads.of_own (HO3.out.keep_below hW (Nat.le_of_eq HG.out.symm))) (by omega)).mono ?_
      rintro e w' ⟨v, he, ho, hb⟩
      obtain ⟨A, d, rfl, hle⟩ := own_shape ho
      obtain ⟨a, rfl⟩ := own_head ho (by decide)
      exact ⟨a, d, he, ho, hb, hle⟩
    clear hps hbk hbl hbs
    go_upto_block 2 with (go_at_call 18; refine (HTW.out _ HB4.out).mono ?_; rintro e w5 ⟨q, d, rfl, ho, hb, hd31⟩; have HO5 := Lib.hid ho; have HB5 := Lib.hid hb; clear ho hb)
    have HLB : Hid (bs.length = 31 ∧ ps.length = 31) := Lib.hid ⟨HLN.out, HPS.out⟩
    have hq0 : w4.heap.size ≤ q := (HO5.out.lt q rfl).1
    have hq1 : q < w5.heap.size := (HO5.out.lt q rfl).2
    go_cut [12] (fun _ wx => wx.ownsRow w4.heap.size 5 1 (.slice (some ⟨q, 0, none⟩) 31 d) 31 ((List.zipWith (· ^^^ ·) bs ps).map B8) ∧ Below w4.heap.size w4 wx)
    case first =>
      go_wp2_with fail
      go_loopw [12] (fun s12 wr => ∃ (k : Nat) (cs : List UInt8), k ≤ 31 ∧ s12 = .int .i64 k ∧ (∀ j, cs[j]? = if j < k then (List.zipWith (· ^^^ ·) bs ps)[j]? else bs[j]?) ∧ wr.ownsRow w4.heap.size 5 1 (.slice (some ⟨q, 0, none⟩) 31 d) 31 (cs.map B8) ∧ Below w4.heap.size w4 wr) (fun s _ => 31 - (intOf s).toNat)
      case atStart => exact ⟨0, bs, Nat.zero_le _, rfl, fun j => by rw [if_neg (by omega)], HO5.out, HB5.out⟩
      case round =>
        obtain ⟨k, cs, hk, rfl, hcs, ho, hb⟩ := hrel
        have HCS := Lib.hid hcs
        have HO := Lib.hid ho
        have HB := Lib.hid hb
        have hsz := hb.size
        clear hcs ho hb
        by_cases h1 : k < 31
        · have h1' : (k : Int) < 31 := by omega
          obtain ⟨x, hx⟩ : ∃ x, bs[k]? = some x := ⟨_, List.getElem?_eq_getElem (by have := HLB.out.1; omega)⟩
          obtain ⟨y, hy⟩ : ∃ y, ps[k]? = some y := ⟨_, List.getElem?_eq_getElem (by have := HLB.out.2; omega)⟩
          have HZ1 : Hid ((List.zipWith (· ^^^ ·) bs ps)[k]? = some (x ^^^ y)) := Lib.hid (by rw [List.getElem?_zipWith, hx, hy])
          have c1 : wr.cell? ⟨q, k, none⟩ = some (.int .u8 (x.toNat : Int)) := (HO.out.cellAt k (by omega)).trans (by rw [List.getElem?_map, HCS.out, if_neg (by omega), hx]; rfl)
          have c2 : wr.cell? ⟨gp, k, none⟩ = some (.int .u8 (y.toNat : Int)) := ((HP4.out.below HB.out hz4).cell k).trans (by rw [List.getElem?_toArray, List.getElem?_map, hy]; rfl)
          have c3 : ∀ j, wr.frozen? ⟨q, j, none⟩ = false := HO.out.frozenAt
          have c4 := u8_xor_bytes x y
          have hkl : k < cs.length := by have := HO.out.1; simp at this; omega
          clear hx hy
          go_wp2
          go_region
          all_goals
            go_wp2
            go_roundw
            case rel => exact ⟨k + 1, cs.set k (x ^^^ y), by omega, by go_num, fun j => by
              by_cases hj : j = k
              · subst hj; rw [List.getElem?_set_self hkl, if_pos (by omega), HZ1.out]
              · rw [List.getElem?_set_ne (Ne.symm hj), HCS.out]
                by_cases hj2 : j < k
                · rw [if_pos hj2, if_pos (by omega)]
                · rw [if_neg hj2, if_neg (by omega)], by have h := (HO.out.stored k (B8 (x ^^^ y))).1; rw [← List.map_set] at h; exact h, (below_drew1 HB.out).setCell (by show w4.heap.size ≤ q; omega) _⟩
            case measure => simp [intOf]; omega
        · obtain rfl : k = 31 := by omega
          have HE : Hid (cs = List.zipWith (· ^^^ ·) bs ps) := Lib.hid (List.ext_getElem? fun j => by
            rw [HCS.out]
            by_cases hj : j < 31
            · rw [if_pos hj]
            · have h1 := HLB.out
              rw [if_neg hj, List.getElem?_eq_none (by omega), List.getElem?_eq_none (by rw [List.length_zipWith]; omega)])
          go_wp2
          go_meet
          exact ⟨by rw [← HE.out]; exact HO.out, HB.out⟩
    case rest =>
      obtain ⟨w6, rfl⟩ : ∃ x, x = wc := ⟨_, rfl⟩
      obtain ⟨ho, hb⟩ := hcut
      have h3w : gp ≤ w4.heap.size := by omega
      have HB6 : Hid (Below gp w3 w6) := Lib.hid (HB4.out.trans (hb.mono h3w))
      have hs6 : gp ≤ w6.heap.size := by have h1 := HB6.out.size; have h2 := HG.out; omega
      have HR6 := Lib.hid (HP4.out.below hb hz4)
      obtain ⟨cs, hcs⟩ : ∃ cs, cs = List.zipWith (· ^^^ ·) bs ps := ⟨_, rfl⟩
      have HTO : Hid (over 0 ps ≠ 0 → Lab.parse cs = (Lab.zero, 150)) := Lib.hid fun h => Lab.parse_bad (told_of HLB.out.1 HLB.out.2 HRD.out hcs h)
      rw [← hcs] at ho
      have HPC : Hid (Calls Try.prog 17 #[.slice (some ⟨q, 0, none⟩) 31 d] w6 fun e w' => e = .returned (.tuple #[labV (Lab.parse cs).1, .int .i64 (Lab.parse cs).2]) ∧ Below w6.heap.size w6 w') := Lib.hid (parse_any _ 31 d cs w6 _ (Reads.of_own ho) (Nat.le_refl _) hd31 (fun _ => ⟨q, rfl⟩))
      obtain ⟨e0, e1, e2, e3, e4, e5, e6, e7, o0, o1, o2, o3, o4, hv⟩ := agg_hid (Lab.parse cs).1 (parse_st cs)
      obtain ⟨y, hy⟩ : ∃ y, y = (Lab.parse cs).2 := ⟨_, rfl⟩
      have HNB : Hid (over 0 ps ≠ 0 → y = 150 ∧ ∀ W, (binOp .neq 26 (.agg #[.int .u8 (e0.toNat : Int), .int .u8 (e1.toNat : Int), .int .u8 (e2.toNat : Int), .int .u8 (e3.toNat : Int), .int .u8 (e4.toNat : Int), .int .u8 (e5.toNat : Int), .int .u8 (e6.toNat : Int), .int .u8 (e7.toNat : Int), .int .i64 o0, .int .i64 o1, .int .i64 o2, .int .i64 o3, .int .i64 o4]) (.agg #[.int .u8 0, .int .u8 0, .int .u8 0, .int .u8 0, .int .u8 0, .int .u8 0, .int .u8 0, .int .u8 0, .int .i64 0, .int .i64 0, .int .i64 0, .int .i64 0, .int .i64 0])).run Try.prog W = .ok (.bool false) W) := Lib.hid fun h => by
        have h2 := HTO.out h
        refine ⟨by rw [hy, h2], fun W => ?_⟩
        rw [← hv, h2]
        exact lab_neq Lab.zero rfl W
      rw [hv, ← hy] at HPC
      clear hv hy hcs ho hb HTO
      go_upto_region 19 with (go_at_call 17; go_loud (refine HPC.out.mono ?_; rintro e w7 ⟨rfl, hb⟩; have hs7 := hb.size; have HB7 : Hid (Below gp w3 w7) := Lib.hid (HB6.out.trans (hb.mono (by omega))); have HR7 := Lib.hid (HR6.out.below hb HR6.out.lt); clear hb))
      go_cut [93] (fun s93 wx => s93 = .bool false ∧ Below gp w3 wx)
      case first =>
        have HBD : Hid (Calls Try.prog 21 #[.slice (some ⟨gp, 0, none⟩) 31 31] (w7.alloc (.cells #[.int .u8 (e0.toNat : Int), .int .u8 (e1.toNat : Int), .int .u8 (e2.toNat : Int), .int .u8 (e3.toNat : Int), .int .u8 (e4.toNat : Int), .int .u8 (e5.toNat : Int), .int .u8 (e6.toNat : Int), .int .u8 (e7.toNat : Int), .int .i64 o0, .int .i64 o1, .int .i64 o2, .int .i64 o3, .int .i64 o4] 26)) fun e w' => e = .returned (.bool (decide (over 0 ps = 0))) ∧ Below (w7.heap.size + 1) (w7.alloc (.cells #[.int .u8 (e0.toNat : Int), .int .u8 (e1.toNat : Int), .int .u8 (e2.toNat : Int), .int .u8 (e3.toNat : Int), .int .u8 (e4.toNat : Int), .int .u8 (e5.toNat : Int), .int .u8 (e6.toNat : Int), .int .u8 (e7.toNat : Int), .int .i64 o0, .int .i64 o1, .int .i64 o2, .int .i64 o3, .int .i64 o4] 26)) w') := Lib.hid (by
          have h := blind_any (some ⟨gp, 0, none⟩) 31 31 ps (w7.alloc (.cells #[.int .u8 (e0.toNat : Int), .int .u8 (e1.toNat : Int), .int .u8 (e2.toNat : Int), .int .u8 (e3.toNat : Int), .int .u8 (e4.toNat : Int), .int .u8 (e5.toNat : Int), .int .u8 (e6.toNat : Int), .int .u8 (e7.toNat : Int), .int .i64 o0, .int .i64 o1, .int .i64 o2, .int .i64 o3, .int .i64 o4] 26)) _ (reads_blk (t := 5) (HR7.out.alloc _) (by rw [alloc_size]; have := HR7.out.lt; omega) (by rw [List.length_map]; exact HLB.out.2)) (Nat.le_refl _) (by decide)
          rw [alloc_size] at h
          exact h)
        have hs7' : gp ≤ w7.heap.size := by omega
        by_cases hbl : over 0 ps = 0
        · rw [decide_eq_true hbl] at HBD
          clear hbl
          go_wp2_with (go_at_call 21; refine HBD.out.mono ?_; rintro e w8 ⟨rfl, hb⟩; have HB8 := Lib.hid hb; clear hb)
          go_meet
          exact ⟨rfl, (HB7.out.alloc hs7' _).trans (HB8.out.mono (by omega))⟩
        · obtain ⟨rfl, hne⟩ := HNB.out hbl
          rw [decide_eq_false hbl] at HBD
          clear hbl
          go_wp2_with (go_at_call 21; refine HBD.out.mono ?_; rintro e w8 ⟨rfl, hb⟩; have HB8 := Lib.hid hb; have K8 := Lib.hid ((Blk.new w7 _ _).below hb (by omega)); have y0 : w8.cell? ⟨w7.heap.size, 0, none⟩ = some (.int .u8 (e0.toNat : Int)) := K8.out.cell 0; have y1 : w8.cell? ⟨w7.heap.size, 1, none⟩ = some (.int .u8 (e1.toNat : Int)) := K8.out.cell 1; have y2 : w8.cell? ⟨w7.heap.size, 2, none⟩ = some (.int .u8 (e2.toNat : Int)) := K8.out.cell 2; have y3 : w8.cell? ⟨w7.heap.size, 3, none⟩ = some (.int .u8 (e3.toNat : Int)) := K8.out.cell 3; have y4 : w8.cell? ⟨w7.heap.size, 4, none⟩ = some (.int .u8 (e4.toNat : Int)) := K8.out.cell 4; have y5 : w8.cell? ⟨w7.heap.size, 5, none⟩ = some (.int .u8 (e5.toNat : Int)) := K8.out.cell 5; have y6 : w8.cell? ⟨w7.heap.size, 6, none⟩ = some (.int .u8 (e6.toNat : Int)) := K8.out.cell 6; have y7 : w8.cell? ⟨w7.heap.size, 7, none⟩ = some (.int .u8 (e7.toNat : Int)) := K8.out.cell 7; have y8 : w8.cell? ⟨w7.heap.size, 8, none⟩ = some (.int .i64 o0) := K8.out.cell 8; have y9 : w8.cell? ⟨w7.heap.size, 9, none⟩ = some (.int .i64 o1) := K8.out.cell 9; have y10 : w8.cell? ⟨w7.heap.size, 10, none⟩ = some (.int .i64 o2) := K8.out.cell 10; have y11 : w8.cell? ⟨w7.heap.size, 11, none⟩ = some (.int .i64 o3) := K8.out.cell 11; have y12 : w8.cell? ⟨w7.heap.size, 12, none⟩ = some (.int .i64 o4) := K8.out.cell 12; clear hb)
          go_meet
          exact ⟨rfl, (HB7.out.alloc hs7' _).trans (HB8.out.mono (by omega))⟩
      case rest =>
        obtain ⟨w8, rfl⟩ : ∃ x, x = wc := ⟨_, rfl⟩
        obtain ⟨rfl, hb⟩ := hcut
        have HB8 := Lib.hid hb
        clear hb
        have HO8 := Lib.hid (HO3.out.keep_below HB8.out (Nat.le_of_eq HG.out.symm))
        have HT0 : Hid (ToldAt w w8 g c bs (.slice none 0 0) []) := Lib.hid ⟨by simp, List.nodup_nil, by rw [HBS.out]; exact HO8.out, World.ownsRow_nil _ _ _ _⟩
        have HW8 : Hid (Below (w.heap.size + 1) w3 w8) := Lib.hid (HB8.out.mono (by omega))
        clear HTW HPC HNB
        go_wp2_with fail
        go_loopw [15, 16, 17, 18, 19] (fun s15 s16 _ _ _ wr => ∃ (i : Nat) (ats : List Nat) (a : Option Addr) (d : Nat), i ≤ m2 ∧ ats.length ≤ i ∧ s16 = .int .i64 i ∧ s15 = .slice a ats.length d ∧ ToldAt w wr g c bs s15 ats ∧ Below (w.heap.size + 1) w3 wr) (fun _ s _ _ _ _ => m2 - (intOf s).toNat)
        case atStart => exact ⟨0, [], none, 0, Nat.zero_le _, Nat.zero_le _, rfl, rfl, HT0.out, HW8.out⟩
        case round =>
          obtain ⟨i, ats, a, da, hi, hal, rfl, rfl, ht, hb⟩ := hrel
          have HT := Lib.hid ht
          have HB := Lib.hid hb
          have hsz := hb.size
          clear ht hb
          by_cases h1 : i < m2
          · obtain ⟨ad, u, rfl, _, hu, hc⟩ := (HZ.out.below (HW3.out.trans (HB.out.mono (by omega)))).at_ h1
            obtain ⟨z, hz⟩ : ∃ z, zs[i]? = some z := ⟨_, List.getElem?_eq_getElem (by have := HZ.out.1; simp at this; omega)⟩
            obtain rfl : u = .int .i64 z := by
              rw [List.getElem?_map, hz] at hu; exact (Option.some.inj hu).symm
            obtain ⟨hzl, hzu⟩ := HZB.out z (List.mem_of_getElem? hz)
            obtain ⟨y, hy⟩ : ∃ y, z.tmod 248 = y := ⟨_, rfl⟩
            have hy1 : -247 ≤ y ∧ y ≤ 247 := by rw [← hy]; exact tmod248 z
            obtain ⟨hya, hyb⟩ := hy1
            obtain ⟨k, hk⟩ : ∃ k : Nat, (y + 248) % 248 = (k : Int) := ⟨((y + 248) % 248).toNat, by omega⟩
            have hk248 : k < 248 := by omega
            have HK := Lib.hid hk
            have hk0 : (0 : Int) ≤ (k : Int) := Int.natCast_nonneg _
            clear hu hz hk
            go_wp2
            rw [HK.out]
            go_loop [18, 19] (fun s18 s19 => ∃ j : Nat, j ≤ ats.length ∧ s19 = .int .i64 j ∧ s18 = .bool (decide (k ∈ ats.take j))) (fun _ s => ats.length - (intOf s).toNat)
            case atStart => exact ⟨0, Nat.zero_le _, rfl, by simp⟩
            case round =>
              obtain ⟨j, hj, rfl, rfl⟩ := hrel
              by_cases h2 : j < ats.length
              · have HT5 : Hid (ats.take (j + 1) = ats.take j ++ [ats[j]]) := Lib.hid (List.take_succ_eq_append_getElem h2)
                obtain ⟨t, ht⟩ : ∃ t, t = ats[j] := ⟨_, rfl⟩
                have HTT := Lib.hid ht
                obtain ⟨b1, hb1⟩ : ∃ b, b = decide (k ∈ ats.take j) := ⟨_, rfl⟩
                have HD1 := Lib.hid hb1
                obtain ⟨ga, hga⟩ := own_head (HT.out.2.2.2) (by omega)
                have hct : wr.cell? (⟨ga, 0, none⟩ : Addr) = wr.cell? (⟨ga, 0, none⟩ : Addr) := rfl
                have hcell : wr.cell? ⟨ga, j, none⟩ = some (.int .i64 (t : Int)) := ((show wr.ownsRow (w.heap.size + 1) 3 1 (.slice (some ⟨ga, 0, none⟩) ats.length da) ats.length (ats.map natV) by rw [← hga]; exact HT.out.2.2.2).cellAt j (by omega)).trans (by rw [List.getElem?_map, List.getElem?_eq_getElem h2, ht]; rfl)
                rw [← hb1]
                subst hga
                clear ht hb1 hct
                have hts : (b1 || decide (t = k)) = decide (k ∈ ats.take (j + 1)) := by
                  rw [HD1.out, HT5.out, ← HTT.out]
                  by_cases h3 : k ∈ ats.take j
                  · simp [h3]
                  · simp [h3, eq_comm]
                cases b1 with
                | true =>
                  have HTS : Hid (true = decide (k ∈ ats.take (j + 1))) := Lib.hid (by simpa using hts)
                  clear hts
                  go_wp2
                  go_round
                  case rel => exact ⟨j + 1, by omega, by go_num, by rw [← HTS.out]⟩
                  case measure => simp [intOf]; omega
                | false =>
                  by_cases h4 : t = k
                  · have HTS : Hid (true = decide (k ∈ ats.take (j + 1))) := Lib.hid (by simpa [h4] using hts)
                    have he : ((t : Int) == (k : Int)) = true := by simp [h4]
                    clear hts h4
                    go_wp2
                    go_round
                    case rel => exact ⟨j + 1, by omega, by go_num, by rw [← HTS.out]⟩
                    case measure => simp [intOf]; omega
                  · have HTS : Hid (false = decide (k ∈ ats.take (j + 1))) := Lib.hid (by simpa [h4] using hts)
                    have he : ((t : Int) == (k : Int)) = false := by simp; omega
                    clear hts h4
                    go_wp2
                    go_round
                    case rel => exact ⟨j + 1, by omega, by go_num, by rw [← HTS.out]⟩
                    case measure => simp [intOf]; omega
              · obtain rfl : j = ats.length := by omega
                rw [List.take_length]
                by_cases h3 : k ∈ ats
                · rw [decide_eq_true h3]
                  go_wp2
                  go_roundw
                  case rel => exact ⟨i + 1, ats, a, da, by omega, by omega, by go_num, rfl, HT.out, HB.out⟩
                  case measure => simp [intOf]; omega
                · rw [decide_eq_false h3]
                  obtain ⟨qq, rr, hqq⟩ : ∃ qq rr : Nat, k = 8 * qq + rr ∧ rr < 8 := ⟨k / 8, k % 8, by omega⟩
                  have hq : (k : Int) / 8 = (qq : Int) := by omega
                  have hr : (k : Int) % 8 = (rr : Int) := by omega
                  have hq31 : qq < 31 := by omega
                  have hr8 : rr < 8 := hqq.2
                  have HQ : Hid (k / 8 = qq ∧ k % 8 = rr) := Lib.hid (by omega)
                  obtain ⟨x, hx⟩ : ∃ x, x = (flips bs ats).getD qq 0 := ⟨_, rfl⟩
                  have HXX := Lib.hid hx
                  have hnon := (own_ne HT.out.2.2.2 HT.out.2.2.1 (by decide))
                  have HNE := Lib.hid (own_ne HT.out.2.2.1 HT.out.2.2.2 (by decide))
                  obtain ⟨ii, hii, hz0, hz1, hz2⟩ := info_parts intInfo
                  have HK3 := Lib.hid h3
                  have HXO : Hid (bits .xor .u8 (x.toNat : Int) (2 ^ rr % 256) = ((x ^^^ UInt8.ofNat (1 <<< rr)).toNat : Int)) := Lib.hid (by rw [pow8 rr hqq.2, u8_xor_bytes])
                  clear hqq hx h3 hnon
                  go_wp2_with (at_builtin; go_loud (refine wpList_append_any _ rfl _ _ 43 rfl (w.heap.size + 1) 3 ii _ 1 8 Try.underlying43 hii hz0 hz1 hz2 rfl (by omega) _ ats.length _ rfl (HT.out.2.2.2.alloc _) (wr.heap.size + 1) (some ⟨wr.heap.size, 0, none⟩) 1 1 [natV k] rfl (reads_blk (t := 3) (blk_last _ _ _ _ rfl) (by omega) rfl) (by intro u hu; simp at hu; subst hu; rfl) (by unfold maxLen; omega) (by omega) (by rw [alloc_size]; omega) ?_; intro v1 w9 hown1 hg1 hat1; obtain ⟨e2, c9, hvs, _⟩ := own_shape hown1; subst hvs; have HOWN := Lib.hid hown1; have HRB := Lib.hid (World.ownsRow.kept (HT.out.2.2.1.alloc _) hg1 HNE.out); have HB9 := Lib.hid ((HB.out.alloc (by omega) _).grown hg1 (by rw [alloc_size]; omega) (fun i hi => (HT.out.2.2.2.lt i hi).1)); have hcx : w9.cell? ⟨g, qq, none⟩ = some (.int .u8 (x.toNat : Int)) := (HRB.out.cellAt qq (by omega)).trans (by rw [List.getElem?_map, HXX.out, List.getElem?_eq_getElem (by rw [flips_length, HLN.out]; omega), List.getD_eq_getElem?_getD, List.getElem?_eq_getElem (by rw [flips_length, HLN.out]; omega)]; rfl); have hfx : ∀ j, w9.frozen? ⟨g, j, none⟩ = false := HRB.out.frozenAt; clear hown1 hg1 hat1))
                  go_roundw
                  case rel =>
                    rw [HXO.out]
                    have hne9 := own_ne HOWN.out HRB.out (by decide)
                    have hst := HRB.out.stored qq (B8 (x ^^^ UInt8.ofNat (1 <<< rr)))
                    have hfl : flips bs (ats ++ [k]) = (flips bs ats).set qq (x ^^^ UInt8.ofNat (1 <<< rr)) := by
                      rw [show flips bs (ats ++ [k]) = flipL (flips bs ats) k by unfold flips; rw [List.foldl_append]; rfl]
                      show (flips bs ats).set (k / 8) ((flips bs ats).getD (k / 8) 0 ^^^ UInt8.ofNat (1 <<< (k % 8))) = _
                      rw [HQ.out.1, HQ.out.2, ← HXX.out]
                    refine ⟨i + 1, ats ++ [k], e2, c9, by omega, by rw [List.length_append, List.length_singleton]; omega, by go_num, by rw [List.length_append]; rfl, ⟨fun k' hk' => ?_, ?_, ?_, ?_⟩, HB9.out.setCell (by show w.heap.size + 1 ≤ g; omega) _⟩
                    · rcases List.mem_append.1 hk' with h | h
                      · exact HT.out.1 k' h
                      · rw [List.mem_singleton.1 h]; exact hk248
                    · exact List.nodup_append.2 ⟨HT.out.2.1, by simp, fun a ha b hb => by rw [List.mem_singleton.1 hb]; exact fun e => HK3.out (e ▸ ha)⟩
                    · have h := hst.1
                      rw [← List.map_set, ← hfl] at h
                      exact h
                    · have h := World.ownsRow.kept HOWN.out hst.2 hne9
                      rw [show ats.map natV ++ [natV k] = (ats ++ [k]).map natV by rw [List.map_append]; rfl] at h
                      rw [List.length_append]
                      exact h
                  case measure => simp [intOf]; omega
          · obtain rfl : i = m2 := by omega
            have HPF : Hid (Calls Try.prog 17 #[.slice (some ⟨g, 0, none⟩) 31 c] wr fun e w' => e = .returned (.tuple #[labV (Lab.parse (flips bs ats)).1, .int .i64 (Lab.parse (flips bs ats)).2]) ∧ Below wr.heap.size wr w') := Lib.hid (parse_any _ 31 c (flips bs ats) wr _ (Reads.of_own HT.out.2.2.1) (Nat.le_refl _) hc31 (fun _ => ⟨g, rfl⟩))
            have HFB : Hid (Below w.heap.size w wr) := Lib.hid (HW3.out.trans (HB.out.mono (by omega)))
            have hs9 := HFB.out.size
            have KR := Lib.hid (K3.out.below HB.out (by omega))
            by_cases h0 : ats = []
            · subst h0
              rw [show flips bs [] = bs from rfl, HPB.out] at HPF
              simp only at HPF
              rw [HV.out] at HPF
              have hes := HES.out
              go_wp2_with (go_at_call 17; refine HPF.out.mono ?_; rintro e w9 ⟨rfl, hb⟩; have HB9 := Lib.hid hb; have hs10 := hb.size; have K9 := Lib.hid (KR.out.below hb (by omega)); have hlt9 := K9.out.lt; have y0 : w9.cell? ⟨w.heap.size, 0, none⟩ = some (.int .u8 (a0.toNat : Int)) := K9.out.cell 0; have y1 : w9.cell? ⟨w.heap.size, 1, none⟩ = some (.int .u8 (a1.toNat : Int)) := K9.out.cell 1; have y2 : w9.cell? ⟨w.heap.size, 2, none⟩ = some (.int .u8 (a2.toNat : Int)) := K9.out.cell 2; have y3 : w9.cell? ⟨w.heap.size, 3, none⟩ = some (.int .u8 (a3.toNat : Int)) := K9.out.cell 3; have y4 : w9.cell? ⟨w.heap.size, 4, none⟩ = some (.int .u8 (a4.toNat : Int)) := K9.out.cell 4; have y5 : w9.cell? ⟨w.heap.size, 5, none⟩ = some (.int .u8 (a5.toNat : Int)) := K9.out.cell 5; have y6 : w9.cell? ⟨w.heap.size, 6, none⟩ = some (.int .u8 (a6.toNat : Int)) := K9.out.cell 6; have y7 : w9.cell? ⟨w.heap.size, 7, none⟩ = some (.int .u8 (a7.toNat : Int)) := K9.out.cell 7; have y8 : w9.cell? ⟨w.heap.size, 8, none⟩ = some (.int .i64 n0) := K9.out.cell 8; have y9 : w9.cell? ⟨w.heap.size, 9, none⟩ = some (.int .i64 n1) := K9.out.cell 9; have y10 : w9.cell? ⟨w.heap.size, 10, none⟩ = some (.int .i64 n2) := K9.out.cell 10; have y11 : w9.cell? ⟨w.heap.size, 11, none⟩ = some (.int .i64 n3) := K9.out.cell 11; have y12 : w9.cell? ⟨w.heap.size, 12, none⟩ = some (.int .i64 n4) := K9.out.cell 12; clear hb)
              go_ret
              exact ⟨rfl, (HFB.out.trans (HB9.out.mono hs9)).alloc (by omega) _⟩
            · have hl0 : ats.length ≠ 0 := fun h => h0 (List.eq_nil_of_length_eq_zero h)
              have hne0 : ((ats.length : Int) == 0) = false := by simp; exact h0
              by_cases h3 : 3 < ats.length ∧ ats.length % 2 = 0
              · obtain ⟨f0, f1, f2, f3, f4, f5, f6, f7, p0, p1, p2, p3, p4, hv⟩ := agg_hid (Lab.parse (flips bs ats)).1 (parse_st _)
                obtain ⟨y9, hy9⟩ : ∃ y, y = (Lab.parse (flips bs ats)).2 := ⟨_, rfl⟩
                rw [hv, ← hy9] at HPF
                have h31 : (3 : Int) < (ats.length : Int) := by omega
                have h32 : ((ats.length : Int) % 2 == 0) = true := by simp; omega
                clear hv hy9 h0 h3
                go_wp2_with (go_at_call 17; refine HPF.out.mono ?_; rintro e w9 ⟨rfl, hb⟩; have HB9 := Lib.hid hb; have hs10 := hb.size; clear hb)
                go_ret
                exact ⟨rfl, (HFB.out.trans (HB9.out.mono hs9)).alloc (by omega) _⟩
              · rw [Lab.parse_bad (told_flips HLB.out.1 HRD.out HT.out.1 HT.out.2.1 h0 h3)] at HPF
                have HPZ : Hid (Calls Try.prog 17 #[.slice (some ⟨g, 0, none⟩) 31 c] wr fun e w' => e = .returned (.tuple #[.agg #[.int .u8 0, .int .u8 0, .int .u8 0, .int .u8 0, .int .u8 0, .int .u8 0, .int .u8 0, .int .u8 0, .int .i64 0, .int .i64 0, .int .i64 0, .int .i64 0, .int .i64 0], .int .i64 150]) ∧ Below wr.heap.size wr w') := HPF
                have hez : ∀ W, (binOp .eql 26 (.agg #[.int .u8 0, .int .u8 0, .int .u8 0, .int .u8 0, .int .u8 0, .int .u8 0, .int .u8 0, .int .u8 0, .int .i64 0, .int .i64 0, .int .i64 0, .int .i64 0, .int .i64 0]) (.agg #[.int .u8 0, .int .u8 0, .int .u8 0, .int .u8 0, .int .u8 0, .int .u8 0, .int .u8 0, .int .u8 0, .int .i64 0, .int .i64 0, .int .i64 0, .int .i64 0, .int .i64 0])).run Try.prog W = .ok (.bool true) W := lab_eql Lab.zero rfl
                clear HPF
                by_cases h31 : 3 < ats.length
                · have h31' : (3 : Int) < (ats.length : Int) := by omega
                  have h32 : ((ats.length : Int) % 2 == 0) = false := by simp; omega
                  clear h0 h3
                  go_wp2_with (go_at_call 17; refine HPZ.out.mono ?_; rintro e w9 ⟨rfl, hb⟩; have HB9 := Lib.hid hb; have hs10 := hb.size; clear hb)
                  go_ret
                  exact ⟨rfl, (HFB.out.trans (HB9.out.mono hs9)).alloc (by omega) _⟩
                · have h31' : ¬(3 : Int) < (ats.length : Int) := by omega
                  clear h0 h3
                  go_wp2_with (go_at_call 17; refine HPZ.out.mono ?_; rintro e w9 ⟨rfl, hb⟩; have HB9 := Lib.hid hb; have hs10 := hb.size; clear hb)
                  go_ret
                  exact ⟨rfl, (HFB.out.trans (HB9.out.mono hs9)).alloc (by omega) _⟩
theorem labelTold_walk (l : Lab) (hl : l.Wf) (A1 A2 : Option Addr) (m1 c1 m2 c2 : Nat) (ys : List UInt8) (zs : List Int) (w : World) (hx : Reads w w.heap.size 1 A1 m1 (ys.map B8)) (hz : Reads w w.heap.size 1 A2 m2 (zs.map I64)) (hzb : ∀ z ∈ zs, -9223372036854775808 ≤ z ∧ z ≤ 9223372036854775807) (hm2 : m2 ≤ 17592186044416) :
    Calls Try.prog 9 #[labV l, .slice A1 m1 c1, .slice A2 m2 c2] w fun e w' => e = .returned (.bool true) ∧ Below w.heap.size w w' := by
  by_cases hm : l.may = 0
  · exact told_ok l hl hm A1 A2 m1 c1 m2 c2 ys zs w hx hz hzb hm2
  · exact told_bad l hl hm _ _ w
end Go.Proofs.Ytdiaihpilniikaa
