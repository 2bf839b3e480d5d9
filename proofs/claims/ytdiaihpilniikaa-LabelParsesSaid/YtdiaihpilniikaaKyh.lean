/- LabelEncodes and LabelParses: the walks. -/
import Derived.Test.YtdiaihpilniikaaKyg
namespace Go.Proofs.Ytdiaihpilniikaa
open Go.RowKit Go.Maps

set_option maxRecDepth 100000 in
set_option maxHeartbeats 8000000 in
theorem labelEncodes_walk (l : Lab) (hl : l.Wf) (w : World) : Calls Try.prog 4 #[labV l] w fun e w' => e = .returned (.bool true) ∧ Below w.heap.size w w' := by
  by_cases hm : l.may = 0
  · have HRE : Hid (∀ W, Calls Try.prog 14 #[labV l] W fun e w' => ∃ a c, e = .returned (.tuple #[.slice a 31 c, .int .i64 0]) ∧ w'.ownsRow W.heap.size 5 1 (.slice a 31 c) 31 (l.bytes.map B8) ∧ Below W.heap.size W w') := Lib.hid fun W => by
      refine (refencode_ok l hl hm W).mono ?_
      rintro e w' ⟨u, he, ho, hb⟩
      obtain ⟨A, c, rfl, _⟩ := own_shape ho
      exact ⟨A, c, he, ho, hb⟩
    have HEN : Hid (∀ W, Calls Try.prog 15 #[labV l] W fun e w' => ∃ a c, e = .returned (.tuple #[.slice a 31 c, .int .i64 0]) ∧ w'.ownsRow W.heap.size 5 1 (.slice a 31 c) 31 (l.bytes.map B8) ∧ Below W.heap.size W w') := Lib.hid fun W => by
      refine (encode_ok l hl hm W).mono ?_
      rintro e w' ⟨u, he, ho, hb⟩
      obtain ⟨A, c, rfl, _⟩ := own_shape ho
      exact ⟨A, c, he, ho, hb⟩
    obtain ⟨a0, a1, a2, a3, a4, a5, a6, a7, n0, n1, n2, n3, n4, hv⟩ := agg_hid l hl.st
    rw [hv] at HEN HRE ⊢
    obtain ⟨s, hs⟩ : ∃ s : ByteArray, s = ⟨l.bytes.toArray⟩ := ⟨_, rfl⟩
    have HSS := Lib.hid hs
    clear hl hm hv hs
    go_enter Try.func4, Try.ntmps4
    go_wp2_with (first
      | (go_at_call 14; refine (HRE.out _).mono ?_; rintro e w1 ⟨b1, c1, rfl, ho, hb⟩; have HO1 := Lib.hid ho; have HB1 := Lib.hid hb; have K1 := Lib.hid ((Blk.new w _ _).below hb (by rw [alloc_size]; omega)); have hs1 := hb.size; rw [alloc_size] at hs1; have y0 : w1.cell? ⟨w.heap.size, 0, none⟩ = some (.int .u8 (a0.toNat : Int)) := K1.out.cell 0; have y1 : w1.cell? ⟨w.heap.size, 1, none⟩ = some (.int .u8 (a1.toNat : Int)) := K1.out.cell 1; have y2 : w1.cell? ⟨w.heap.size, 2, none⟩ = some (.int .u8 (a2.toNat : Int)) := K1.out.cell 2; have y3 : w1.cell? ⟨w.heap.size, 3, none⟩ = some (.int .u8 (a3.toNat : Int)) := K1.out.cell 3; have y4 : w1.cell? ⟨w.heap.size, 4, none⟩ = some (.int .u8 (a4.toNat : Int)) := K1.out.cell 4; have y5 : w1.cell? ⟨w.heap.size, 5, none⟩ = some (.int .u8 (a5.toNat : Int)) := K1.out.cell 5; have y6 : w1.cell? ⟨w.heap.size, 6, none⟩ = some (.int .u8 (a6.toNat : Int)) := K1.out.cell 6; have y7 : w1.cell? ⟨w.heap.size, 7, none⟩ = some (.int .u8 (a7.toNat : Int)) := K1.out.cell 7; have y8 : w1.cell? ⟨w.heap.size, 8, none⟩ = some (.int .i64 n0) := K1.out.cell 8; have y9 : w1.cell? ⟨w.heap.size, 9, none⟩ = some (.int .i64 n1) := K1.out.cell 9; have y10 : w1.cell? ⟨w.heap.size, 10, none⟩ = some (.int .i64 n2) := K1.out.cell 10; have y11 : w1.cell? ⟨w.heap.size, 11, none⟩ = some (.int .i64 n3) := K1.out.cell 11; have y12 : w1.cell? ⟨w.heap.size, 12, none⟩ = some (.int .i64 n4) := K1.out.cell 12; clear ho hb)
      | (go_at_call 15; refine (HEN.out _).mono ?_; rintro e w2 ⟨b2, c2, rfl, ho, hb⟩; have HB2 := Lib.hid hb; have hs2 := hb.size; have hva := conv_at w2 _ b1 l.bytes 31 c1 (Reads.of_own (ownsRow_below HO1.out hb)); have hvb := conv_at w2 _ b2 l.bytes 31 c2 (Reads.of_own ho); rw [← HSS.out] at hva hvb; clear ho hb)
      | (go_at_call 13; refine (known_any _).mono ?_; rintro e w3 ⟨rfl, hb⟩; have HB3 := Lib.hid hb; clear hb))
    go_ret
    exact ⟨rfl, ((((Below.refl _ w).alloc (Nat.le_refl _) _).trans (HB1.out.mono (by rw [alloc_size]; omega))).trans (HB2.out.mono (by omega))).trans (HB3.out.mono (by omega))⟩
  · have HRE : Hid (∀ W, Calls Try.prog 14 #[labV l] W fun e w' => e = .returned (.tuple #[.slice none 0 0, .int .i64 l.may]) ∧ Below W.heap.size W w') := Lib.hid (refencode_bad l hl hm)
    have HEN : Hid (∀ W, Calls Try.prog 15 #[labV l] W fun e w' => e = .returned (.tuple #[.slice none 0 0, .int .i64 l.may]) ∧ Below W.heap.size W w') := Lib.hid (encode_bad l hl hm)
    obtain ⟨a0, a1, a2, a3, a4, a5, a6, a7, n0, n1, n2, n3, n4, hv⟩ := agg_hid l hl.st
    rw [hv] at HEN HRE ⊢
    have h42 := may_two l hm
    obtain ⟨y, hy⟩ : ∃ y, y = l.may := ⟨_, rfl⟩
    rw [← hy] at HEN HRE h42
    have hva : ∀ W, (convert 33 9 (.slice none 0 0)).run Try.prog W = .ok (.string ⟨#[]⟩) W := fun W => conv_at W 0 none [] 0 0 Reads.none_
    clear hl hm hv hy
    rcases h42 with rfl | rfl
    all_goals
      go_enter Try.func4, Try.ntmps4
      go_wp2_with (first
        | (go_at_call 14; refine (HRE.out _).mono ?_; rintro e w1 ⟨rfl, hb⟩; have HB1 := Lib.hid hb; have K1 := Lib.hid ((Blk.new w _ _).below hb (by rw [alloc_size]; omega)); have hs1 := hb.size; rw [alloc_size] at hs1; have y0 : w1.cell? ⟨w.heap.size, 0, none⟩ = some (.int .u8 (a0.toNat : Int)) := K1.out.cell 0; have y1 : w1.cell? ⟨w.heap.size, 1, none⟩ = some (.int .u8 (a1.toNat : Int)) := K1.out.cell 1; have y2 : w1.cell? ⟨w.heap.size, 2, none⟩ = some (.int .u8 (a2.toNat : Int)) := K1.out.cell 2; have y3 : w1.cell? ⟨w.heap.size, 3, none⟩ = some (.int .u8 (a3.toNat : Int)) := K1.out.cell 3; have y4 : w1.cell? ⟨w.heap.size, 4, none⟩ = some (.int .u8 (a4.toNat : Int)) := K1.out.cell 4; have y5 : w1.cell? ⟨w.heap.size, 5, none⟩ = some (.int .u8 (a5.toNat : Int)) := K1.out.cell 5; have y6 : w1.cell? ⟨w.heap.size, 6, none⟩ = some (.int .u8 (a6.toNat : Int)) := K1.out.cell 6; have y7 : w1.cell? ⟨w.heap.size, 7, none⟩ = some (.int .u8 (a7.toNat : Int)) := K1.out.cell 7; have y8 : w1.cell? ⟨w.heap.size, 8, none⟩ = some (.int .i64 n0) := K1.out.cell 8; have y9 : w1.cell? ⟨w.heap.size, 9, none⟩ = some (.int .i64 n1) := K1.out.cell 9; have y10 : w1.cell? ⟨w.heap.size, 10, none⟩ = some (.int .i64 n2) := K1.out.cell 10; have y11 : w1.cell? ⟨w.heap.size, 11, none⟩ = some (.int .i64 n3) := K1.out.cell 11; have y12 : w1.cell? ⟨w.heap.size, 12, none⟩ = some (.int .i64 n4) := K1.out.cell 12; clear hb)
        | (go_at_call 15; refine (HEN.out _).mono ?_; rintro e w2 ⟨rfl, hb⟩; have HB2 := Lib.hid hb; have hs2 := hb.size; clear hb)
        | (go_at_call 13; refine (known_any _).mono ?_; rintro e w3 ⟨rfl, hb⟩; have HB3 := Lib.hid hb; clear hb))
      go_ret
      exact ⟨rfl, ((((Below.refl _ w).alloc (Nat.le_refl _) _).trans (HB1.out.mono (by rw [alloc_size]; omega))).trans (HB2.out.mono (by omega))).trans (HB3.out.mono (by omega))⟩

theorem parse_two (bs : List UInt8) : (Lab.parse bs).2 = 0 ∨ (Lab.parse bs).2 = 150 := by
  unfold Lab.parse
  split
  · exact .inl rfl
  · exact .inr rfl
set_option maxRecDepth 100000 in
set_option maxHeartbeats 8000000 in
theorem labelParses_walk (A : Option Addr) (n c : Nat) (bs : List UInt8) (w : World) (hx : Reads w w.heap.size 1 A n (bs.map B8)) (hn : n ≤ 140737488351232) (hc : n ≤ c) : Calls Try.prog 5 #[.slice A n c] w fun e w' => e = .returned (.bool true) ∧ Below w.heap.size w w' := by
  have HX := Lib.hid hx
  have HRP : Hid (Calls Try.prog 16 #[.slice A n c] w fun e w' => e = .returned (.tuple #[labV (Lab.parse bs).1, .int .i64 (Lab.parse bs).2]) ∧ Below w.heap.size w w') := Lib.hid (refparse_any A n c bs w _ hx (Nat.le_refl _) hc)
  have HTW : Hid (∀ W, Below w.heap.size w W → Calls Try.prog 18 #[.slice A n c] W fun e w' => ∃ a d, e = .returned (.slice a n d) ∧ w'.ownsRow W.heap.size 5 1 (.slice a n d) n (bs.map B8) ∧ Below W.heap.size W w' ∧ n ≤ d) := Lib.hid fun W hW => by
    refine (twin_any A n c bs W _ (hx.below hW) hn).mono ?_
    rintro e w' ⟨v, he, ho, hb⟩
    obtain ⟨a, d, rfl, hle⟩ := own_shape ho
    exact ⟨a, d, he, ho, hb, hle⟩
  have HPA : Hid (∀ (V : World) (a : Option Addr) (d : Nat), V.ownsRow 0 5 1 (.slice a n d) n (bs.map B8) → n ≤ d → Calls Try.prog 17 #[.slice a n d] V fun e w' => e = .returned (.tuple #[labV (Lab.parse bs).1, .int .i64 (Lab.parse bs).2]) ∧ Below V.heap.size V w') := Lib.hid fun V a d ho hd => parse_any a n d bs V _ (Reads.of_own ho) (Nat.le_refl _) hd (fun h => own_head ho (by omega))
  have HES := Lib.hid (lab_eql (Lab.parse bs).1 (parse_st bs))
  obtain ⟨a0, a1, a2, a3, a4, a5, a6, a7, n0, n1, n2, n3, n4, hv⟩ := agg_hid (Lab.parse bs).1 (parse_st bs)
  have h2 := parse_two bs
  obtain ⟨y, hy⟩ : ∃ y, y = (Lab.parse bs).2 := ⟨_, rfl⟩
  rw [hv] at HRP HPA HES
  rw [← hy] at HRP HPA h2
  have hes := HES.out
  clear hx hn hc hv hy HES
  rcases h2 with rfl | rfl
  all_goals
    go_enter Try.func5, Try.ntmps5
    go_wp2_with (first
      | (go_at_call 16; refine HRP.out.mono ?_; rintro e w1 ⟨rfl, hb⟩; have HB1 := Lib.hid hb; have hs1 := hb.size; clear hb)
      | (go_at_call 18; refine (HTW.out _ (HB1.out.alloc hs1 _)).mono ?_; rintro e w2 ⟨a, d, rfl, ho, hb, hd⟩; have HO2 := Lib.hid (ownsRow_base_a ho (Nat.zero_le _)); have K2 := Lib.hid ((Blk.new w1 _ _).below hb (by rw [alloc_size]; omega)); have HB2 : Hid (Below w.heap.size w w2) := Lib.hid ((HB1.out.alloc hs1 _).trans (hb.mono (by rw [alloc_size]; omega))); clear ho hb)
      | (go_at_call 17; refine (HPA.out w2 a d HO2.out hd).mono ?_; rintro e w3 ⟨rfl, hb⟩; have K3 := Lib.hid (K2.out.below hb K2.out.lt); have HB3 : Hid (Below w.heap.size w w3) := Lib.hid (HB2.out.trans (hb.mono HB2.out.size)); have hs3 := HB3.out.size; have hk3 := K3.out.lt; have y0 : w3.cell? ⟨w1.heap.size, 0, none⟩ = some (.int .u8 (a0.toNat : Int)) := K3.out.cell 0; have y1 : w3.cell? ⟨w1.heap.size, 1, none⟩ = some (.int .u8 (a1.toNat : Int)) := K3.out.cell 1; have y2 : w3.cell? ⟨w1.heap.size, 2, none⟩ = some (.int .u8 (a2.toNat : Int)) := K3.out.cell 2; have y3 : w3.cell? ⟨w1.heap.size, 3, none⟩ = some (.int .u8 (a3.toNat : Int)) := K3.out.cell 3; have y4 : w3.cell? ⟨w1.heap.size, 4, none⟩ = some (.int .u8 (a4.toNat : Int)) := K3.out.cell 4; have y5 : w3.cell? ⟨w1.heap.size, 5, none⟩ = some (.int .u8 (a5.toNat : Int)) := K3.out.cell 5; have y6 : w3.cell? ⟨w1.heap.size, 6, none⟩ = some (.int .u8 (a6.toNat : Int)) := K3.out.cell 6; have y7 : w3.cell? ⟨w1.heap.size, 7, none⟩ = some (.int .u8 (a7.toNat : Int)) := K3.out.cell 7; have y8 : w3.cell? ⟨w1.heap.size, 8, none⟩ = some (.int .i64 n0) := K3.out.cell 8; have y9 : w3.cell? ⟨w1.heap.size, 9, none⟩ = some (.int .i64 n1) := K3.out.cell 9; have y10 : w3.cell? ⟨w1.heap.size, 10, none⟩ = some (.int .i64 n2) := K3.out.cell 10; have y11 : w3.cell? ⟨w1.heap.size, 11, none⟩ = some (.int .i64 n3) := K3.out.cell 11; have y12 : w3.cell? ⟨w1.heap.size, 12, none⟩ = some (.int .i64 n4) := K3.out.cell 12; clear hb)
      | (go_at_call 13; refine (known_any _).mono ?_; rintro e w4 ⟨rfl, hb⟩; have HB4 : Hid (Below w.heap.size w w4) := Lib.hid ((HB3.out.alloc hs3 _).trans (hb.mono (by rw [alloc_size]; omega))); clear hb))
    go_ret
    exact ⟨rfl, HB4.out⟩
end Go.Proofs.Ytdiaihpilniikaa
