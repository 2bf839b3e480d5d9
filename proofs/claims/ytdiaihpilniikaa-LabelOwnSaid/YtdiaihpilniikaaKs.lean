/- A drive's label: Read and Write, over a drive and over none. -/
import Derived.Test.YtdiaihpilniikaaKr
import Derived.Test.YtdiaihpilniikaaKf
namespace Go.Proofs.Ytdiaihpilniikaa
open Go.RowKit Go.Maps

theorem zero_lab : labV Lab.zero = .agg #[.int .u8 0, .int .u8 0, .int .u8 0, .int .u8 0, .int .u8 0, .int .u8 0, .int .u8 0, .int .u8 0, .int .i64 0, .int .i64 0, .int .i64 0, .int .i64 0, .int .i64 0] := rfl
theorem agg_of (l : Lab) (h : l.st.length = 8) : ∃ a0 a1 a2 a3 a4 a5 a6 a7 : UInt8, labV l = .agg #[.int .u8 (a0.toNat : Int), .int .u8 (a1.toNat : Int), .int .u8 (a2.toNat : Int), .int .u8 (a3.toNat : Int), .int .u8 (a4.toNat : Int), .int .u8 (a5.toNat : Int), .int .u8 (a6.toNat : Int), .int .u8 (a7.toNat : Int), .int .i64 l.k, .int .i64 l.m, .int .i64 l.b, .int .i64 l.i, .int .i64 l.e] := by
  obtain ⟨a0, a1, a2, a3, a4, a5, a6, a7, hst⟩ := lab_eight h
  refine ⟨a0, a1, a2, a3, a4, a5, a6, a7, ?_⟩
  unfold labV labCells; rw [hst]; rfl
theorem parse_st (bs : List UInt8) : (Lab.parse bs).1.st.length = 8 := by
  unfold Lab.parse
  split
  · rename_i h; exact (Lab.bytes_of h).2.2
  · rfl

theorem lread_nil (w : World) : Calls Try.prog 10 #[.nilIface] w fun e w' => e = .returned (.tuple #[labV Lab.zero, .int .i64 1]) ∧ Below w.heap.size w w' := by
  rw [zero_lab]
  go_enter Try.func10, Try.ntmps10
  go_wp2
  refine bodyPost_ret (v := .tuple #[.agg #[.int .u8 0, .int .u8 0, .int .u8 0, .int .u8 0, .int .u8 0, .int .u8 0, .int .u8 0, .int .u8 0, .int .i64 0, .int .i64 0, .int .i64 0, .int .i64 0, .int .i64 0], .int .i64 1]) (by simp only [results, Try.results10]; go_simp) rfl ⟨rfl, ?_⟩
  repeat (first | with_reducible exact Below.refl _ _ | with_reducible refine Below.setCell ?_ (by simp) _ | with_reducible refine Below.alloc ?_ (by simp) _)
theorem lwrite_nil (l : Lab) (hl : l.st.length = 8) (w : World) : Calls Try.prog 11 #[.nilIface, labV l] w fun e w' => e = .returned (.int .i64 1) ∧ Below w.heap.size w w' := by
  obtain ⟨a0, a1, a2, a3, a4, a5, a6, a7, h⟩ := agg_of l hl
  rw [h]
  clear h hl
  go_enter Try.func11, Try.ntmps11
  go_wp2
  go_ret
  exact ⟨rfl, (Below.refl _ w).alloc (Nat.le_refl _) _⟩

set_option maxRecDepth 100000 in
set_option maxHeartbeats 4000000 in
theorem lread_any (p : Nat) (S : Drv) (F : Nat → Prop) (bs : List UInt8) (x : Int) (w : World) (hd : Dr w p S F) (hS : S.Small) (hr : S.read [108] = (bs, x)) (hbs : bs.length ≤ 1000000) :
    Calls Try.prog 10 #[.iface 50 (.pointer (some ⟨p, 0, none⟩))] w fun e w' => e = .returned (.tuple #[labV (if x = 0 then (Lab.parse bs).1 else Lab.zero), .int .i64 (if x = 0 then (Lab.parse bs).2 else x)]) ∧ Below w.heap.size w w' := by
  have hm : ∀ W : World, (method 224 50 (.pointer (some ⟨p, 0, none⟩)) "Read").run Try.prog W = .ok (86, .pointer (some ⟨p, 0, none⟩)) W := fun _ => by kernel_rfl
  obtain ⟨addr, hda⟩ := hd
  have HC : Hid (∀ W : World, Below w.heap.size w W → Calls Try.prog 86 #[.pointer (some ⟨p, 0, none⟩), .string ⟨#[108]⟩] W fun e w' => ∃ A c, e = .returned (.tuple #[.slice A bs.length c, .int .i64 x]) ∧ w'.ownsRow W.heap.size 5 1 (.slice A bs.length c) bs.length (bs.map B8) ∧ Below W.heap.size W w') := Lib.hid fun W hW => by
    obtain ⟨addr2, hd2⟩ := Dr.below ⟨addr, hda⟩ hW
    refine (read_any p S addr2 F nL W (by decide) hd2 hS.len).mono ?_
    rintro e w' ⟨v, he, ho, hb⟩
    have hr' : S.read nL.data.toList = (bs, x) := hr
    rw [hr'] at he ho
    obtain ⟨A, c, rfl, _⟩ := own_shape ho
    exact ⟨A, c, he, ho, hb⟩
  clear hda hS hr
  by_cases hx : x = 0
  · subst hx
    rw [if_pos rfl, if_pos rfl]
    obtain ⟨a0, a1, a2, a3, a4, a5, a6, a7, h⟩ := agg_of (Lab.parse bs).1 (parse_st bs)
    have HV := Lib.hid h
    obtain ⟨n0, hn0⟩ : ∃ n, n = (Lab.parse bs).1.k := ⟨_, rfl⟩
    obtain ⟨n1, hn1⟩ : ∃ n, n = (Lab.parse bs).1.m := ⟨_, rfl⟩
    obtain ⟨n2, hn2⟩ : ∃ n, n = (Lab.parse bs).1.b := ⟨_, rfl⟩
    obtain ⟨n3, hn3⟩ : ∃ n, n = (Lab.parse bs).1.i := ⟨_, rfl⟩
    obtain ⟨n4, hn4⟩ : ∃ n, n = (Lab.parse bs).1.e := ⟨_, rfl⟩
    obtain ⟨n5, hn5⟩ : ∃ n, n = (Lab.parse bs).2 := ⟨_, rfl⟩
    have HN5 := Lib.hid hn5
    rw [← hn0, ← hn1, ← hn2, ← hn3, ← hn4] at HV
    rw [HV.out, ← hn5]
    clear h hn0 hn1 hn2 hn3 hn4 hn5
    go_enter Try.func10, Try.ntmps10
    go_wp2_with (first
      | (go_at_call 86; refine (HC.out _ ((Below.refl _ w).alloc (Nat.le_refl _) _)).mono ?_; rintro e w1 ⟨A, c, rfl, ho, hb⟩; have HO := Lib.hid ho; have HB := Lib.hid hb; have K1 := Lib.hid ((Blk.new w 26 #[.int .u8 0, .int .u8 0, .int .u8 0, .int .u8 0, .int .u8 0, .int .u8 0, .int .u8 0, .int .u8 0, .int .i64 0, .int .i64 0, .int .i64 0, .int .i64 0, .int .i64 0]).below hb (by rw [alloc_size]; omega)); clear ho hb)
      | (go_at_call 17; have HP := Lib.hid (parse_any A bs.length c bs w1 w1.heap.size (Reads.of_own HO.out) (Nat.le_refl _) (by obtain ⟨_, c', hv, hle⟩ := own_shape HO.out; injection hv with e1 e2 e3; omega) (fun h31 => by
          rcases HO.out.2 with ⟨hv, h0⟩ | ⟨g', cap, cur, hv, _⟩
          · rw [h31] at h0; cases h0
          · injection hv with e1 e2 e3; exact ⟨g', e1⟩)); rw [HV.out, ← HN5.out] at HP; refine HP.out.mono ?_; rintro e w2 ⟨rfl, hb2⟩; have HB2 := Lib.hid hb2; have K2 := Lib.hid (K1.out.below hb2 K1.out.lt); clear hb2; have y0 : w2.cell? ⟨w.heap.size, 0, none⟩ = some (.int .u8 0) := K2.out.cell 0; have y1 : w2.cell? ⟨w.heap.size, 1, none⟩ = some (.int .u8 0) := K2.out.cell 1; have y2 : w2.cell? ⟨w.heap.size, 2, none⟩ = some (.int .u8 0) := K2.out.cell 2; have y3 : w2.cell? ⟨w.heap.size, 3, none⟩ = some (.int .u8 0) := K2.out.cell 3; have y4 : w2.cell? ⟨w.heap.size, 4, none⟩ = some (.int .u8 0) := K2.out.cell 4; have y5 : w2.cell? ⟨w.heap.size, 5, none⟩ = some (.int .u8 0) := K2.out.cell 5; have y6 : w2.cell? ⟨w.heap.size, 6, none⟩ = some (.int .u8 0) := K2.out.cell 6; have y7 : w2.cell? ⟨w.heap.size, 7, none⟩ = some (.int .u8 0) := K2.out.cell 7; have y8 : w2.cell? ⟨w.heap.size, 8, none⟩ = some (.int .i64 0) := K2.out.cell 8; have y9 : w2.cell? ⟨w.heap.size, 9, none⟩ = some (.int .i64 0) := K2.out.cell 9; have y10 : w2.cell? ⟨w.heap.size, 10, none⟩ = some (.int .i64 0) := K2.out.cell 10; have y11 : w2.cell? ⟨w.heap.size, 11, none⟩ = some (.int .i64 0) := K2.out.cell 11; have y12 : w2.cell? ⟨w.heap.size, 12, none⟩ = some (.int .i64 0) := K2.out.cell 12; have yf : ∀ i, w2.frozen? ⟨w.heap.size, i, none⟩ = false := K2.out.frozen))
    refine bodyPost_ret (v := .tuple #[.agg #[.int .u8 (a0.toNat : Int), .int .u8 (a1.toNat : Int), .int .u8 (a2.toNat : Int), .int .u8 (a3.toNat : Int), .int .u8 (a4.toNat : Int), .int .u8 (a5.toNat : Int), .int .u8 (a6.toNat : Int), .int .u8 (a7.toNat : Int), .int .i64 n0, .int .i64 n1, .int .i64 n2, .int .i64 n3, .int .i64 n4], .int .i64 n5]) (by simp only [results, Try.results10]; go_simp) rfl ⟨rfl, ?_⟩
    iterate 13 (with_reducible refine Below.setCell ?_ (by simp) _)
    exact (((Below.refl _ w).alloc (Nat.le_refl _) _).trans (HB.out.mono (by rw [alloc_size]; omega))).trans (HB2.out.mono (by have := HB.out.size; rw [alloc_size] at this; omega))
  · rw [if_neg hx, if_neg hx, zero_lab]
    have hx2 : (x != 0) = true := by simp [hx]
    clear hx
    go_enter Try.func10, Try.ntmps10
    go_wp2_with (go_at_call 86; refine (HC.out _ ((Below.refl _ w).alloc (Nat.le_refl _) _)).mono ?_; rintro e w1 ⟨A, c, rfl, ho, hb⟩; have HB := Lib.hid hb; have K2 := Lib.hid ((Blk.new w 26 #[.int .u8 0, .int .u8 0, .int .u8 0, .int .u8 0, .int .u8 0, .int .u8 0, .int .u8 0, .int .u8 0, .int .i64 0, .int .i64 0, .int .i64 0, .int .i64 0, .int .i64 0]).below hb (by rw [alloc_size]; omega)); clear ho hb; have y0 : w1.cell? ⟨w.heap.size, 0, none⟩ = some (.int .u8 0) := K2.out.cell 0; have y1 : w1.cell? ⟨w.heap.size, 1, none⟩ = some (.int .u8 0) := K2.out.cell 1; have y2 : w1.cell? ⟨w.heap.size, 2, none⟩ = some (.int .u8 0) := K2.out.cell 2; have y3 : w1.cell? ⟨w.heap.size, 3, none⟩ = some (.int .u8 0) := K2.out.cell 3; have y4 : w1.cell? ⟨w.heap.size, 4, none⟩ = some (.int .u8 0) := K2.out.cell 4; have y5 : w1.cell? ⟨w.heap.size, 5, none⟩ = some (.int .u8 0) := K2.out.cell 5; have y6 : w1.cell? ⟨w.heap.size, 6, none⟩ = some (.int .u8 0) := K2.out.cell 6; have y7 : w1.cell? ⟨w.heap.size, 7, none⟩ = some (.int .u8 0) := K2.out.cell 7; have y8 : w1.cell? ⟨w.heap.size, 8, none⟩ = some (.int .i64 0) := K2.out.cell 8; have y9 : w1.cell? ⟨w.heap.size, 9, none⟩ = some (.int .i64 0) := K2.out.cell 9; have y10 : w1.cell? ⟨w.heap.size, 10, none⟩ = some (.int .i64 0) := K2.out.cell 10; have y11 : w1.cell? ⟨w.heap.size, 11, none⟩ = some (.int .i64 0) := K2.out.cell 11; have y12 : w1.cell? ⟨w.heap.size, 12, none⟩ = some (.int .i64 0) := K2.out.cell 12; have yf : ∀ i, w1.frozen? ⟨w.heap.size, i, none⟩ = false := K2.out.frozen)
    refine bodyPost_ret (v := .tuple #[.agg #[.int .u8 0, .int .u8 0, .int .u8 0, .int .u8 0, .int .u8 0, .int .u8 0, .int .u8 0, .int .u8 0, .int .i64 0, .int .i64 0, .int .i64 0, .int .i64 0, .int .i64 0], .int .i64 x]) (by simp only [results, Try.results10]; go_simp) rfl ⟨rfl, ?_⟩
    iterate 13 (with_reducible refine Below.setCell ?_ (by simp) _)
    exact ((Below.refl _ w).alloc (Nat.le_refl _) _).trans (HB.out.mono (by rw [alloc_size]; omega))

set_option maxRecDepth 100000 in
set_option maxHeartbeats 4000000 in
theorem lwrite_any (p : Nat) (S S1 S2 S3 S4 : Drv) (F : Nat → Prop) (l : Lab) (hl : l.Wf) (hmay : l.may = 0) (w : World) (hd : Dr w p S F) (hF : ∀ k, F k → k < w.heap.size)
    (s0 : S.Small) (s1 : S1.Small) (s2 : S2.Small) (s3 : S3.Small)
    (h1 : S.create [116] = (S1, 0)) (h2 : S1.append [116] l.bytes = (S2, 0)) (h3 : S2.sync [116] = (S3, 0)) (h4 : S3.rename [116] [108] = (S4, 0)) :
    Calls Try.prog 11 #[.iface 50 (.pointer (some ⟨p, 0, none⟩)), labV l] w fun e w' => e = .returned (.int .i64 0) ∧ Dr w' p S4.syncDir (grow F w w') ∧ Touch F w w' := by
  have hlen := l.bytes_length hl.st
  have HE : Hid (∀ W, Calls Try.prog 15 #[labV l] W fun e w' => ∃ A c, e = .returned (.tuple #[.slice A l.bytes.length c, .int .i64 0]) ∧ w'.ownsRow W.heap.size 5 1 (.slice A l.bytes.length c) l.bytes.length (l.bytes.map B8) ∧ Below W.heap.size W w') := Lib.hid fun W => by
    refine (encode_ok l hl hmay W).mono ?_
    rintro e w' ⟨u, he, ho, hb⟩
    obtain ⟨A, c, rfl, _⟩ := own_shape ho
    rw [hlen]
    exact ⟨A, c, he, ho, hb⟩
  have HW : Hid (∀ (W : World) (A : Option Addr) (c : Nat), Below w.heap.size w W → W.ownsRow w.heap.size 5 1 (.slice A l.bytes.length c) l.bytes.length (l.bytes.map B8) → Calls Try.prog 22 #[.iface 50 (.pointer (some ⟨p, 0, none⟩)), .string ⟨#[108]⟩, .slice A l.bytes.length c] W fun e w' => e = .returned (.int .i64 0) ∧ Dr w' p S4.syncDir (grow F w w') ∧ Touch F w w') := Lib.hid fun W A c hW ho => by
    have hs := hW.size
    refine (dwrite_any p S S1 S2 S3 S4 F A c l.bytes W (hd.below hW) (fun k hk => by have := hF k hk; omega) (fun V hV => Reads.of_own (row_touch ho hV hF)) (by omega) s0 s1 s2 s3 h1 h2 h3 h4).mono ?_
    rintro e w' ⟨he, hd', ht⟩
    refine ⟨he, hd'.mono fun i hi => ?_, (Touch.of_below hW).trans (ht.mono fun i _ hi => .inl hi)⟩
    rcases hi with hi | ⟨h1, h2⟩
    · exact .inl hi
    · exact .inr ⟨by omega, h2⟩
  obtain ⟨a0, a1, a2, a3, a4, a5, a6, a7, h⟩ := agg_of l hl.st
  rw [h] at HE ⊢
  obtain ⟨m, hm⟩ : ∃ m, m = l.bytes.length := ⟨_, rfl⟩
  rw [← hm] at HE HW
  clear hd hF s0 s1 s2 s3 h1 h2 h3 h4 hl hmay h hlen hm
  go_enter Try.func11, Try.ntmps11
  go_wp2_with (first
    | (go_at_call 15; refine (HE.out _).mono ?_; rintro e w1 ⟨A, c, rfl, ho, hb⟩; have HO := Lib.hid (ownsRow_base_a ho (base' := w.heap.size) (by rw [alloc_size]; omega)); have HB : Hid (Below w.heap.size w w1) := Lib.hid (((Below.refl _ w).alloc (Nat.le_refl _) _).trans (hb.mono (by rw [alloc_size]; omega))); clear ho hb)
    | (go_at_call 22; refine (HW.out _ _ _ HB.out HO.out).mono ?_; rintro e w2 ⟨rfl, h1, h2⟩; have H1 := Lib.hid h1; have H2 := Lib.hid h2; clear h1 h2))
  go_ret
  exact ⟨rfl, H1.out, H2.out⟩
end Go.Proofs.Ytdiaihpilniikaa
