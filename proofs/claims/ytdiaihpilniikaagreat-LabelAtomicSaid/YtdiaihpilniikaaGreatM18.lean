/- A drive's label: Read and Write, over a drive and over none.; The law's helper 'known'.; The law's helpers fit and twin. -/
import Derived.Test.YtdiaihpilniikaaGreatM17
import Derived.Test.YtdiaihpilniikaaGreatM16
import Derived.Laws.BytesArg
import Derived.Deep.RegionHeld3
import Derived.Deep.DeepCutAuto
namespace Go.Proofs.YtdiaihpilniikaaGreat
open Go.RowKit Go.Maps

theorem zero_lab : labV Lab.zero = .agg #[.int .u8 0, .int .u8 0, .int .u8 0, .int .u8 0, .int .u8 0, .int .u8 0, .int .u8 0, .int .u8 0, .int .i64 0, .int .i64 0, .int .i64 0, .int .i64 0, .int .i64 0] := rfl
theorem agg_of (l : Lab) (h : l.st.length = 8) : ∃ a0 a1 a2 a3 a4 a5 a6 a7 : UInt8, labV l = .agg #[.int .u8 (a0.toNat : Int), .int .u8 (a1.toNat : Int), .int .u8 (a2.toNat : Int), .int .u8 (a3.toNat : Int), .int .u8 (a4.toNat : Int), .int .u8 (a5.toNat : Int), .int .u8 (a6.toNat : Int), .int .u8 (a7.toNat : Int), .int .i64 l.k, .int .i64 l.m, .int .i64 l.b, .int .i64 l.i, .int .i64 l.e] := by
  obtain ⟨a0, a1, a2, a3, a4, a5, a6, a7, hst⟩ := lab_eight h
  refine ⟨a0, a1, a2, a3, a4, a5, a6, a7, ?_⟩
  unfold labV labCells; rw [hst]; rfl
theorem parse_st (bs : List UInt8) : (Lab.parse bs).1.st.length = 8 := by
  unfold Lab.parse
  split
  · rename_i h; exact (Lab.bytes_of h).2.2
  · rfl

theorem lread_nil (w : World) : Calls Tryz.prog 13 #[.nilIface] w fun e w' => e = .returned (.tuple #[labV Lab.zero, .int .i64 1]) ∧ Below w.heap.size w w' := by
  rw [zero_lab]
  go_enter Tryz.func13, Tryz.ntmps13
  go_wp2
  refine bodyPost_ret (v := .tuple #[.agg #[.int .u8 0, .int .u8 0, .int .u8 0, .int .u8 0, .int .u8 0, .int .u8 0, .int .u8 0, .int .u8 0, .int .i64 0, .int .i64 0, .int .i64 0, .int .i64 0, .int .i64 0], .int .i64 1]) (by simp only [results, Tryz.results13]; go_simp) rfl ⟨rfl, ?_⟩
  repeat (first | with_reducible exact Below.refl _ _ | with_reducible refine Below.setCell ?_ (by simp) _ | with_reducible refine Below.alloc ?_ (by simp) _)
theorem lwrite_nil (l : Lab) (hl : l.st.length = 8) (w : World) : Calls Tryz.prog 17 #[.nilIface, labV l] w fun e w' => e = .returned (.int .i64 1) ∧ Below w.heap.size w w' := by
  obtain ⟨a0, a1, a2, a3, a4, a5, a6, a7, h⟩ := agg_of l hl
  rw [h]
  clear h hl
  go_enter Tryz.func17, Tryz.ntmps17
  go_wp2
  go_ret
  exact ⟨rfl, (Below.refl _ w).alloc (Nat.le_refl _) _⟩

set_option maxRecDepth 100000 in
set_option maxHeartbeats 4000000 in
theorem lread_any (p : Nat) (S : Drv) (F : Nat → Prop) (bs : List UInt8) (x : Int) (w : World) (hd : Dr w p S F) (hS : S.Small) (hr : S.read [108] = (bs, x)) (hbs : bs.length ≤ 1000000) :
    Calls Tryz.prog 13 #[.iface 31 (.pointer (some ⟨p, 0, none⟩))] w fun e w' => e = .returned (.tuple #[labV (if x = 0 then (Lab.parse bs).1 else Lab.zero), .int .i64 (if x = 0 then (Lab.parse bs).2 else x)]) ∧ Below w.heap.size w w' := by
  have hm : ∀ W : World, (method 285 31 (.pointer (some ⟨p, 0, none⟩)) "Read").run Tryz.prog W = .ok (34, .pointer (some ⟨p, 0, none⟩)) W := fun _ => by kernel_rfl
  obtain ⟨addr, hda⟩ := hd
  have HC : Hid (∀ W : World, Below w.heap.size w W → Calls Tryz.prog 34 #[.pointer (some ⟨p, 0, none⟩), .string ⟨#[108]⟩] W fun e w' => ∃ A c, e = .returned (.tuple #[.slice A bs.length c, .int .i64 x]) ∧ w'.ownsRow W.heap.size 5 1 (.slice A bs.length c) bs.length (bs.map B8) ∧ Below W.heap.size W w') := Lib.hid fun W hW => by
    obtain ⟨addr2, hd2⟩ := Dr.below ⟨addr, hda⟩ hW
    refine (read_any p S addr2 F nL W (by decide) hd2 hS.len).mono ?_
    rintro e w' ⟨v, he, ho, hb⟩
    have hr' : S.read nL.data.toList = (bs, x) := hr
    rw [hr'] at he ho
    obtain ⟨A, c, rfl, _⟩ := own_shape ho
    exact ⟨A, c, he, ho, hb⟩
  clear hda hS hr
  by_cases hx : x = 0
  · subst hx
    rw [if_pos rfl, if_pos rfl]
    obtain ⟨a0, a1, a2, a3, a4, a5, a6, a7, h⟩ := agg_of (Lab.parse bs).1 (parse_st bs)
    have HV := Lib.hid h
    obtain ⟨n0, hn0⟩ : ∃ n, n = (Lab.parse bs).1.k := ⟨_, rfl⟩
    obtain ⟨n1, hn1⟩ : ∃ n, n = (Lab.parse bs).1.m := ⟨_, rfl⟩
    obtain ⟨n2, hn2⟩ : ∃ n, n = (Lab.parse bs).1.b := ⟨_, rfl⟩
    obtain ⟨n3, hn3⟩ : ∃ n, n = (Lab.parse bs).1.i := ⟨_, rfl⟩
    obtain ⟨n4, hn4⟩ : ∃ n, n = (Lab.parse bs).1.e := ⟨_, rfl⟩
    obtain ⟨n5, hn5⟩ : ∃ n, n = (Lab.parse bs).2 := ⟨_, rfl⟩
    have HN5 := Lib.hid hn5
    rw [← hn0, ← hn1, ← hn2, ← hn3, ← hn4] at HV
    rw [HV.out, ← hn5]
    clear h hn0 hn1 hn2 hn3 hn4 hn5
    go_enter Tryz.func13, Tryz.ntmps13
    go_wp2_with (first
      | (go_at_call 34; refine (HC.out _ ((Below.refl _ w).alloc (Nat.le_refl _) _)).mono ?_; rintro e w1 ⟨A, c, rfl, ho, hb⟩; have HO := Lib.hid ho; have HB := Lib.hid hb; have K1 := Lib.hid ((Blk.new w 27 #[.int .u8 0, .int .u8 0, .int .u8 0, .int .u8 0, .int .u8 0, .int .u8 0, .int .u8 0, .int .u8 0, .int .i64 0, .int .i64 0, .int .i64 0, .int .i64 0, .int .i64 0]).below hb (by rw [alloc_size]; omega)); clear ho hb)
      | (go_at_call 32; have HP := Lib.hid (parse_any A bs.length c bs w1 w1.heap.size (Reads.of_own HO.out) (Nat.le_refl _) (by obtain ⟨_, c', hv, hle⟩ := own_shape HO.out; injection hv with e1 e2 e3; omega) (fun h31 => by
          rcases HO.out.2 with ⟨hv, h0⟩ | ⟨g', cap, cur, hv, _⟩
          · rw [h31] at h0; cases h0
          · injection hv with e1 e2 e3; exact ⟨g', e1⟩)); rw [HV.out, ← HN5.out] at HP; refine HP.out.mono ?_; rintro e w2 ⟨rfl, hb2⟩; have HB2 := Lib.hid hb2; have K2 := Lib.hid (K1.out.below hb2 K1.out.lt); clear hb2; have y0 : w2.cell? ⟨w.heap.size, 0, none⟩ = some (.int .u8 0) := K2.out.cell 0; have y1 : w2.cell? ⟨w.heap.size, 1, none⟩ = some (.int .u8 0) := K2.out.cell 1; have y2 : w2.cell? ⟨w.heap.size, 2, none⟩ = some (.int .u8 0) := K2.out.cell 2; have y3 : w2.cell? ⟨w.heap.size, 3, none⟩ = some (.int .u8 0) := K2.out.cell 3; have y4 : w2.cell? ⟨w.heap.size, 4, none⟩ = some (.int .u8 0) := K2.out.cell 4; have y5 : w2.cell? ⟨w.heap.size, 5, none⟩ = some (.int .u8 0) := K2.out.cell 5; have y6 : w2.cell? ⟨w.heap.size, 6, none⟩ = some (.int .u8 0) := K2.out.cell 6; have y7 : w2.cell? ⟨w.heap.size, 7, none⟩ = some (.int .u8 0) := K2.out.cell 7; have y8 : w2.cell? ⟨w.heap.size, 8, none⟩ = some (.int .i64 0) := K2.out.cell 8; have y9 : w2.cell? ⟨w.heap.size, 9, none⟩ = some (.int .i64 0) := K2.out.cell 9; have y10 : w2.cell? ⟨w.heap.size, 10, none⟩ = some (.int .i64 0) := K2.out.cell 10; have y11 : w2.cell? ⟨w.heap.size, 11, none⟩ = some (.int .i64 0) := K2.out.cell 11; have y12 : w2.cell? ⟨w.heap.size, 12, none⟩ = some (.int .i64 0) := K2.out.cell 12; have yf : ∀ i, w2.frozen? ⟨w.heap.size, i, none⟩ = false := K2.out.frozen))
    refine bodyPost_ret (v := .tuple #[.agg #[.int .u8 (a0.toNat : Int), .int .u8 (a1.toNat : Int), .int .u8 (a2.toNat : Int), .int .u8 (a3.toNat : Int), .int .u8 (a4.toNat : Int), .int .u8 (a5.toNat : Int), .int .u8 (a6.toNat : Int), .int .u8 (a7.toNat : Int), .int .i64 n0, .int .i64 n1, .int .i64 n2, .int .i64 n3, .int .i64 n4], .int .i64 n5]) (by simp only [results, Tryz.results13]; go_simp) rfl ⟨rfl, ?_⟩
    iterate 13 (with_reducible refine Below.setCell ?_ (by simp) _)
    exact (((Below.refl _ w).alloc (Nat.le_refl _) _).trans (HB.out.mono (by rw [alloc_size]; omega))).trans (HB2.out.mono (by have := HB.out.size; rw [alloc_size] at this; omega))
  · rw [if_neg hx, if_neg hx, zero_lab]
    have hx2 : (x != 0) = true := by simp [hx]
    clear hx
    go_enter Tryz.func13, Tryz.ntmps13
    go_wp2_with (go_at_call 34; refine (HC.out _ ((Below.refl _ w).alloc (Nat.le_refl _) _)).mono ?_; rintro e w1 ⟨A, c, rfl, ho, hb⟩; have HB := Lib.hid hb; have K2 := Lib.hid ((Blk.new w 27 #[.int .u8 0, .int .u8 0, .int .u8 0, .int .u8 0, .int .u8 0, .int .u8 0, .int .u8 0, .int .u8 0, .int .i64 0, .int .i64 0, .int .i64 0, .int .i64 0, .int .i64 0]).below hb (by rw [alloc_size]; omega)); clear ho hb; have y0 : w1.cell? ⟨w.heap.size, 0, none⟩ = some (.int .u8 0) := K2.out.cell 0; have y1 : w1.cell? ⟨w.heap.size, 1, none⟩ = some (.int .u8 0) := K2.out.cell 1; have y2 : w1.cell? ⟨w.heap.size, 2, none⟩ = some (.int .u8 0) := K2.out.cell 2; have y3 : w1.cell? ⟨w.heap.size, 3, none⟩ = some (.int .u8 0) := K2.out.cell 3; have y4 : w1.cell? ⟨w.heap.size, 4, none⟩ = some (.int .u8 0) := K2.out.cell 4; have y5 : w1.cell? ⟨w.heap.size, 5, none⟩ = some (.int .u8 0) := K2.out.cell 5; have y6 : w1.cell? ⟨w.heap.size, 6, none⟩ = some (.int .u8 0) := K2.out.cell 6; have y7 : w1.cell? ⟨w.heap.size, 7, none⟩ = some (.int .u8 0) := K2.out.cell 7; have y8 : w1.cell? ⟨w.heap.size, 8, none⟩ = some (.int .i64 0) := K2.out.cell 8; have y9 : w1.cell? ⟨w.heap.size, 9, none⟩ = some (.int .i64 0) := K2.out.cell 9; have y10 : w1.cell? ⟨w.heap.size, 10, none⟩ = some (.int .i64 0) := K2.out.cell 10; have y11 : w1.cell? ⟨w.heap.size, 11, none⟩ = some (.int .i64 0) := K2.out.cell 11; have y12 : w1.cell? ⟨w.heap.size, 12, none⟩ = some (.int .i64 0) := K2.out.cell 12; have yf : ∀ i, w1.frozen? ⟨w.heap.size, i, none⟩ = false := K2.out.frozen)
    refine bodyPost_ret (v := .tuple #[.agg #[.int .u8 0, .int .u8 0, .int .u8 0, .int .u8 0, .int .u8 0, .int .u8 0, .int .u8 0, .int .u8 0, .int .i64 0, .int .i64 0, .int .i64 0, .int .i64 0, .int .i64 0], .int .i64 x]) (by simp only [results, Tryz.results13]; go_simp) rfl ⟨rfl, ?_⟩
    iterate 13 (with_reducible refine Below.setCell ?_ (by simp) _)
    exact ((Below.refl _ w).alloc (Nat.le_refl _) _).trans (HB.out.mono (by rw [alloc_size]; omega))

set_option maxRecDepth 100000 in
set_option maxHeartbeats 4000000 in
theorem lwrite_any (p : Nat) (S S1 S2 S3 S4 : Drv) (F : Nat → Prop) (l : Lab) (hl : l.Wf) (hmay : l.may = 0) (w : World) (hd : Dr w p S F) (hF : ∀ k, F k → k < w.heap.size)
    (s0 : S.Small) (s1 : S1.Small) (s2 : S2.Small) (s3 : S3.Small)
    (h1 : S.create [116] = (S1, 0)) (h2 : S1.append [116] l.bytes = (S2, 0)) (h3 : S2.sync [116] = (S3, 0)) (h4 : S3.rename [116] [108] = (S4, 0)) :
    Calls Tryz.prog 17 #[.iface 31 (.pointer (some ⟨p, 0, none⟩)), labV l] w fun e w' => e = .returned (.int .i64 0) ∧ Dr w' p S4.syncDir (grow F w w') ∧ Touch F w w' := by
  have hlen := l.bytes_length hl.st
  have HE : Hid (∀ W, Calls Tryz.prog 30 #[labV l] W fun e w' => ∃ A c, e = .returned (.tuple #[.slice A l.bytes.length c, .int .i64 0]) ∧ w'.ownsRow W.heap.size 5 1 (.slice A l.bytes.length c) l.bytes.length (l.bytes.map B8) ∧ Below W.heap.size W w') := Lib.hid fun W => by
    refine (encode_ok l hl hmay W).mono ?_
    rintro e w' ⟨u, he, ho, hb⟩
    obtain ⟨A, c, rfl, _⟩ := own_shape ho
    rw [hlen]
    exact ⟨A, c, he, ho, hb⟩
  have HW : Hid (∀ (W : World) (A : Option Addr) (c : Nat), Below w.heap.size w W → W.ownsRow w.heap.size 5 1 (.slice A l.bytes.length c) l.bytes.length (l.bytes.map B8) → Calls Tryz.prog 18 #[.iface 31 (.pointer (some ⟨p, 0, none⟩)), .string ⟨#[108]⟩, .slice A l.bytes.length c] W fun e w' => e = .returned (.int .i64 0) ∧ Dr w' p S4.syncDir (grow F w w') ∧ Touch F w w') := Lib.hid fun W A c hW ho => by
    have hs := hW.size
    refine (dwrite_any p S S1 S2 S3 S4 F A c l.bytes W (hd.below hW) (fun k hk => by have := hF k hk; omega) (fun V hV => Reads.of_own (row_touch ho hV hF)) (by omega) s0 s1 s2 s3 h1 h2 h3 h4).mono ?_
    rintro e w' ⟨he, hd', ht⟩
    refine ⟨he, hd'.mono fun i hi => ?_, (Touch.of_below hW).trans (ht.mono fun i _ hi => .inl hi)⟩
    rcases hi with hi | ⟨h1, h2⟩
    · exact .inl hi
    · exact .inr ⟨by omega, h2⟩
  obtain ⟨a0, a1, a2, a3, a4, a5, a6, a7, h⟩ := agg_of l hl.st
  rw [h] at HE ⊢
  obtain ⟨m, hm⟩ : ∃ m, m = l.bytes.length := ⟨_, rfl⟩
  rw [← hm] at HE HW
  clear hd hF s0 s1 s2 s3 h1 h2 h3 h4 hl hmay h hlen hm
  go_enter Tryz.func17, Tryz.ntmps17
  go_wp2_with (first
    | (go_at_call 30; refine (HE.out _).mono ?_; rintro e w1 ⟨A, c, rfl, ho, hb⟩; have HO := Lib.hid (ownsRow_base_a ho (base' := w.heap.size) (by rw [alloc_size]; omega)); have HB : Hid (Below w.heap.size w w1) := Lib.hid (((Below.refl _ w).alloc (Nat.le_refl _) _).trans (hb.mono (by rw [alloc_size]; omega))); clear ho hb)
    | (go_at_call 18; refine (HW.out _ _ _ HB.out HO.out).mono ?_; rintro e w2 ⟨rfl, h1, h2⟩; have H1 := Lib.hid h1; have H2 := Lib.hid h2; clear h1 h2))
  go_ret
  exact ⟨rfl, H1.out, H2.out⟩
end Go.Proofs.YtdiaihpilniikaaGreat
namespace Go.Proofs.YtdiaihpilniikaaGreat
open Go.RowKit Go.Maps

/-- The drive that the law makes, and what comes of it. -/
def kS0 : Drv := Drv.new 1000
def kS1 : Drv := (kS0.create [116]).1
def kS2 : Drv := (kS1.append [116] sampleL.bytes).1
def kS3 : Drv := (kS2.sync [116]).1
def kS4 : Drv := (kS3.rename [116] [108]).1
def smallB (S : Drv) : Bool := S.bodies.all (fun b => decide (b.data.length ≤ 100) && decide (b.safe ≤ 100)) && decide (0 ≤ S.used) && decide (S.used ≤ 100) && decide (size S.now ≤ 9) && decide (size S.kept ≤ 9) && decide (S.pending.length ≤ 9) && decide (S.room ≤ 1000)
theorem small_of {S : Drv} (h : smallB S = true) : S.Small := by
  unfold smallB at h
  simp only [Bool.and_eq_true, decide_eq_true_eq, List.all_eq_true] at h
  obtain ⟨⟨⟨⟨⟨⟨hb, h1⟩, h2⟩, h3⟩, h4⟩, h5⟩, h6⟩ := h
  have hB : ∀ i, (S.body i).data.length ≤ 100 ∧ (S.body i).safe ≤ 100 := fun i => by
    unfold Drv.body
    by_cases hi : i < S.bodies.length
    · rw [List.getD_eq_getElem?_getD, List.getElem?_eq_getElem hi]
      exact hb _ (List.getElem_mem hi)
    · rw [List.getD_eq_getElem?_getD, List.getElem?_eq_none (by omega)]
      exact ⟨by decide, by decide⟩
  exact ⟨fun i => by have := (hB i).1; show (S.body i).data.length ≤ _; omega, by omega, by omega, by omega, by omega, by omega, fun i => by have := (hB i).2; omega, h1⟩
theorem k_small : kS0.Small ∧ kS1.Small ∧ kS2.Small ∧ kS3.Small ∧ kS4.syncDir.Small := ⟨small_of (by kernel_rfl), small_of (by kernel_rfl), small_of (by kernel_rfl), small_of (by kernel_rfl), small_of (by kernel_rfl)⟩
theorem k_steps : kS0.create [116] = (kS1, 0) ∧ kS1.append [116] sampleL.bytes = (kS2, 0) ∧ kS2.sync [116] = (kS3, 0) ∧ kS3.rename [116] [108] = (kS4, 0) := ⟨Prod.ext rfl (by kernel_rfl), Prod.ext rfl (by kernel_rfl), Prod.ext rfl (by kernel_rfl), Prod.ext rfl (by kernel_rfl)⟩
theorem k_reads : kS0.read [108] = ([], 110) ∧ kS4.syncDir.read [108] = (sampleL.bytes, 0) := ⟨by kernel_rfl, by kernel_rfl⟩
theorem sample_wf : sampleL.Wf := ⟨rfl, by decide, by decide⟩
theorem sample_may : sampleL.may = 0 := by decide
theorem newd_any (w : World) : Calls Tryz.prog 19 #[.int .i64 1000] w fun e w' => ∃ p, e = .returned (.pointer (some ⟨p, 0, none⟩)) ∧ Dr w' p kS0 (fun k => w.heap.size ≤ k ∧ k < w'.heap.size) ∧ Below w.heap.size w w' := by
  refine (new_good 1000 w (by decide) (by decide)).mono ?_
  rintro e w' ⟨rfl, rfl⟩
  obtain ⟨addr, L, e, hD, hF⟩ : Dr _ _ _ _ := ⟨_, dr_new w 1000⟩
  exact ⟨_, rfl, ⟨addr, L, e, hD, fun k hk => ⟨hF k hk, hD.foot_lt hk⟩⟩, (((Below.refl _ w).alloc (Nat.le_refl _) _).alloc (by simp) _).alloc (by simp; omega) _⟩

theorem sa_eq : labV sampleL = .agg #[.int .u8 1, .int .u8 2, .int .u8 3, .int .u8 4, .int .u8 5, .int .u8 6, .int .u8 7, .int .u8 8, .int .i64 2, .int .i64 1, .int .i64 4, .int .i64 2, .int .i64 258] := rfl
theorem sample_head : sampleL.bytes.take 27 = [67, 82, 78, 1, 1, 2, 3, 4, 5, 6, 7, 8, 2, 1, 4, 0, 0, 0, 2, 2, 1, 0, 0, 0, 0, 0, 0] := by kernel_rfl
theorem sample_parse : Lab.parse sampleL.bytes = (sampleL, 0) := Lab.parse_bytes sampleL rfl sample_may

set_option maxRecDepth 100000 in
set_option maxHeartbeats 20000000 in
theorem known_any (w : World) : Calls Tryz.prog 8 #[] w fun e w' => e = .returned (.bool true) ∧ Below w.heap.size w w' := by
  have HSA : Hid (∀ W, Calls Tryz.prog 31 #[] W fun e w' => e = .returned (.agg #[.int .u8 1, .int .u8 2, .int .u8 3, .int .u8 4, .int .u8 5, .int .u8 6, .int .u8 7, .int .u8 8, .int .i64 2, .int .i64 1, .int .i64 4, .int .i64 2, .int .i64 258]) ∧ Below W.heap.size W w') := Lib.hid sample_any
  have HEN : Hid (∀ W, Calls Tryz.prog 30 #[.agg #[.int .u8 1, .int .u8 2, .int .u8 3, .int .u8 4, .int .u8 5, .int .u8 6, .int .u8 7, .int .u8 8, .int .i64 2, .int .i64 1, .int .i64 4, .int .i64 2, .int .i64 258]] W fun e w' => ∃ g c, e = .returned (.tuple #[.slice (some ⟨g, 0, none⟩) 31 c, .int .i64 0]) ∧ w'.ownsRow W.heap.size 5 1 (.slice (some ⟨g, 0, none⟩) 31 c) 31 (sampleL.bytes.map B8) ∧ Below W.heap.size W w' ∧ 31 ≤ c) := Lib.hid fun W => by
    refine (encode_ok sampleL sample_wf sample_may W).mono ?_
    rintro e w' ⟨u, he, ho, hb⟩
    obtain ⟨A, c, rfl, hle⟩ := own_shape ho
    obtain ⟨g, rfl⟩ : ∃ g, A = some ⟨g, 0, none⟩ := by
      rcases ho.2 with ⟨_, h0⟩ | ⟨g', cap, cur, hv, _⟩
      · cases h0
      · injection hv with e1 e2 e3; exact ⟨g', e1⟩
    exact ⟨g, c, he, ho, hb, hle⟩
  go_enter Tryz.func8, Tryz.ntmps8
  go_wp2_with (first
    | (go_at_call 31; refine (HSA.out _).mono ?_; rintro e w1 ⟨rfl, hb1⟩; have HB1 := Lib.hid hb1; clear hb1)
    | (go_at_call 30; refine (HEN.out _).mono ?_; rintro e w2 ⟨g, c, rfl, ho, hb2, hc31⟩; have HO2 := Lib.hid ho; have HB2 := Lib.hid hb2; clear ho hb2))
  refine wp_world fun X hX => ?_
  have h12 := HB1.out.size
  have h13 := HB2.out.size
  have HBX : Hid (Below w.heap.size w X) := Lib.hid (by rw [hX]; exact (HB1.out.trans (HB2.out.mono h12)).alloc (by omega) _)
  have HOX : Hid (X.ownsRow w.heap.size 5 1 (.slice (some ⟨g, 0, none⟩) 31 c) 31 (sampleL.bytes.map B8)) := Lib.hid (by rw [hX]; exact (ownsRow_base_a HO2.out h12).alloc _)
  have hX2 : X.heap.size = w2.heap.size + 1 := by rw [hX, alloc_size]
  have HKW : Hid (Blk X w2.heap.size 5 (([67, 82, 78, 1, 1, 2, 3, 4, 5, 6, 7, 8, 2, 1, 4, 0, 0, 0, 2, 2, 1, 0, 0, 0, 0, 0, 0] : List UInt8).map B8).toArray) := Lib.hid (by rw [hX]; exact Blk.new _ _ _)
  have HRX : Hid (Reads X X.heap.size 1 (some ⟨g, 0, none⟩) 31 (sampleL.bytes.map B8)) := Lib.hid (Reads.of_own HOX.out)
  have hva : ∀ m, (convert 22 9 (.slice (some ⟨g, 0, none⟩) 27 c)).run Tryz.prog (X.drewN m) = .ok (.string ⟨([67, 82, 78, 1, 1, 2, 3, 4, 5, 6, 7, 8, 2, 1, 4, 0, 0, 0, 2, 2, 1, 0, 0, 0, 0, 0, 0] : List UInt8).toArray⟩) (X.drewN m) := fun m => conv_any _ X.heap.size (some ⟨g, 0, none⟩) [67, 82, 78, 1, 1, 2, 3, 4, 5, 6, 7, 8, 2, 1, 4, 0, 0, 0, 2, 2, 1, 0, 0, 0, 0, 0, 0] c ((by
    have := reads_take HRX.out (j := 27) (by decide)
    rw [← List.map_take, sample_head] at this
    exact this : Reads X X.heap.size 1 (some ⟨g, 0, none⟩) 27 (([67, 82, 78, 1, 1, 2, 3, 4, 5, 6, 7, 8, 2, 1, 4, 0, 0, 0, 2, 2, 1, 0, 0, 0, 0, 0, 0] : List UInt8).map B8)).drewN m)
  have hvb : ∀ m, (convert 22 9 (.slice (some ⟨w2.heap.size, 0, none⟩) 27 27)).run Tryz.prog (X.drewN m) = .ok (.string ⟨([67, 82, 78, 1, 1, 2, 3, 4, 5, 6, 7, 8, 2, 1, 4, 0, 0, 0, 2, 2, 1, 0, 0, 0, 0, 0, 0] : List UInt8).toArray⟩) (X.drewN m) := fun m => conv_any _ X.heap.size (some ⟨w2.heap.size, 0, none⟩) [67, 82, 78, 1, 1, 2, 3, 4, 5, 6, 7, 8, 2, 1, 4, 0, 0, 0, 2, 2, 1, 0, 0, 0, 0, 0, 0] 27 (Reads.drewN (reads_blk HKW.out (by omega) rfl) m)
  have hc27 : (27 : Int) ≤ (c : Int) := by omega
  clear hX
  go_quiet (fail)
  have HP31 : Hid (∀ V, Below X.heap.size X V → Calls Tryz.prog 32 #[.slice (some ⟨g, 0, none⟩) 31 c] V fun e w' => e = .returned (.tuple #[.agg #[.int .u8 1, .int .u8 2, .int .u8 3, .int .u8 4, .int .u8 5, .int .u8 6, .int .u8 7, .int .u8 8, .int .i64 2, .int .i64 1, .int .i64 4, .int .i64 2, .int .i64 258], .int .i64 0]) ∧ Below V.heap.size V w') := Lib.hid fun V hV => by
    have h := parse_any (some ⟨g, 0, none⟩) 31 c sampleL.bytes V X.heap.size (HRX.out.below hV) hV.size hc31 (fun _ => ⟨g, rfl⟩)
    rw [sample_parse] at h
    exact h
  have HP30 : Hid (∀ V, Below X.heap.size X V → Calls Tryz.prog 32 #[.slice (some ⟨g, 0, none⟩) 30 c] V fun e w' => e = .returned (.tuple #[.agg #[.int .u8 0, .int .u8 0, .int .u8 0, .int .u8 0, .int .u8 0, .int .u8 0, .int .u8 0, .int .u8 0, .int .i64 0, .int .i64 0, .int .i64 0, .int .i64 0, .int .i64 0], .int .i64 150]) ∧ Below V.heap.size V w') := Lib.hid fun V hV => parse_short (some ⟨g, 0, none⟩) 30 c V (by decide)
  have HNS : Hid (∀ W, (binOp .neq 27 (.agg #[.int .u8 1, .int .u8 2, .int .u8 3, .int .u8 4, .int .u8 5, .int .u8 6, .int .u8 7, .int .u8 8, .int .i64 2, .int .i64 1, .int .i64 4, .int .i64 2, .int .i64 258]) (.agg #[.int .u8 1, .int .u8 2, .int .u8 3, .int .u8 4, .int .u8 5, .int .u8 6, .int .u8 7, .int .u8 8, .int .i64 2, .int .i64 1, .int .i64 4, .int .i64 2, .int .i64 258])).run Tryz.prog W = .ok (.bool false) W) := Lib.hid (lab_neq sampleL rfl)
  have HNZ : Hid (∀ W, (binOp .neq 27 (.agg #[.int .u8 0, .int .u8 0, .int .u8 0, .int .u8 0, .int .u8 0, .int .u8 0, .int .u8 0, .int .u8 0, .int .i64 0, .int .i64 0, .int .i64 0, .int .i64 0, .int .i64 0]) (.agg #[.int .u8 0, .int .u8 0, .int .u8 0, .int .u8 0, .int .u8 0, .int .u8 0, .int .u8 0, .int .u8 0, .int .i64 0, .int .i64 0, .int .i64 0, .int .i64 0, .int .i64 0])).run Tryz.prog W = .ok (.bool false) W) := Lib.hid (lab_neq Lab.zero rfl)
  have HES : Hid (∀ W, (binOp .eql 27 (.agg #[.int .u8 1, .int .u8 2, .int .u8 3, .int .u8 4, .int .u8 5, .int .u8 6, .int .u8 7, .int .u8 8, .int .i64 2, .int .i64 1, .int .i64 4, .int .i64 2, .int .i64 258]) (.agg #[.int .u8 1, .int .u8 2, .int .u8 3, .int .u8 4, .int .u8 5, .int .u8 6, .int .u8 7, .int .u8 8, .int .i64 2, .int .i64 1, .int .i64 4, .int .i64 2, .int .i64 258])).run Tryz.prog W = .ok (.bool true) W) := Lib.hid (lab_eql sampleL rfl)
  have hc30 : (30 : Int) ≤ (c : Int) := by omega
  have hbd : Below X.heap.size X (X.drewN nq) := below_drewN (Below.refl _ X) nq
  have HBD := Lib.hid hbd
  clear hbd hva hvb
  have tok1 : True := trivial
  have tok2 : True := trivial
  go_wp2_with (first
    | (go_at_call 32; have _t := tok1; clear tok1; refine (HP31.out _ HBD.out).mono ?_; rintro e w3 ⟨rfl, hb3⟩; have HB3 : Hid (Below X.heap.size X w3) := Lib.hid (HBD.out.trans (hb3.mono HBD.out.size)); clear hb3)
    | (go_at_call 32; refine (HP30.out _ (HB3.out.alloc HB3.out.size _)).mono ?_; rintro e w4 ⟨rfl, hb4⟩; have HB4 : Hid (Below X.heap.size X w4) := Lib.hid ((HB3.out.alloc HB3.out.size _).trans (hb4.mono (by rw [alloc_size]; have := HB3.out.size; omega))); have HK4 : Hid (Blk w4 w3.heap.size 27 #[.int .u8 1, .int .u8 2, .int .u8 3, .int .u8 4, .int .u8 5, .int .u8 6, .int .u8 7, .int .u8 8, .int .i64 2, .int .i64 1, .int .i64 4, .int .i64 2, .int .i64 258]) := Lib.hid ((Blk.new w3 _ _).below hb4 (by rw [alloc_size]; omega)); clear hb4)
    | (go_at_call 19; refine (newd_any _).mono ?_; rintro e w5 ⟨p, rfl, hd5, hb5⟩; have HB5 : Hid (Below X.heap.size X w5) := Lib.hid ((HB4.out.alloc HB4.out.size _).trans (hb5.mono (by rw [alloc_size]; have := HB4.out.size; omega))); have HK5 : Hid (Blk w5 w3.heap.size 27 #[.int .u8 1, .int .u8 2, .int .u8 3, .int .u8 4, .int .u8 5, .int .u8 6, .int .u8 7, .int .u8 8, .int .i64 2, .int .i64 1, .int .i64 4, .int .i64 2, .int .i64 258]) := Lib.hid ((HK4.out.alloc _).below hb5 (by rw [alloc_size]; have := HK4.out.lt; omega)); have HZ5 : Hid (Blk w5 w4.heap.size 27 #[.int .u8 0, .int .u8 0, .int .u8 0, .int .u8 0, .int .u8 0, .int .u8 0, .int .u8 0, .int .u8 0, .int .i64 0, .int .i64 0, .int .i64 0, .int .i64 0, .int .i64 0]) := Lib.hid ((Blk.new w4 _ _).below hb5 (by rw [alloc_size]; omega)); have HD5 : Hid (Dr w5 p kS0 fun k => w.heap.size ≤ k ∧ k < w5.heap.size) := Lib.hid (hd5.mono fun k hk => ⟨by have h1 := HBX.out.size; have h2 := HB4.out.size; have h3 := hk.1; rw [alloc_size] at h3; omega, hk.2⟩); clear hd5 hb5))
  obtain ⟨b4, hb4⟩ : ∃ b, b = w3.heap.size := ⟨_, rfl⟩
  obtain ⟨b6, hb6⟩ : ∃ b, b = w4.heap.size := ⟨_, rfl⟩
  rw [← hb4] at HK5 ⊢
  rw [← hb6] at HZ5 ⊢
  have HSC : Hid (∀ V : World, V.heap[b4]? = w5.heap[b4]? → V.heap[b6]? = w5.heap[b6]? → (V.cell? ⟨b4, 0, none⟩ = some (.int .u8 1) ∧ V.cell? ⟨b4, 1, none⟩ = some (.int .u8 2) ∧ V.cell? ⟨b4, 2, none⟩ = some (.int .u8 3) ∧ V.cell? ⟨b4, 3, none⟩ = some (.int .u8 4) ∧ V.cell? ⟨b4, 4, none⟩ = some (.int .u8 5) ∧ V.cell? ⟨b4, 5, none⟩ = some (.int .u8 6) ∧ V.cell? ⟨b4, 6, none⟩ = some (.int .u8 7) ∧ V.cell? ⟨b4, 7, none⟩ = some (.int .u8 8) ∧ V.cell? ⟨b4, 8, none⟩ = some (.int .i64 2) ∧ V.cell? ⟨b4, 9, none⟩ = some (.int .i64 1) ∧ V.cell? ⟨b4, 10, none⟩ = some (.int .i64 4) ∧ V.cell? ⟨b4, 11, none⟩ = some (.int .i64 2) ∧ V.cell? ⟨b4, 12, none⟩ = some (.int .i64 258)) ∧ V.cell? ⟨b6, 0, none⟩ = some (.int .u8 0) ∧ V.cell? ⟨b6, 1, none⟩ = some (.int .u8 0) ∧ V.cell? ⟨b6, 2, none⟩ = some (.int .u8 0) ∧ V.cell? ⟨b6, 3, none⟩ = some (.int .u8 0) ∧ V.cell? ⟨b6, 4, none⟩ = some (.int .u8 0) ∧ V.cell? ⟨b6, 5, none⟩ = some (.int .u8 0) ∧ V.cell? ⟨b6, 6, none⟩ = some (.int .u8 0) ∧ V.cell? ⟨b6, 7, none⟩ = some (.int .u8 0) ∧ V.cell? ⟨b6, 8, none⟩ = some (.int .i64 0) ∧ V.cell? ⟨b6, 9, none⟩ = some (.int .i64 0) ∧ V.cell? ⟨b6, 10, none⟩ = some (.int .i64 0) ∧ V.cell? ⟨b6, 11, none⟩ = some (.int .i64 0) ∧ V.cell? ⟨b6, 12, none⟩ = some (.int .i64 0)) := Lib.hid fun V h1 h2 => ⟨⟨(World.cell?_of_block h1).trans (HK5.out.cell 0), (World.cell?_of_block h1).trans (HK5.out.cell 1), (World.cell?_of_block h1).trans (HK5.out.cell 2), (World.cell?_of_block h1).trans (HK5.out.cell 3), (World.cell?_of_block h1).trans (HK5.out.cell 4), (World.cell?_of_block h1).trans (HK5.out.cell 5), (World.cell?_of_block h1).trans (HK5.out.cell 6), (World.cell?_of_block h1).trans (HK5.out.cell 7), (World.cell?_of_block h1).trans (HK5.out.cell 8), (World.cell?_of_block h1).trans (HK5.out.cell 9), (World.cell?_of_block h1).trans (HK5.out.cell 10), (World.cell?_of_block h1).trans (HK5.out.cell 11), (World.cell?_of_block h1).trans (HK5.out.cell 12)⟩, (World.cell?_of_block h2).trans (HZ5.out.cell 0), (World.cell?_of_block h2).trans (HZ5.out.cell 1), (World.cell?_of_block h2).trans (HZ5.out.cell 2), (World.cell?_of_block h2).trans (HZ5.out.cell 3), (World.cell?_of_block h2).trans (HZ5.out.cell 4), (World.cell?_of_block h2).trans (HZ5.out.cell 5), (World.cell?_of_block h2).trans (HZ5.out.cell 6), (World.cell?_of_block h2).trans (HZ5.out.cell 7), (World.cell?_of_block h2).trans (HZ5.out.cell 8), (World.cell?_of_block h2).trans (HZ5.out.cell 9), (World.cell?_of_block h2).trans (HZ5.out.cell 10), (World.cell?_of_block h2).trans (HZ5.out.cell 11), (World.cell?_of_block h2).trans (HZ5.out.cell 12)⟩
  have hl4 : b4 < w5.heap.size := HK5.out.lt
  have hl6 : b6 < w5.heap.size := HZ5.out.lt
  have hs5 : w.heap.size ≤ w5.heap.size := by have h1 := HBX.out.size; have h2 := HB5.out.size; omega
  have HBW5 : Hid (Below w.heap.size w w5) := Lib.hid (HBX.out.trans (HB5.out.mono HBX.out.size))
  clear hb4 hb6
  go_cut [65] (fun s65 wx => s65 = .bool false ∧ Below w5.heap.size w5 wx)
  case first =>
    have hns := HNS.out
    have hnz := HNZ.out
    have e4 : w5.heap[b4]? = w5.heap[b4]? := rfl
    have e6 : w5.heap[b6]? = w5.heap[b6]? := rfl
    go_region_held3 (fun w' => (w'.cell? ⟨b4, 0, none⟩ = some (.int .u8 1) ∧ w'.cell? ⟨b4, 1, none⟩ = some (.int .u8 2) ∧ w'.cell? ⟨b4, 2, none⟩ = some (.int .u8 3) ∧ w'.cell? ⟨b4, 3, none⟩ = some (.int .u8 4) ∧ w'.cell? ⟨b4, 4, none⟩ = some (.int .u8 5) ∧ w'.cell? ⟨b4, 5, none⟩ = some (.int .u8 6) ∧ w'.cell? ⟨b4, 6, none⟩ = some (.int .u8 7) ∧ w'.cell? ⟨b4, 7, none⟩ = some (.int .u8 8) ∧ w'.cell? ⟨b4, 8, none⟩ = some (.int .i64 2) ∧ w'.cell? ⟨b4, 9, none⟩ = some (.int .i64 1) ∧ w'.cell? ⟨b4, 10, none⟩ = some (.int .i64 4) ∧ w'.cell? ⟨b4, 11, none⟩ = some (.int .i64 2) ∧ w'.cell? ⟨b4, 12, none⟩ = some (.int .i64 258)) ∧ w'.cell? ⟨b6, 0, none⟩ = some (.int .u8 0) ∧ w'.cell? ⟨b6, 1, none⟩ = some (.int .u8 0) ∧ w'.cell? ⟨b6, 2, none⟩ = some (.int .u8 0) ∧ w'.cell? ⟨b6, 3, none⟩ = some (.int .u8 0) ∧ w'.cell? ⟨b6, 4, none⟩ = some (.int .u8 0) ∧ w'.cell? ⟨b6, 5, none⟩ = some (.int .u8 0) ∧ w'.cell? ⟨b6, 6, none⟩ = some (.int .u8 0) ∧ w'.cell? ⟨b6, 7, none⟩ = some (.int .u8 0) ∧ w'.cell? ⟨b6, 8, none⟩ = some (.int .i64 0) ∧ w'.cell? ⟨b6, 9, none⟩ = some (.int .i64 0) ∧ w'.cell? ⟨b6, 10, none⟩ = some (.int .i64 0) ∧ w'.cell? ⟨b6, 11, none⟩ = some (.int .i64 0) ∧ w'.cell? ⟨b6, 12, none⟩ = some (.int .i64 0)) (first | exact HSC.out _ (by first | with_reducible assumption | exact rfl) (by first | with_reducible assumption | exact rfl) | go_keep)
      (first
        | (go_at_call 31; refine (HSA.out _).mono ?_; rintro e v1 ⟨rfl, hb⟩; have e4' : v1.heap[b4]? = w5.heap[b4]? := hb.block b4 hl4; have e6' : v1.heap[b6]? = w5.heap[b6]? := hb.block b6 hl6; have HV1 : Hid (Below w5.heap.size w5 v1) := Lib.hid (Below.trans (below_drew1 (Below.refl _ w5)) hb); clear hb))
    all_goals
      go_wp2_with fail
      go_meet
      exact ⟨rfl, HV1.out⟩
  case rest =>
    obtain ⟨rfl, hbc⟩ := hcut
    have HDC := Lib.hid (HD5.out.below hbc)
    have HBC : Hid (Below w.heap.size w wc) := Lib.hid (HBW5.out.trans (hbc.mono hs5))
    have hsc := hbc.size
    have HR0 : Hid (∀ V, Below wc.heap.size wc V → Calls Tryz.prog 13 #[.iface 31 (.pointer (some ⟨p, 0, none⟩))] V fun e w' => e = .returned (.tuple #[.agg #[.int .u8 0, .int .u8 0, .int .u8 0, .int .u8 0, .int .u8 0, .int .u8 0, .int .u8 0, .int .u8 0, .int .i64 0, .int .i64 0, .int .i64 0, .int .i64 0, .int .i64 0], .int .i64 110]) ∧ Below V.heap.size V w') := Lib.hid fun V hV => lread_any p kS0 _ [] 110 V (HDC.out.below hV) k_small.1 k_reads.1 (by decide)
    have HW0 : Hid (∀ V, Below wc.heap.size wc V → Calls Tryz.prog 17 #[.iface 31 (.pointer (some ⟨p, 0, none⟩)), .agg #[.int .u8 1, .int .u8 2, .int .u8 3, .int .u8 4, .int .u8 5, .int .u8 6, .int .u8 7, .int .u8 8, .int .i64 2, .int .i64 1, .int .i64 4, .int .i64 2, .int .i64 258]] V fun e w' => e = .returned (.int .i64 0) ∧ Dr w' p kS4.syncDir (grow (fun k => w.heap.size ≤ k ∧ k < w5.heap.size) V w') ∧ Touch (fun k => w.heap.size ≤ k ∧ k < w5.heap.size) V w') := Lib.hid fun V hV => lwrite_any p kS0 kS1 kS2 kS3 kS4 _ sampleL sample_wf sample_may V (HDC.out.below hV) (fun k hk => by have h1 := hV.size; have := hk.2; omega) k_small.1 k_small.2.1 k_small.2.2.1 k_small.2.2.2.1 k_steps.1 k_steps.2.1 k_steps.2.2.1 k_steps.2.2.2
    have hnz := HNZ.out
    clear hbc
    go_wp2_with (first
      | (go_at_call 13; have _t := tok2; clear tok2; refine (HR0.out _ (by first | exact Below.refl _ _ | exact below_drew1 (Below.refl _ _))).mono ?_; rintro e w6 ⟨rfl, hb6⟩; have HB6 : Hid (Below wc.heap.size wc w6) := Lib.hid hb6; clear hb6)
      | (go_at_call 31; refine (HSA.out _).mono ?_; rintro e w7 ⟨rfl, hb7⟩; have HB7 : Hid (Below wc.heap.size wc w7) := Lib.hid ((HB6.out.alloc HB6.out.size _).trans (hb7.mono (by rw [alloc_size]; have := HB6.out.size; omega))); clear hb7)
      | (go_at_call 17; refine (HW0.out w7 HB7.out).mono ?_; rintro e w8 ⟨rfl, hd8, ht8⟩; have HD8 := Lib.hid hd8; have HT8 := Lib.hid ht8; clear hd8 ht8)
      | (go_at_call 13; have HR8 : Hid (Calls Tryz.prog 13 #[.iface 31 (.pointer (some ⟨p, 0, none⟩))] w8 fun e w' => e = .returned (.tuple #[.agg #[.int .u8 1, .int .u8 2, .int .u8 3, .int .u8 4, .int .u8 5, .int .u8 6, .int .u8 7, .int .u8 8, .int .i64 2, .int .i64 1, .int .i64 4, .int .i64 2, .int .i64 258], .int .i64 0]) ∧ Below w8.heap.size w8 w') := Lib.hid (by have h := lread_any p kS4.syncDir _ sampleL.bytes 0 w8 HD8.out k_small.2.2.2.2 k_reads.2 (by rw [Lab.bytes_length _ rfl]; decide); rw [if_pos rfl, if_pos rfl, sample_parse] at h; exact h); refine HR8.out.mono ?_; rintro e w9 ⟨rfl, hb9⟩; have HB9 := Lib.hid hb9; clear hb9))
    have hs7 := HB7.out.size
    have hs8 := HT8.out.size
    have hs9 := HB9.out.size
    have HB97 : Hid (Below w.heap.size w w9) := Lib.hid (((HBC.out.trans (HB7.out.mono HBC.out.size)).trans (HT8.out.below (by have := HBC.out.size; omega) fun k hk => hk.1)).trans (HB9.out.mono (by have := HBC.out.size; omega)))
    refine wp_world fun X9 hX9 => ?_
    have HK9 : Hid (Blk X9 w9.heap.size 27 #[.int .u8 1, .int .u8 2, .int .u8 3, .int .u8 4, .int .u8 5, .int .u8 6, .int .u8 7, .int .u8 8, .int .i64 2, .int .i64 1, .int .i64 4, .int .i64 2, .int .i64 258]) := Lib.hid (by rw [hX9]; exact Blk.new _ _ _)
    have HBF : Hid (Below w.heap.size w X9) := Lib.hid (by rw [hX9]; exact HB97.out.alloc HB97.out.size _)
    obtain ⟨b9, hb9⟩ : ∃ b, b = w9.heap.size := ⟨_, rfl⟩
    rw [← hb9] at HK9 ⊢
    have HSD : Hid (∀ V : World, V.heap[b9]? = X9.heap[b9]? → V.cell? ⟨b9, 0, none⟩ = some (.int .u8 1) ∧ V.cell? ⟨b9, 1, none⟩ = some (.int .u8 2) ∧ V.cell? ⟨b9, 2, none⟩ = some (.int .u8 3) ∧ V.cell? ⟨b9, 3, none⟩ = some (.int .u8 4) ∧ V.cell? ⟨b9, 4, none⟩ = some (.int .u8 5) ∧ V.cell? ⟨b9, 5, none⟩ = some (.int .u8 6) ∧ V.cell? ⟨b9, 6, none⟩ = some (.int .u8 7) ∧ V.cell? ⟨b9, 7, none⟩ = some (.int .u8 8) ∧ V.cell? ⟨b9, 8, none⟩ = some (.int .i64 2) ∧ V.cell? ⟨b9, 9, none⟩ = some (.int .i64 1) ∧ V.cell? ⟨b9, 10, none⟩ = some (.int .i64 4) ∧ V.cell? ⟨b9, 11, none⟩ = some (.int .i64 2) ∧ V.cell? ⟨b9, 12, none⟩ = some (.int .i64 258)) := Lib.hid fun V h1 => ⟨(World.cell?_of_block h1).trans (HK9.out.cell 0), (World.cell?_of_block h1).trans (HK9.out.cell 1), (World.cell?_of_block h1).trans (HK9.out.cell 2), (World.cell?_of_block h1).trans (HK9.out.cell 3), (World.cell?_of_block h1).trans (HK9.out.cell 4), (World.cell?_of_block h1).trans (HK9.out.cell 5), (World.cell?_of_block h1).trans (HK9.out.cell 6), (World.cell?_of_block h1).trans (HK9.out.cell 7), (World.cell?_of_block h1).trans (HK9.out.cell 8), (World.cell?_of_block h1).trans (HK9.out.cell 9), (World.cell?_of_block h1).trans (HK9.out.cell 10), (World.cell?_of_block h1).trans (HK9.out.cell 11), (World.cell?_of_block h1).trans (HK9.out.cell 12)⟩
    have hl9 : b9 < X9.heap.size := HK9.out.lt
    have hes := HES.out
    have e9 : X9.heap[b9]? = X9.heap[b9]? := rfl
    have hsx : w.heap.size ≤ X9.heap.size := HBF.out.size
    clear hX9 hb9
    go_region_held3 (fun w' => w'.cell? ⟨b9, 0, none⟩ = some (.int .u8 1) ∧ w'.cell? ⟨b9, 1, none⟩ = some (.int .u8 2) ∧ w'.cell? ⟨b9, 2, none⟩ = some (.int .u8 3) ∧ w'.cell? ⟨b9, 3, none⟩ = some (.int .u8 4) ∧ w'.cell? ⟨b9, 4, none⟩ = some (.int .u8 5) ∧ w'.cell? ⟨b9, 5, none⟩ = some (.int .u8 6) ∧ w'.cell? ⟨b9, 6, none⟩ = some (.int .u8 7) ∧ w'.cell? ⟨b9, 7, none⟩ = some (.int .u8 8) ∧ w'.cell? ⟨b9, 8, none⟩ = some (.int .i64 2) ∧ w'.cell? ⟨b9, 9, none⟩ = some (.int .i64 1) ∧ w'.cell? ⟨b9, 10, none⟩ = some (.int .i64 4) ∧ w'.cell? ⟨b9, 11, none⟩ = some (.int .i64 2) ∧ w'.cell? ⟨b9, 12, none⟩ = some (.int .i64 258)) (first | exact HSD.out _ (by first | with_reducible assumption | exact rfl) | go_keep)
      (first
        | (go_at_call 31; refine (HSA.out _).mono ?_; rintro e v9 ⟨rfl, hb⟩; have e9' : v9.heap[b9]? = X9.heap[b9]? := hb.block b9 hl9; have HV9 : Hid (Below w.heap.size w v9) := Lib.hid (HBF.out.trans ((Below.trans (below_drew1 (Below.refl _ X9)) hb).mono hsx)); clear hb))
    all_goals
      go_wp2
      go_ret
      exact ⟨rfl, HV9.out⟩
end Go.Proofs.YtdiaihpilniikaaGreat
namespace Go.Proofs.YtdiaihpilniikaaGreat
open Go.RowKit Go.Maps

set_option maxRecDepth 100000 in
set_option maxHeartbeats 8000000 in
theorem fit_any (l : Lab) (hl : l.Wf) (w : World) : Calls Tryz.prog 23 #[labV l] w fun e w' => e = .returned (.bool (decide (l.may = 0))) ∧ Below w.heap.size w w' := by
  obtain ⟨a0, a1, a2, a3, a4, a5, a6, a7, hst⟩ := lab_eight hl.st
  have hk := hl.k
  have hm := hl.m
  obtain ⟨st, k, m, b, i, e⟩ := l
  simp only at hst hk hm
  subst hst
  clear hl
  have HF : Hid (Lab.may ⟨[a0, a1, a2, a3, a4, a5, a6, a7], k, m, b, i, e⟩ = 0 → 1 ≤ m ∧ m ≤ k ∧ k + m ≤ 255 ∧ 1 ≤ b ∧ b ≤ 65536 ∧ 0 ≤ i ∧ i < k + m ∧ 0 ≤ e ∧ e ≤ 4294967295) := Lib.hid (may_fits (l := ⟨[a0, a1, a2, a3, a4, a5, a6, a7], k, m, b, i, e⟩))
  have HT : Hid ((1 ≤ m ∧ m ≤ k ∧ k + m ≤ 255 ∧ 1 ≤ b ∧ b ≤ 65536 ∧ 0 ≤ i ∧ i < k + m ∧ 0 ≤ e ∧ e ≤ 4294967295) → Lab.may ⟨[a0, a1, a2, a3, a4, a5, a6, a7], k, m, b, i, e⟩ = 0) := Lib.hid (may_of (l := ⟨[a0, a1, a2, a3, a4, a5, a6, a7], k, m, b, i, e⟩))
  obtain ⟨d, hd⟩ : ∃ d, d = decide (Lab.may ⟨[a0, a1, a2, a3, a4, a5, a6, a7], k, m, b, i, e⟩ = 0) := ⟨_, rfl⟩
  rw [← hd]
  have HD := Lib.hid hd
  clear hd
  unfold labV labCells
  simp only [List.map_cons, List.map_nil, List.cons_append, List.nil_append]
  unfold B8
  by_cases h0 : 1 ≤ m
  · by_cases h1 : m ≤ k
    · by_cases h2 : k ≤ 254
      · by_cases h3 : k + m ≤ 255
        · by_cases h4 : 1 ≤ b
          · by_cases h5 : b ≤ 65536
            · by_cases h6 : 0 ≤ i
              · by_cases h7 : i < k + m
                · by_cases h8 : 0 ≤ e
                  · by_cases h9 : e ≤ 4294967295
                    · have hdv : d = true := by rw [HD.out]; exact decide_eq_true (HT.out (by omega))
                      subst hdv
                      have hv : wrap64 (k + m) = k + m := IntWalk.wrap64_in _ (by omega)
                      clear hk hm HD HF HT
                      go_enter Tryz.func23, Tryz.ntmps23
                      go_wp2
                      go_ret
                      exact ⟨rfl, ((Below.refl _ w).alloc (Nat.le_refl _) _).alloc (by simp) _⟩
                    · have hdv : d = false := by rw [HD.out]; exact decide_eq_false fun h => by have := HF.out h; omega
                      subst hdv
                      have hv : wrap64 (k + m) = k + m := IntWalk.wrap64_in _ (by omega)
                      clear hk hm HD HF HT
                      go_enter Tryz.func23, Tryz.ntmps23
                      go_wp2
                      go_ret
                      exact ⟨rfl, ((Below.refl _ w).alloc (Nat.le_refl _) _).alloc (by simp) _⟩
                  · have hdv : d = false := by rw [HD.out]; exact decide_eq_false fun h => by have := HF.out h; omega
                    subst hdv
                    have hv : wrap64 (k + m) = k + m := IntWalk.wrap64_in _ (by omega)
                    clear hk hm HD HF HT
                    go_enter Tryz.func23, Tryz.ntmps23
                    go_wp2
                    go_ret
                    exact ⟨rfl, ((Below.refl _ w).alloc (Nat.le_refl _) _).alloc (by simp) _⟩
                · have hdv : d = false := by rw [HD.out]; exact decide_eq_false fun h => by have := HF.out h; omega
                  subst hdv
                  have hv : wrap64 (k + m) = k + m := IntWalk.wrap64_in _ (by omega)
                  clear hk hm HD HF HT
                  go_enter Tryz.func23, Tryz.ntmps23
                  go_wp2
                  go_ret
                  exact ⟨rfl, ((Below.refl _ w).alloc (Nat.le_refl _) _).alloc (by simp) _⟩
              · have hdv : d = false := by rw [HD.out]; exact decide_eq_false fun h => by have := HF.out h; omega
                subst hdv
                have hv : wrap64 (k + m) = k + m := IntWalk.wrap64_in _ (by omega)
                clear hk hm HD HF HT
                go_enter Tryz.func23, Tryz.ntmps23
                go_wp2
                go_ret
                exact ⟨rfl, ((Below.refl _ w).alloc (Nat.le_refl _) _).alloc (by simp) _⟩
            · have hdv : d = false := by rw [HD.out]; exact decide_eq_false fun h => by have := HF.out h; omega
              subst hdv
              have hv : wrap64 (k + m) = k + m := IntWalk.wrap64_in _ (by omega)
              clear hk hm HD HF HT
              go_enter Tryz.func23, Tryz.ntmps23
              go_wp2
              go_ret
              exact ⟨rfl, ((Below.refl _ w).alloc (Nat.le_refl _) _).alloc (by simp) _⟩
          · have hdv : d = false := by rw [HD.out]; exact decide_eq_false fun h => by have := HF.out h; omega
            subst hdv
            have hv : wrap64 (k + m) = k + m := IntWalk.wrap64_in _ (by omega)
            clear hk hm HD HF HT
            go_enter Tryz.func23, Tryz.ntmps23
            go_wp2
            go_ret
            exact ⟨rfl, ((Below.refl _ w).alloc (Nat.le_refl _) _).alloc (by simp) _⟩
        · have hdv : d = false := by rw [HD.out]; exact decide_eq_false fun h => by have := HF.out h; omega
          subst hdv
          have hv : wrap64 (k + m) = k + m := IntWalk.wrap64_in _ (by omega)
          clear hk hm HD HF HT
          go_enter Tryz.func23, Tryz.ntmps23
          go_wp2
          go_ret
          exact ⟨rfl, ((Below.refl _ w).alloc (Nat.le_refl _) _).alloc (by simp) _⟩
      · have hdv : d = false := by rw [HD.out]; exact decide_eq_false fun h => by have := HF.out h; omega
        subst hdv
        clear hk hm HD HF HT
        go_enter Tryz.func23, Tryz.ntmps23
        go_wp2
        go_ret
        exact ⟨rfl, ((Below.refl _ w).alloc (Nat.le_refl _) _).alloc (by simp) _⟩
    · have hdv : d = false := by rw [HD.out]; exact decide_eq_false fun h => by have := HF.out h; omega
      subst hdv
      clear hk hm HD HF HT
      go_enter Tryz.func23, Tryz.ntmps23
      go_wp2
      go_ret
      exact ⟨rfl, ((Below.refl _ w).alloc (Nat.le_refl _) _).alloc (by simp) _⟩
  · have hdv : d = false := by rw [HD.out]; exact decide_eq_false fun h => by have := HF.out h; omega
    subst hdv
    clear hk hm HD HF HT
    go_enter Tryz.func23, Tryz.ntmps23
    go_wp2
    go_ret
    exact ⟨rfl, ((Below.refl _ w).alloc (Nat.le_refl _) _).alloc (by simp) _⟩

theorem twin_any (A : Option Addr) (n c : Nat) (bs : List UInt8) (w : World) (B : Nat) (hr : Reads w B 1 A n (bs.map B8)) (hn : n ≤ 140737488351232) :
    Calls Tryz.prog 28 #[.slice A n c] w fun e w' => ∃ v, e = .returned v ∧ w'.ownsRow w.heap.size 5 1 v n (bs.map B8) ∧ Below w.heap.size w w' := by
  have HRD := Lib.hid hr
  have HB8 : Hid (∀ u ∈ bs.map B8, u.oneCell' = true) := by intro u hu; simp only [List.mem_map] at hu; obtain ⟨b, _, rfl⟩ := hu; rfl
  have hm63 : 0 + n ≤ maxLen := by simp only [maxLen]; omega
  have HM63 := Lib.hid hm63
  have hm40 : (0 + n) * 1 ≤ 140737488355328 := by omega
  have HM40 := Lib.hid hm40
  clear hr hm63 hm40
  obtain ⟨i5, hi5, hz0, hz1, hz2⟩ := info_parts byteInfo
  go_enter Tryz.func28, Tryz.ntmps28
  go_wp2_with (at_builtin; go_loud (refine wpList_append_any _ rfl _ _ 22 rfl w.heap.size 5 i5 _ 1 1 Tryz.underlying22 hi5 hz0 hz1 hz2 rfl (by omega) (.slice none 0 0) 0 [] rfl (World.ownsRow_nil _ _ _ _) B A n c (bs.map B8) rfl HRD.out HB8.out HM63.out HM40.out (Nat.le_refl _) ?_); intro v1 w1 hown1 hg1 hat1; have HOWN := Lib.hid hown1; have HG1 := Lib.hid hg1; clear hown1 hg1 hat1)
  go_ret
  refine ⟨v1, rfl, ?_, (Below.refl _ _).grown HG1.out (Nat.le_refl _) (fun k hk => by simp [Value.ownBlock] at hk)⟩
  have := HOWN.out
  rwa [Nat.zero_add, List.nil_append] at this
end Go.Proofs.YtdiaihpilniikaaGreat
