/- WoundFuse: the walk. -/
import Derived.Test.YtdmcjomcbhdcbaaFp
import Derived.Deep.RegionHeld3
import Derived.IntWalk
namespace Go.Proofs.Ytdmcjomcbhdcbaa
open Go.RowKit Go.Maps

def jobCells (n : Int) (aA : Option Addr) (nA cA : Nat) (aC : Option Addr) (nC cC : Nat) (call ins : Int) (pr : Option Addr) (nd cr : Nat) (pc : Option Addr) (nc cc : Nat) : Array Value :=
  #[.int .i64 n, .slice aA nA cA, .slice aC nC cC, .int .i64 call, .int .i64 ins, .slice pr nd cr, .slice pc nc cc]

theorem script_cells {W : World} {b off k : Nat} {x : PStep} {L : SLay} (h : W.rangeAt b (off + k * 11) (stepCells x L).toList) : W.cell? ⟨b, off + k * 11, none⟩ = some (.int .i64 x.kind) ∧ W.cell? ⟨b, off + k * 11 + 1, none⟩ = some (.string x.name) ∧ W.cell? ⟨b, off + k * 11 + 2, none⟩ = some (.string x.to) ∧ W.cell? ⟨b, off + k * 11 + 3, none⟩ = some (.slice L.pd x.data.length L.cd) ∧ W.cell? ⟨b, off + k * 11 + 4, none⟩ = some (.int .i64 x.a) ∧ W.cell? ⟨b, off + k * 11 + 5, none⟩ = some (.int .i64 x.b) ∧ W.cell? ⟨b, off + k * 11 + 6, none⟩ = some (.int .i64 x.c) ∧ W.cell? ⟨b, off + k * 11 + 7, none⟩ = some (.bool x.yes) ∧ W.cell? ⟨b, off + k * 11 + 8, none⟩ = some (.slice L.pp x.plan.length L.cp) ∧ W.cell? ⟨b, off + k * 11 + 9, none⟩ = some (.slice L.pr x.dirs.length L.cr) ∧ W.cell? ⟨b, off + k * 11 + 10, none⟩ = some (.slice L.pc x.cuts.length L.cc) :=
  ⟨h 0 _ rfl, h 1 _ rfl, h 2 _ rfl, h 3 _ rfl, h 4 _ rfl, h 5 _ rfl, h 6 _ rfl, h 7 _ rfl, h 8 _ rfl, h 9 _ rfl, h 10 _ rfl⟩

theorem said_cells {W : World} {g : Nat} {E N : Int} {d m f : Value} {Y : Bool} (h : Blk W g 41 #[.int .i64 E, d, m, f, .int .i64 N, .bool Y]) :
    W.cell? ⟨g, 0, none⟩ = some (.int .i64 E) ∧ W.cell? ⟨g, 1, none⟩ = some d ∧ W.cell? ⟨g, 2, none⟩ = some m ∧ W.cell? ⟨g, 3, none⟩ = some f ∧ W.cell? ⟨g, 4, none⟩ = some (.int .i64 N) ∧ W.cell? ⟨g, 5, none⟩ = some (.bool Y) :=
  ⟨h.cell 0, h.cell 1, h.cell 2, h.cell 3, h.cell 4, h.cell 5⟩

/-- What stands at the head of a round behind the fuse. -/
structure FuseAt (w : World) (h q p p2 : Nat) (c ins : Int) (j N : Nat) : Prop where
  ex : ∃ X S, Pair w h q p X S p2 S ∧ X.Fused c ins j (N + j) ∧ S.Inv (N + j) ∧ S.room ≤ 400

set_option maxRecDepth 100000 in
set_option maxHeartbeats 8000000 in
theorem woundFuse_walk (n : Int) (aA : Option Addr) (nA cA : Nat) (xs : List PStep) (aC : Option Addr) (nC cC : Nat) (ys : List PStep) (call ins : Int) (pr : Option Addr) (nd cr : Nat) (dirs : List Bool) (pc : Option Addr) (nc cc : Nat) (cuts : List Int) (w : World)
    (hx : ScriptAt w w.heap.size aA nA xs) (hlA : nA * 168 ≤ 140737488351232) (hy : ScriptAt w w.heap.size aC nC ys) (hlC : nC * 168 ≤ 140737488351232)
    (hr : Reads w w.heap.size 1 pr nd (dirs.map boolV)) (hc : Reads w w.heap.size 1 pc nc (cuts.map intV)) (hnd : nd ≤ 140737488351232) (hnc : nc * 8 ≤ 140737488351232) :
    Calls Try.prog 7 #[.agg (jobCells n aA nA cA aC nC cC call ins pr nd cr pc nc cc)] w fun e w' => e = .returned (.bool true) ∧ Below w.heap.size w w' := by
  obtain ⟨W0, hW0⟩ : ∃ W, W = w.alloc (.cells (jobCells n aA nA cA aC nC cC call ins pr nd cr pc nc cc) 76) := ⟨_, rfl⟩
  have hB0 : Below w.heap.size w W0 := by rw [hW0]; exact (Below.refl _ _).alloc (Nat.le_refl _) _
  have hs0 : W0.heap.size = w.heap.size + 1 := by rw [hW0, alloc_size]
  have HJ : Hid (Blk W0 w.heap.size 76 (jobCells n aA nA cA aC nC cC call ins pr nd cr pc nc cc)) := Lib.hid (by rw [hW0]; exact Blk.new _ _ _)
  have HB0 := Lib.hid hB0
  have hsl : w.heap.size < W0.heap.size := by omega
  have HX := Lib.hid (hx.below hB0)
  have HY := Lib.hid (hy.below hB0)
  have HR := Lib.hid (hr.below hB0)
  have HC := Lib.hid (hc.below hB0)
  unfold jobCells at hW0
  have HW0 := Lib.hid hW0
  clear hx hy hr hc hB0 hs0 hW0
  have hr := roomI_bd n
  obtain ⟨r, hrr⟩ : ∃ r, r = roomI n := ⟨_, rfl⟩
  rw [← hrr] at hr
  have HRR := Lib.hid hrr
  clear hrr
  unfold jobCells
  go_enter Try.func7, Try.ntmps7
  go_wp2_with fail
  rw [← HW0.out]
  refine (room_any n W0).mono ?_
  rintro e w' ⟨rfl, rfl⟩
  rw [← HRR.out]
  go_wp2_with fail
  refine (newb_any r _ (by omega) (by omega)).mono ?_
  rintro e w1 ⟨p, rfl, hd1, hb1⟩
  have j0 : w1.cell? ⟨w.heap.size, 0, none⟩ = some (.int .i64 n) := (hb1.cell HJ.out.lt).trans (HJ.out.cell 0)
  have HD1 := Lib.hid hd1
  have HB1 := Lib.hid hb1
  clear hd1 hb1
  go_wp2_with fail
  refine (room_any n w1).mono ?_
  rintro e w' ⟨rfl, rfl⟩
  rw [← HRR.out]
  go_wp2_with fail
  refine (newb_any r _ (by omega) (by omega)).mono ?_
  rintro e w2 ⟨p2, rfl, hd2, hb2⟩
  have HD2 := Lib.hid hd2
  have HB12 := Lib.hid hb2
  clear hd2 hb2 j0
  go_wp2_with fail
  refine (wnew_any p w2).mono ?_
  rintro e w3 ⟨rfl, hw3, hb3, hs3⟩
  have HP3 : Hid (Pair w3 W0.heap.size w2.heap.size p Wnd.new (Drv.new r.toNat) p2 (Drv.new r.toNat)) := Lib.hid (by
    have h1 := HB1.out.size
    have h2 := HB12.out.size
    refine ⟨fun k => k = w2.heap.size ∨ (W0.heap.size ≤ k ∧ k < w1.heap.size), fun k => w1.heap.size ≤ k ∧ k < w2.heap.size, ⟨(· = w2.heap.size), fun k => W0.heap.size ≤ k ∧ k < w1.heap.size, ⟨hw3, Dr.below (Dr.below HD1.out HB12.out) hb3, fun k hk => by omega, fun k hk => by omega, fun k hk hd => by omega⟩, fun k hk => hk⟩, Dr.below HD2.out hb3, fun k hk => by omega, fun k hk => by omega, fun k hk hd => by omega⟩)
  have HB3 : Hid (Below W0.heap.size W0 w3) := Lib.hid (HB1.out.trans ((HB12.out.mono HB1.out.size).trans (hb3.mono (Nat.le_trans HB1.out.size HB12.out.size))))
  clear hw3 hb3 hs3
  go_wp2_with fail
  refine (known_any w3).mono ?_
  rintro e w4 ⟨rfl, hb4⟩
  have HP4 := Lib.hid (HP3.out.below hb4)
  have HB4 : Hid (Below W0.heap.size W0 w4) := Lib.hid (HB3.out.trans (hb4.mono HB3.out.size))
  clear hb4
  obtain ⟨q, hq⟩ : ∃ q, q = w2.heap.size := ⟨_, rfl⟩
  rw [← hq] at HP4 ⊢
  have HI : Hid (PlainAt w4 W0.heap.size q p p2 0) := Lib.hid ⟨_, _, HP4.out, ⟨rfl, rfl, rfl, rfl⟩, rfl, ⟨Int.le_refl _, Int.le_refl _⟩, Drv.new_inv _ _ (by omega) (by omega), by show r.toNat ≤ 400; omega⟩
  clear hq
  go_wp2
  go_loopw [6] (fun s wr => ∃ k : Nat, k ≤ nA ∧ s = .int .i64 k ∧ PlainAt wr W0.heap.size q p p2 k ∧ Below W0.heap.size W0 wr) (fun s _ => nA - (intOf s).toNat)
  case atStart => exact ⟨0, Nat.zero_le _, rfl, HI.out, HB4.out⟩
  case round =>
    obtain ⟨k, hk, rfl, ⟨X, S, hp, hX, hXc, hXr, hSi, hSr⟩, hbr⟩ := hrel
    have HP := Lib.hid hp
    have HXS := Lib.hid hX
    have HXC := Lib.hid hXc
    have HXR := Lib.hid hXr
    have HSI := Lib.hid hSi
    have HSR := Lib.hid hSr
    have HBR := Lib.hid hbr
    have hszr := hbr.size
    have j1 : wr.cell? ⟨w.heap.size, 1, none⟩ = some (.slice aA nA cA) := (hbr.cell hsl).trans (HJ.out.cell 1)
    clear hp hX hXc hXr hSi hSr hbr
    by_cases hlt : k < nA
    · obtain ⟨x, hxk⟩ : ∃ x, xs[k]? = some x := ⟨_, List.getElem?_eq_getElem (by rw [HX.out.len]; exact hlt)⟩
      obtain ⟨b, off, L, rfl, hbl, hra0, hsa, hfi⟩ := HX.out.get k x hxk
      have HSA := Lib.hid hsa
      have HFC : Hid x.call.Fits := Lib.hid hfi.call
      have HXK : Hid (1 ≤ x.call.kind ∧ x.call.kind ≤ 8) := Lib.hid (stepKind_bd x.kind)
      obtain ⟨xc, hxc⟩ : ∃ xc, xc = x.call := ⟨_, rfl⟩
      have HSS : Hid (∀ W : World, Below W0.heap.size W0 W → W.cell? ⟨w.heap.size, 1, none⟩ = some (.slice (some ⟨b, off, none⟩) nA cA) ∧ W.cell? ⟨b, off + k * 11, none⟩ = some (.int .i64 x.kind) ∧ W.cell? ⟨b, off + k * 11 + 1, none⟩ = some (.string x.name) ∧ W.cell? ⟨b, off + k * 11 + 2, none⟩ = some (.string x.to) ∧ W.cell? ⟨b, off + k * 11 + 3, none⟩ = some (.slice L.pd x.data.length L.cd) ∧ W.cell? ⟨b, off + k * 11 + 4, none⟩ = some (.int .i64 x.a) ∧ W.cell? ⟨b, off + k * 11 + 5, none⟩ = some (.int .i64 x.b) ∧ W.cell? ⟨b, off + k * 11 + 6, none⟩ = some (.int .i64 x.c) ∧ W.cell? ⟨b, off + k * 11 + 7, none⟩ = some (.bool x.yes) ∧ W.cell? ⟨b, off + k * 11 + 8, none⟩ = some (.slice L.pp x.plan.length L.cp) ∧ W.cell? ⟨b, off + k * 11 + 9, none⟩ = some (.slice L.pr x.dirs.length L.cr) ∧ W.cell? ⟨b, off + k * 11 + 10, none⟩ = some (.slice L.pc x.cuts.length L.cc)) := Lib.hid fun W hW =>
        ⟨(hW.cell hsl).trans (HJ.out.cell 1), script_cells (rangeAt_far hra0 (hW.block b (by omega)))⟩
      have HSC : Hid (∀ W : World, Below W0.heap.size W0 W → StepAt W w.heap.size L xc) := Lib.hid fun W hW => by
        have h1 := HSA.out.far fun k hk => hW.block k (by omega)
        rw [hxc]
        exact { data := h1.data, plan := h1.plan, dirs := h1.dirs, cuts := h1.cuts, cd := h1.cd, cp := h1.cp, cr := h1.cr, cc := h1.cc }
      rw [← hxc] at HFC HXK
      have HXC2 := Lib.hid hxc
      clear hxc hra0 hsa hfi hxk
      have hkn : k ≤ 2199023254000 := by omega
      have HSM := Lib.hid (HSI.out.small hkn)
      have HOK : Hid X.Ok := Lib.hid ⟨⟨by rw [HXC.out]; omega, by rw [HXC.out]; omega⟩, ⟨HXR.out.1, by have := HXR.out.2; omega⟩, by rw [HXS.out.plan]; decide, fun f hf => by rw [HXS.out.fuse] at hf; cases hf⟩
      obtain ⟨F1, F2, htw⟩ := HP.out.named
      have HTW := Lib.hid htw
      clear htw
      obtain ⟨T, hT⟩ : ∃ T, T = (plain8 S xc).1 := ⟨_, rfl⟩
      obtain ⟨sd, hsd⟩ : ∃ sd, sd = (plain8 S xc).2 := ⟨_, rfl⟩
      have HH : Hid (hurt8 X S xc = (X.count, T, sd)) := Lib.hid (by rw [HXS.out.hurt8 S xc HXK.out, hT, hsd])
      have HPL : Hid (plain8 S xc = (T, sd)) := Lib.hid (by rw [hT, hsd])
      have HNM : Hid (sd.names.length ≤ 2199023254000 ∧ sd.files.length ≤ 2199023254000) := Lib.hid (by rw [hsd]; exact plain8_names S xc HSM.out)
      have HTI : Hid (T.Inv (k + 1) ∧ T.room ≤ 400) := Lib.hid (by
        have hr4 := HSR.out
        have hm := Nat.mul_le_mul (show k + 1 ≤ 2199023254001 by omega) hr4
        rw [hT]; exact ⟨plain8_inv HSI.out xc (by omega), by rw [plain8_room]; exact hr4⟩)
      have HYC : Hid (X.count.calls = (k : Int) + 1) := Lib.hid (by have := HXC.out; unfold Wnd.count; simp only; rw [this])
      clear hT hsd
      have hk0 : (0 : Int) ≤ (k : Int) := Int.natCast_nonneg _
      have hk1 : (k : Int) < (nA : Int) := by omega
      have kbr : Below W0.heap.size W0 wr := HBR.out
      have kbd : Below W0.heap.size W0 wr.drew := below_drewN HBR.out 1
      have tok1 : True := trivial
      go_wp2_with fail
      go_region_held3 (fun w' => w'.cell? ⟨w.heap.size, 1, none⟩ = some (.slice (some ⟨b, off, none⟩) nA cA) ∧ w'.cell? ⟨b, off + k * 11, none⟩ = some (.int .i64 x.kind) ∧ w'.cell? ⟨b, off + k * 11 + 1, none⟩ = some (.string x.name) ∧ w'.cell? ⟨b, off + k * 11 + 2, none⟩ = some (.string x.to) ∧ w'.cell? ⟨b, off + k * 11 + 3, none⟩ = some (.slice L.pd x.data.length L.cd) ∧ w'.cell? ⟨b, off + k * 11 + 4, none⟩ = some (.int .i64 x.a) ∧ w'.cell? ⟨b, off + k * 11 + 5, none⟩ = some (.int .i64 x.b) ∧ w'.cell? ⟨b, off + k * 11 + 6, none⟩ = some (.int .i64 x.c) ∧ w'.cell? ⟨b, off + k * 11 + 7, none⟩ = some (.bool x.yes) ∧ w'.cell? ⟨b, off + k * 11 + 8, none⟩ = some (.slice L.pp x.plan.length L.cp) ∧ w'.cell? ⟨b, off + k * 11 + 9, none⟩ = some (.slice L.pr x.dirs.length L.cr) ∧ w'.cell? ⟨b, off + k * 11 + 10, none⟩ = some (.slice L.pc x.cuts.length L.cc)) (first | exact HSS.out _ (by assumption) | go_keep)
        (first
          | (go_at_call 40; have _t := tok1; refine (call_any x L wr.drew).mono ?_; rintro e v1 ⟨rfl, hbv1⟩; rw [← HXC2.out]; have kb1 : Below W0.heap.size W0 v1 := kbd.trans (hbv1.mono kbd.size); have HT1 := Lib.hid ((HTW.out.below (below_drewN (Below.refl _ wr) 1)).below hbv1); clear hbv1 tok1)
          | (go_at_call 37; refine (hurt8_any q p X S F1 xc L v1 w.heap.size HXK.out HFC.out HT1.out.wd (fun j hj => (HT1.out.l1 j hj).2) HOK.out HSM.out (Nat.le_of_lt (Nat.lt_of_lt_of_le hsl kb1.size)) (HSC.out _ kb1)).mono ?_; rintro e v2 ⟨u1, rfl, hs2, hd2, ht2⟩; rw [HH.out] at hs2 hd2; simp only at hs2 hd2; have HS2 := Lib.hid hs2; have h2 := HT1.out.one kb1.size hd2 ht2; have HT2 := Lib.hid h2.1; have kb2 : Below W0.heap.size W0 v2 := kb1.trans h2.2; clear hs2 hd2 ht2 h2)
          | (go_at_call 40; refine (call_any x L v2).mono ?_; rintro e v3 ⟨rfl, hbv3⟩; rw [← HXC2.out]; have kb3 : Below W0.heap.size W0 v3 := kb2.trans (hbv3.mono kb2.size); have HT3 := Lib.hid (HT2.out.below hbv3); have HS3 := Lib.hid (HS2.out.below hbv3); clear hbv3)
          | (go_at_call 41; refine (plain8_any p2 S F2 xc L v3 w.heap.size HXK.out HFC.out HT3.out.dr (fun j hj => (HT3.out.l2 j hj).2) HSM.out (Nat.le_of_lt (Nat.lt_of_lt_of_le hsl kb3.size)) (HSC.out _ kb3)).mono ?_; rintro e v4 ⟨u2, rfl, hs4, hd4, ht4⟩; rw [HPL.out] at hs4 hd4; simp only at hs4 hd4; have HS34 := Lib.hid (HS3.out.touch ht4 (fun j hj => (HT1.out.l2 j hj).2)); have HS4 := Lib.hid hs4; have h4 := HT3.out.two kb3.size hd4 ht4; have HT4 := Lib.hid h4.1; have kb4 : Below W0.heap.size W0 v4 := kb3.trans h4.2; clear hs4 hd4 ht4 h4)
          | (go_at_call 20; refine (alike_any u1 u2 sd _ _ v4 HS34.out HS4.out HNM.out.1 HNM.out.2).mono ?_; rintro e v5 ⟨rfl, hb5⟩; have HT5 := Lib.hid (HT4.out.below hb5); have kb5 : Below W0.heap.size W0 v5 := kb4.trans (hb5.mono kb4.size); clear hb5))
      go_wp2
      go_roundw
      case rel => exact ⟨k + 1, by omega, by go_num, ⟨⟨_, _, HT5.out.pair, HXS.out.count, by rw [HYC.out]; omega, by have := HXR.out; unfold Wnd.count; simp only; omega, HTI.out.1, HTI.out.2⟩⟩, kb5⟩
      case measure => simp [intOf]; omega
    · have hkl : k = nA := by omega
      obtain ⟨wq, hwq⟩ : ∃ wq : World, wq = wr := ⟨_, rfl⟩
      rw [← hwq] at HP HBR j1 ⊢
      have HOK : Hid X.Ok := Lib.hid ⟨⟨by rw [HXC.out]; omega, by rw [HXC.out]; omega⟩, ⟨HXR.out.1, by have := HXR.out.2; omega⟩, by rw [HXS.out.plan]; decide, fun f hf => by rw [HXS.out.fuse] at hf; cases hf⟩
      have HXF : Hid (((X.rest false).setFuse 0 call ins).Fused call ins 0 (nA + 0)) := Lib.hid (Wnd.Fused.start HXS.out ⟨by rw [HXC.out]; omega, by rw [HXC.out]; omega⟩ call ins)
      have HSI2 : Hid (S.Inv (nA + 0)) := Lib.hid (by have := HSI.out; rw [hkl] at this; exact this)
      obtain ⟨F1, F2, htw⟩ := HP.out.named
      have HTW := Lib.hid htw
      clear htw hwq hkl
      go_wp2_with fail
      refine (wrest_any q p X S F1 false wq HTW.out.wd HOK.out).mono ?_
      rintro e w6 ⟨rfl, hd6, ht6⟩
      have h6 := HTW.out.one HBR.out.size hd6 ht6
      have HT6 := Lib.hid h6.1
      have HB6 : Hid (Below W0.heap.size W0 w6) := Lib.hid (HBR.out.trans h6.2)
      have j3 : w6.cell? ⟨w.heap.size, 3, none⟩ = some (.int .i64 call) := (HB6.out.cell hsl).trans (HJ.out.cell 3)
      have j4 : w6.cell? ⟨w.heap.size, 4, none⟩ = some (.int .i64 ins) := (HB6.out.cell hsl).trans (HJ.out.cell 4)
      clear hd6 ht6 h6 j1
      go_wp2_with fail
      refine (wfuse_any q p (X.rest false) S _ 0 call ins w6 HT6.out.wd).mono ?_
      rintro e w7 ⟨rfl, hd7, ht7⟩
      have h7 := HT6.out.one HB6.out.size hd7 ht7
      have HI7 : Hid (FuseAt w7 W0.heap.size q p p2 call ins 0 nA) := Lib.hid ⟨_, _, h7.1.pair, HXF.out, HSI2.out, HSR.out⟩
      have HB7 : Hid (Below W0.heap.size W0 w7) := Lib.hid (HB6.out.trans h7.2)
      clear hd7 ht7 h7 j3 j4
      go_wp2
      go_loopw [7] (fun s wr => ∃ k : Nat, k ≤ nC ∧ s = .int .i64 k ∧ FuseAt wr W0.heap.size q p p2 call ins k nA ∧ Below W0.heap.size W0 wr) (fun s _ => nC - (intOf s).toNat)
      case atStart => exact ⟨0, Nat.zero_le _, rfl, HI7.out, HB7.out⟩
      case round =>
        clear hk hlt hszr
        obtain ⟨k, hk, rfl, ⟨X, S, hp, hX, hSi, hSr⟩, hbr⟩ := hrel
        have HP := Lib.hid hp
        have HXF := Lib.hid hX
        have HSI := Lib.hid hSi
        have HSR := Lib.hid hSr
        have HBR := Lib.hid hbr
        have hszr := hbr.size
        have j2 : wr.cell? ⟨w.heap.size, 2, none⟩ = some (.slice aC nC cC) := (hbr.cell hsl).trans (HJ.out.cell 2)
        clear hp hX hSi hSr hbr
        by_cases hlt : k < nC
        · obtain ⟨x, hxk⟩ : ∃ x, ys[k]? = some x := ⟨_, List.getElem?_eq_getElem (by rw [HY.out.len]; exact hlt)⟩
          obtain ⟨b, off, L, rfl, hbl, hra0, hsa, hfi⟩ := HY.out.get k x hxk
          have HSA := Lib.hid hsa
          have HFC : Hid x.call.Fits := Lib.hid hfi.call
          have HXK : Hid (1 ≤ x.call.kind ∧ x.call.kind ≤ 8) := Lib.hid (stepKind_bd x.kind)
          obtain ⟨xc, hxc⟩ : ∃ xc, xc = x.call := ⟨_, rfl⟩
          have HSC : Hid (∀ W : World, Below W0.heap.size W0 W → StepAt W w.heap.size L xc) := Lib.hid fun W hW => by
            have h1 := HSA.out.far fun k hk => hW.block k (by omega)
            rw [hxc]
            exact { data := h1.data, plan := h1.plan, dirs := h1.dirs, cuts := h1.cuts, cd := h1.cd, cp := h1.cp, cr := h1.cr, cc := h1.cc }
          obtain ⟨y0, y1, y2, y3, y4, y5, y6, y7, y8, y9, y10⟩ := script_cells (rangeAt_far hra0 (HBR.out.block b (by omega)))
          rw [← hxc] at HFC HXK
          have HXC2 := Lib.hid hxc
          clear hxc hra0 hsa hfi hxk
          have hkn : nA + k ≤ 2199023254000 := by omega
          have HSM := Lib.hid (HSI.out.small hkn)
          have HOK := Lib.hid (HXF.out.ok (by omega) (by omega))
          obtain ⟨F1, F2, htw⟩ := HP.out.named
          have HTW := Lib.hid htw
          clear htw
          go_wp2_with fail
          refine (call_any x L wr).mono ?_
          rintro e v1 ⟨rfl, hbv⟩
          rw [← HXC2.out]
          have HCV : Hid (stepCells xc L = #[.int .i64 xc.kind, .string xc.name, .string xc.to, .slice L.pd xc.data.length L.cd, .int .i64 xc.a, .int .i64 xc.b, .int .i64 xc.c, .bool xc.yes, .slice L.pp xc.plan.length L.cp, .slice L.pr xc.dirs.length L.cr, .slice L.pc xc.cuts.length L.cc]) := Lib.hid rfl
          have HB1 : Hid (Below W0.heap.size W0 v1) := Lib.hid (HBR.out.trans (hbv.mono hszr))
          have HT1 := Lib.hid (HTW.out.below hbv)
          clear hbv y0 y1 y2 y3 y4 y5 y6 y7 y8 y9 y10 j2
          unfold stepCells
          go_wp2_with fail
          rw [← HCV.out]
          obtain ⟨W8, hW8⟩ : ∃ W8, W8 = v1.alloc (.cells (stepCells xc L) 69) := ⟨_, rfl⟩
          obtain ⟨g8, hg8⟩ : ∃ g8, g8 = v1.heap.size := ⟨_, rfl⟩
          rw [← hW8, ← hg8]
          have hb18 : Below v1.heap.size v1 W8 := by rw [hW8]; exact (Below.refl _ _).alloc (Nat.le_refl _) _
          have HB8 : Hid (Below W0.heap.size W0 W8) := Lib.hid (HB1.out.trans (hb18.mono HB1.out.size))
          have HT8 := Lib.hid (HT1.out.below hb18)
          have HG8 : Hid (Blk W8 g8 69 (stepCells xc L)) := Lib.hid (by rw [hW8, hg8]; exact Blk.new _ _ _)
          have HN1 : Hid (¬F1 g8) := Lib.hid fun h => by have := (HT1.out.l1 _ h).2; omega
          have HN2 : Hid (¬F2 g8) := Lib.hid fun h => by have := (HT1.out.l2 _ h).2; omega
          have hg8s : W0.heap.size ≤ g8 := by rw [hg8]; exact HB1.out.size
          clear hW8 hg8 hb18
          refine (hurt8_any q p X S F1 xc L W8 w.heap.size HXK.out HFC.out HT8.out.wd (fun i hi => (HT8.out.l1 i hi).2) HOK.out HSM.out (Nat.le_of_lt (Nat.lt_of_lt_of_le hsl HB8.out.size)) (HSC.out _ HB8.out)).mono ?_
          rintro e v2 ⟨u1, rfl, hs2, hd2, ht2⟩
          have hg2 : Blk v2 g8 69 (stepCells xc L) := (ht2.block _ HG8.out.lt HN1.out).trans HG8.out
          have h2 := HT8.out.one HB8.out.size hd2 ht2
          have HT2 := Lib.hid h2.1
          have HB2 : Hid (Below W0.heap.size W0 v2) := Lib.hid (HB8.out.trans h2.2)
          have HG2 := Lib.hid hg2
          obtain ⟨Y, hY⟩ : ∃ Y, Y = (hurt8 X S xc).1 := ⟨_, rfl⟩
          obtain ⟨T, hT⟩ : ∃ T, T = (hurt8 X S xc).2.1 := ⟨_, rfl⟩
          obtain ⟨sd, hsd⟩ : ∃ sd, sd = (hurt8 X S xc).2.2 := ⟨_, rfl⟩
          rw [← hY, ← hT] at HT2
          rw [← hsd] at hs2
          have HH : Hid (hurt8 X S xc = (Y, T, sd)) := Lib.hid (by rw [hY, hT, hsd])
          have hl2 : ∀ i, F2 i → i < W8.heap.size := fun i hi => (HT8.out.l2 i hi).2
          have HL2 := Lib.hid hl2
          have HS2 := Lib.hid hs2
          obtain ⟨dv, mv, fv, rfl, r1, r2, r3⟩ := hs2
          obtain ⟨da, dc, rfl, _⟩ := own_shape r1
          obtain ⟨ma, mc, rfl, _⟩ := own_shape r2
          obtain ⟨fa, fc, rfl, _⟩ := r3.shape
          obtain ⟨E, hE⟩ : ∃ E, E = sd.e := ⟨_, rfl⟩
          obtain ⟨NN, hNN⟩ : ∃ E, E = sd.n := ⟨_, rfl⟩
          obtain ⟨YY, hYY⟩ : ∃ E, E = sd.yes := ⟨_, rfl⟩
          obtain ⟨dn, hdn⟩ : ∃ E, E = sd.data.length := ⟨_, rfl⟩
          obtain ⟨mn, hmn⟩ : ∃ E, E = sd.names.length := ⟨_, rfl⟩
          obtain ⟨fn, hfn⟩ : ∃ E, E = sd.files.length := ⟨_, rfl⟩
          rw [← hE, ← hNN, ← hYY, ← hdn, ← hmn, ← hfn] at HS2 ⊢
          have j3 : v2.cell? ⟨w.heap.size, 3, none⟩ = some (.int .i64 call) := (HB2.out.cell hsl).trans (HJ.out.cell 3)
          have j4 : v2.cell? ⟨w.heap.size, 4, none⟩ = some (.int .i64 ins) := (HB2.out.cell hsl).trans (HJ.out.cell 4)
          have hjl2 : w.heap.size < v2.heap.size := Nat.lt_of_lt_of_le hsl HB2.out.size
          have hgl2 : g8 < v2.heap.size := HG2.out.lt
          obtain ⟨g9, hg9⟩ : ∃ g9, g9 = v2.heap.size := ⟨_, rfl⟩
          obtain ⟨V, hV⟩ : ∃ V, V = v2.alloc (.cells #[.int .i64 E, .slice da dn dc, .slice ma mn mc, .slice fa fn fc, .int .i64 NN, .bool YY] 41) := ⟨_, rfl⟩
          have hb2V : Below v2.heap.size v2 V := by rw [hV]; exact (Below.refl _ _).alloc (Nat.le_refl _) _
          have HBV : Hid (Below W0.heap.size W0 V) := Lib.hid (HB2.out.trans (hb2V.mono HB2.out.size))
          have HTV := Lib.hid (HT2.out.below hb2V)
          have HSV := Lib.hid (HS2.out.below hb2V)
          have HG8V := Lib.hid (HG2.out.below hb2V HG2.out.lt)
          have HG9V : Hid (Blk V g9 41 #[.int .i64 E, .slice da dn dc, .slice ma mn mc, .slice fa fn fc, .int .i64 NN, .bool YY]) := Lib.hid (by rw [hV, hg9]; exact Blk.new _ _ _)
          have HM2 : Hid (¬F2 g9) := Lib.hid fun h => by have h1 := HL2.out _ h; have h3 := ht2.size; omega
          have hs2V := hb2V.size
          have hs82 := ht2.size
          have hg9V : g9 < V.heap.size := HG9V.out.lt
          have HVV := Lib.hid hV
          have HG9 := Lib.hid hg9
          clear hg2 hd2 ht2 h2 hY hT hsd hl2 r1 r2 r3 hE hNN hYY hdn hmn hfn hg9 hV hb2V
          rcases (show (call < 0 ∨ (k : Int) < call) ∨ call = k ∨ (0 ≤ call ∧ call < k) by omega) with hA | hB | hC
          case' inl =>
            have hgo := HXF.out.goes hA
            have hh2 := hurt8_goes hgo.1 S xc HXK.out
            rw [HH.out] at hh2
            have hYe : Y = X.count := congrArg (·.1) hh2
            have hTe : T = (plain8 S xc).1 := congrArg (·.2.1) hh2
            have hse : sd = (plain8 S xc).2 := congrArg (·.2.2) hh2
            have HPL : Hid (plain8 S xc = (T, sd)) := Lib.hid (by rw [hTe, hse])
            have HNM : Hid (sd.names.length ≤ 2199023254000 ∧ sd.files.length ≤ 2199023254000) := Lib.hid (by rw [hse]; exact plain8_names S xc HSM.out)
            have HYD : Hid ((!Y.down) = true) := Lib.hid (by rw [hYe]; show (!X.down) = true; rw [hgo.2.2]; rfl)
            have HYF : Hid (Y.Fused call ins (k + 1) (nA + (k + 1))) := Lib.hid (by rw [hYe]; exact hgo.2.1)
            have HTI : Hid (T.Inv (nA + (k + 1)) ∧ T.room ≤ 400) := Lib.hid (by
              have hr4 := HSR.out
              have hm := Nat.mul_le_mul (show nA + k + 1 ≤ 2199023254001 by omega) hr4
              rw [hTe]; exact ⟨plain8_inv HSI.out xc (by omega), by rw [plain8_room]; exact hr4⟩)
            clear hgo hh2 hYe hTe hse
            rcases hA with hA | hA
            all_goals
              go_wp2_with fail
              rw [← HVV.out, ← HG9.out]
              have k8 : Blk V g8 69 (stepCells xc L) := HG8V.out
              have k9 : Blk V g9 41 #[.int .i64 E, .slice da dn dc, .slice ma mn mc, .slice fa fn fc, .int .i64 NN, .bool YY] := HG9V.out
              have k8' : Blk V.drew g8 69 (stepCells xc L) := HG8V.out
              have k9' : Blk V.drew g9 41 #[.int .i64 E, .slice da dn dc, .slice ma mn mc, .slice fa fn fc, .int .i64 NN, .bool YY] := HG9V.out
              have hbd : Below V.heap.size V V.drew := below_drewN (Below.refl _ _) 1
              have HTD := Lib.hid (HTV.out.below hbd)
              have HSD := Lib.hid (HSV.out.below hbd)
              have HBD : Hid (Below W0.heap.size W0 V.drew) := Lib.hid (HBV.out.trans (hbd.mono HBV.out.size))
              clear hbd
              go_region_held3 (fun w' => (w'.cell? ⟨g8, 0, none⟩ = some (.int .i64 xc.kind) ∧ w'.cell? ⟨g8, 1, none⟩ = some (.string xc.name) ∧ w'.cell? ⟨g8, 2, none⟩ = some (.string xc.to) ∧ w'.cell? ⟨g8, 3, none⟩ = some (.slice L.pd xc.data.length L.cd) ∧ w'.cell? ⟨g8, 4, none⟩ = some (.int .i64 xc.a) ∧ w'.cell? ⟨g8, 5, none⟩ = some (.int .i64 xc.b) ∧ w'.cell? ⟨g8, 6, none⟩ = some (.int .i64 xc.c) ∧ w'.cell? ⟨g8, 7, none⟩ = some (.bool xc.yes) ∧ w'.cell? ⟨g8, 8, none⟩ = some (.slice L.pp xc.plan.length L.cp) ∧ w'.cell? ⟨g8, 9, none⟩ = some (.slice L.pr xc.dirs.length L.cr) ∧ w'.cell? ⟨g8, 10, none⟩ = some (.slice L.pc xc.cuts.length L.cc)) ∧ w'.cell? ⟨g9, 0, none⟩ = some (.int .i64 E) ∧ w'.cell? ⟨g9, 1, none⟩ = some (.slice da dn dc) ∧ w'.cell? ⟨g9, 2, none⟩ = some (.slice ma mn mc) ∧ w'.cell? ⟨g9, 3, none⟩ = some (.slice fa fn fc) ∧ w'.cell? ⟨g9, 4, none⟩ = some (.int .i64 NN) ∧ w'.cell? ⟨g9, 5, none⟩ = some (.bool YY)) (first | exact ⟨step_cells (by assumption), said_cells (by assumption)⟩ | go_keep)
                (first
                  | (go_at_call 29; refine (on_any q _ _ _ V.drew HTD.out.wd.wn).mono ?_; rintro e w' ⟨rfl, rfl⟩; rw [HYD.out])
                  | (go_at_call 41; rw [← HCV.out]; refine (plain8_any p2 S F2 xc L V.drew w.heap.size HXK.out HFC.out HTD.out.dr (fun i hi => (HTD.out.l2 i hi).2) HSM.out (Nat.le_of_lt (Nat.lt_of_lt_of_le hsl HBD.out.size)) (HSC.out _ HBD.out)).mono ?_; rintro e v4 ⟨u2, rfl, hs4, hd4, ht4⟩; rw [HPL.out] at hs4 hd4; simp only at hs4 hd4; have HS34 := Lib.hid (HSD.out.touch ht4 HL2.out); have HS4 := Lib.hid hs4; have h4 := HTD.out.two HBD.out.size hd4 ht4; have HT4 := Lib.hid h4.1; have HB4 : Hid (Below W0.heap.size W0 v4) := Lib.hid (HBD.out.trans h4.2); have k84 : Blk v4 g8 69 (stepCells xc L) := (ht4.block _ HG8V.out.lt HN2.out).trans HG8V.out; have k94 : Blk v4 g9 41 #[.int .i64 E, .slice da dn dc, .slice ma mn mc, .slice fa fn fc, .int .i64 NN, .bool YY] := (ht4.block _ HG9V.out.lt HM2.out).trans HG9V.out; clear hs4 hd4 ht4 h4)
                  | (go_at_call 20; refine (alike_any _ u2 sd _ _ v4 HS34.out HS4.out HNM.out.1 HNM.out.2).mono ?_; rintro e v5 ⟨rfl, hb5⟩; have HT5 := Lib.hid (HT4.out.below hb5); have HB5 : Hid (Below W0.heap.size W0 v5) := Lib.hid (HB4.out.trans (hb5.mono HB4.out.size)); have k85 := k84.below hb5 k84.lt; have k95 := k94.below hb5 k94.lt; clear hb5))
              go_wp2
              go_roundw
              case rel => exact ⟨k + 1, by omega, by go_num, ⟨⟨_, _, HT5.out.pair, HYF.out, HTI.out.1, HTI.out.2⟩⟩, HB5.out⟩
              case measure => simp [intOf]; omega
          case' inr.inl =>
            have hit := HXF.out.hit hB
            have hh2 := hurt8_refused hit.1 S xc HXK.out
            rw [HH.out] at hh2
            have hYe : Y = X.cutDown := congrArg (·.1) hh2
            have hTe : T = (if xc.kind = 2 ∧ 0 < max 0 ins ∧ xc.data ≠ [] then (S.append xc.nm (xc.data.take (max 0 ins).toNat)).1 else S) := congrArg (·.2.1) hh2
            have hse : sd = .code 122 := congrArg (·.2.2) hh2
            have HYD : Hid ((!Y.down) = false) := Lib.hid (by rw [hYe]; rfl)
            have HYF : Hid (Y.Fused call ins (k + 1) (nA + (k + 1))) := Lib.hid (by rw [hYe]; exact hit.2)
            rw [hse] at HSV
            have HTI : Hid (T.Inv (nA + (k + 1)) ∧ T.room ≤ 400) := Lib.hid (by
              have hr4 := HSR.out
              have hm := Nat.mul_le_mul (show nA + k + 1 ≤ 2199023254001 by omega) hr4
              rw [hTe]
              split
              · exact ⟨Drv.append_inv HSI.out _ _ (by omega), by have : ∀ s bs, (S.append s bs).1.room = S.room := fun s bs => by unfold Drv.append Drv.setBody; repeat' (first | rfl | split)
                                                                 rw [this]; exact hr4⟩
              · exact ⟨HSI.out.mono (by omega) (by rw [show nA + (k + 1) = nA + k + 1 by omega]; omega), hr4⟩)
            obtain ⟨nn, hnn⟩ : ∃ nn : Nat, nn = (min (max 0 ins) (xc.data.length : Int)).toNat := ⟨_, rfl⟩
            have hmin : min (max 0 ins) (xc.data.length : Int) = (nn : Int) := by omega
            have hnl : nn ≤ xc.data.length := by omega
            have HTK : Hid (xc.data.take nn = xc.data.take (max 0 ins).toNat) := Lib.hid (by
              rcases Nat.le_total xc.data.length (max 0 ins).toNat with h | h
              · rw [List.take_of_length_le (by omega), List.take_of_length_le h]
              · have : nn = (max 0 ins).toNat := by omega
                rw [this])
            have hdne : 0 < nn → 0 < max 0 ins ∧ xc.data ≠ [] := fun h => ⟨by omega, fun e => by rw [e] at hnl; simp at hnl; omega⟩
            have hdz : nn = 0 → ¬(0 < max 0 ins ∧ xc.data ≠ []) := fun h e => by have := List.length_pos_iff.2 e.2; omega
            by_cases hk2 : xc.kind = 2 ∧ 0 < nn
          case' inr.inr =>
            have hoff := HXF.out.off hC.1 hC.2
            have hh2 := hurt8_refused hoff.1 S xc HXK.out
            rw [HH.out] at hh2
            have hYe : Y = X := congrArg (·.1) hh2
            have hTe : T = S := (congrArg (·.2.1) hh2).trans (if_neg (fun e => by have := e.2.1; omega))
            have hse : sd = .code 122 := congrArg (·.2.2) hh2
            have HYD : Hid ((!Y.down) = false) := Lib.hid (by rw [hYe, hoff.2.2]; rfl)
            have HYF : Hid (Y.Fused call ins (k + 1) (nA + (k + 1))) := Lib.hid (by rw [hYe]; exact hoff.2.1)
            rw [hse] at HSV
            have HTI : Hid (T.Inv (nA + (k + 1)) ∧ T.room ≤ 400) := Lib.hid (by
              have hr4 := HSR.out
              have hm := Nat.mul_le_mul (show nA + k + 1 ≤ 2199023254001 by omega) hr4
              rw [hTe]
              exact ⟨HSI.out.mono (by omega) (by rw [show nA + (k + 1) = nA + k + 1 by omega]; omega), hr4⟩)
            have HTT : Hid (Two V W0.heap.size q p Y T p2 T (grow F1 W8 v2) F2) := Lib.hid (by rw [hTe]; have := HTV.out; rw [hTe] at this; exact this)
            have hce : ((k : Int) == call) = false := by simp; omega
            obtain ⟨c0, c1, c2, c3, c4, c5⟩ := said_cells HG9V.out
            obtain ⟨d0, d1, d2, d3, _⟩ := step_cells HG2.out
            clear hoff hh2 hYe hTe hse
            go_wp2_with fail
            rw [← HVV.out, ← HG9.out]
            have hbD : Below V.heap.size V (V.alloc (.cells #[.int .i64 122, .slice none 0 0, .slice none 0 0, .slice none 0 0, .int .i64 0, .bool false] 41)) := (Below.refl _ _).alloc (Nat.le_refl _) _
            obtain ⟨VD, hVD⟩ : ∃ VD, VD = V.alloc (.cells #[.int .i64 122, .slice none 0 0, .slice none 0 0, .slice none 0 0, .int .i64 0, .bool false] 41) := ⟨_, rfl⟩
            rw [← hVD] at hbD ⊢
            have HTD := Lib.hid (HTT.out.below hbD)
            have HSD := Lib.hid (HSV.out.below hbD)
            have HBD : Hid (Below W0.heap.size W0 VD) := Lib.hid (HBV.out.trans (hbD.mono HBV.out.size))
            have kd9 := HG9V.out.below hbD HG9V.out.lt
            have hVg : V.heap.size = g9 + 1 := by rw [HVV.out, HG9.out, alloc_size]
            have kdD : Blk VD (g9 + 1) 41 #[.int .i64 122, .slice none 0 0, .slice none 0 0, .slice none 0 0, .int .i64 0, .bool false] := by rw [hVD, ← hVg]; exact Blk.new _ _ _
            clear hVg
            obtain ⟨e0, e1, e2, e3, e4, e5⟩ := said_cells kdD
            obtain ⟨f0, f1, f2, f3, f4, f5⟩ := said_cells kd9
            clear hbD hVD kd9 kdD
            refine (on_any q _ _ _ _ HTD.out.wd.wn).mono ?_
            rintro e w' ⟨rfl, rfl⟩
            rw [HYD.out]
            go_wp2_with fail
            refine (alike_any _ _ (Said.code 122) _ _ _ HSD.out (Said.code_at _ 0 122) (Nat.zero_le _) (Nat.zero_le _)).mono ?_
            rintro e v5 ⟨rfl, hb5⟩
            have HT5 := Lib.hid (HTD.out.below hb5)
            have HB5 : Hid (Below W0.heap.size W0 v5) := Lib.hid (HBD.out.trans (hb5.mono HBD.out.size))
            clear hb5
            go_wp2
            go_roundw
            case rel => exact ⟨k + 1, by omega, by go_num, ⟨⟨_, _, HT5.out.pair, HYF.out, HTI.out.1, HTI.out.2⟩⟩, HB5.out⟩
            case measure => simp [intOf]; omega
          case' pos =>
            have hTS : T = (S.append xc.nm (xc.data.take nn)).1 := by rw [HTK.out]; exact hTe.trans (if_pos ⟨hk2.1, hdne hk2.2⟩)
            have HTS := Lib.hid hTS
            have hce : ((k : Int) == call) = true := by rw [hB]; simp
            have hb1 : ¬call < 0 := by omega
            have hb2 : ¬(k : Int) < call := by omega
            clear hB
            obtain ⟨d0, d1, d2, d3, _⟩ := step_cells HG2.out
            obtain ⟨hk3, hk4⟩ := hk2
            have hk5 : (xc.kind == 2) = true := by rw [hk3]; rfl
            have hcd : xc.data.length ≤ L.cd := (HSC.out _ HBV.out).cd
            have hn0 : (0 : Int) ≤ (nn : Int) := Int.natCast_nonneg _
            have hn1 : (nn : Int) ≤ (L.cd : Int) := by omega
            have HK3 := Lib.hid hk3
            have HRT : Hid (Reads V w.heap.size 1 L.pd nn ((xc.data.take nn).map B8)) := Lib.hid (by
              have := (HSC.out _ HBV.out).data.cutTo hnl
              rwa [← List.map_take] at this)
            have HTL : Hid ((xc.data.take nn).length = nn) := Lib.hid (by rw [List.length_take]; omega)
            have HFD := Lib.hid HFC.out.data
            clear hit hh2 hYe hTe hse hnn hdne hdz hTS hk3
            go_wp2_with fail
            rw [← HVV.out, ← HG9.out]
            have k8 : Blk V g8 69 (stepCells xc L) := HG8V.out
            have k8' : Blk V.drew g8 69 (stepCells xc L) := HG8V.out
            have hbd : Below V.heap.size V V.drew := below_drewN (Below.refl _ _) 1
            have HTD := Lib.hid (HTV.out.below hbd)
            have HSD := Lib.hid (HSV.out.below hbd)
            have HBD : Hid (Below W0.heap.size W0 V.drew) := Lib.hid (HBV.out.trans (hbd.mono HBV.out.size))
            have HG9D : Hid (Blk V.drew g9 41 #[.int .i64 E, .slice da dn dc, .slice ma mn mc, .slice fa fn fc, .int .i64 NN, .bool YY]) := Lib.hid HG9V.out
            clear hbd d0 d1 d2 d3
            go_region_held3 (fun w' => w'.cell? ⟨g8, 0, none⟩ = some (.int .i64 xc.kind) ∧ w'.cell? ⟨g8, 1, none⟩ = some (.string xc.name) ∧ w'.cell? ⟨g8, 2, none⟩ = some (.string xc.to) ∧ w'.cell? ⟨g8, 3, none⟩ = some (.slice L.pd xc.data.length L.cd) ∧ w'.cell? ⟨g8, 4, none⟩ = some (.int .i64 xc.a) ∧ w'.cell? ⟨g8, 5, none⟩ = some (.int .i64 xc.b) ∧ w'.cell? ⟨g8, 6, none⟩ = some (.int .i64 xc.c) ∧ w'.cell? ⟨g8, 7, none⟩ = some (.bool xc.yes) ∧ w'.cell? ⟨g8, 8, none⟩ = some (.slice L.pp xc.plan.length L.cp) ∧ w'.cell? ⟨g8, 9, none⟩ = some (.slice L.pr xc.dirs.length L.cr) ∧ w'.cell? ⟨g8, 10, none⟩ = some (.slice L.pc xc.cuts.length L.cc)) (first | exact step_cells (by assumption) | go_keep)
              (first
                | (go_at_call 18; refine (twin_any L.pd nn L.cd (xc.data.take nn) V.drew w.heap.size HRT.out.drew (by have := HFD.out; omega)).mono ?_; rintro e z1 ⟨v, rfl, ho, hb⟩; obtain ⟨a1, c1, rfl, _⟩ := own_shape ho; have HO1 : Hid (z1.ownsRow V.drew.heap.size 5 1 (.slice a1 nn c1) nn ((xc.data.take nn).map B8)) := Lib.hid ho; have HT1z := Lib.hid (HTD.out.below hb); have HS1z := Lib.hid (HSD.out.below hb); have HB1z : Hid (Below W0.heap.size W0 z1) := Lib.hid (HBD.out.trans (hb.mono HBD.out.size)); have k81 : Blk z1 g8 69 (stepCells xc L) := k8'.below hb k8'.lt; have HG91 : Hid (Blk z1 g9 41 #[.int .i64 E, .slice da dn dc, .slice ma mn mc, .slice fa fn fc, .int .i64 NN, .bool YY]) := Lib.hid (HG9D.out.below hb HG9D.out.lt); clear ho hb)
                | (go_at_call 42; have HAP := Lib.hid (append_any p2 S F2 xc.name z1 HFC.out.name HT1z.out.dr HSM.out a1 c1 (xc.data.take nn) (by rw [HTL.out]; exact Reads.of_own HO1.out) (by rw [HTL.out]; have := HFD.out; omega)); rw [HTL.out] at HAP; refine HAP.out.mono ?_; rintro e z2 ⟨rfl, hd2, ht2⟩; rw [← HTS.out] at hd2; have h2 := HT1z.out.two HB1z.out.size hd2 ht2; have HTZ := Lib.hid h2.1; have HSZ := Lib.hid (HS1z.out.touch ht2 HL2.out); have HBZ : Hid (Below W0.heap.size W0 z2) := Lib.hid (HB1z.out.trans h2.2); have k82 : Blk z2 g8 69 (stepCells xc L) := (ht2.block _ k81.lt HN2.out).trans k81; have HG92 : Hid (Blk z2 g9 41 #[.int .i64 E, .slice da dn dc, .slice ma mn mc, .slice fa fn fc, .int .i64 NN, .bool YY]) := Lib.hid ((ht2.block _ HG91.out.lt HM2.out).trans HG91.out); clear hd2 ht2 h2))
            obtain ⟨c0, c1', c2, c3, c4, c5⟩ := said_cells HG92.out
            have hg9z : g9 < z2.heap.size := HG92.out.lt
            go_wp2_with fail
            have hbD : Below z2.heap.size z2 (z2.alloc (.cells #[.int .i64 122, .slice none 0 0, .slice none 0 0, .slice none 0 0, .int .i64 0, .bool false] 41)) := (Below.refl _ _).alloc (Nat.le_refl _) _
            obtain ⟨VD, hVD⟩ : ∃ VD, VD = z2.alloc (.cells #[.int .i64 122, .slice none 0 0, .slice none 0 0, .slice none 0 0, .int .i64 0, .bool false] 41) := ⟨_, rfl⟩
            rw [← hVD] at hbD ⊢
            have HTD := Lib.hid (HTZ.out.below hbD)
            have HSD := Lib.hid (HSZ.out.below hbD)
            have HBD : Hid (Below W0.heap.size W0 VD) := Lib.hid (HBZ.out.trans (hbD.mono HBZ.out.size))
            have kd9 := HG92.out.below hbD HG92.out.lt
            have kdD : Blk VD z2.heap.size 41 #[.int .i64 122, .slice none 0 0, .slice none 0 0, .slice none 0 0, .int .i64 0, .bool false] := by rw [hVD]; exact Blk.new _ _ _
            obtain ⟨e0, e1, e2, e3, e4, e5⟩ := said_cells kdD
            obtain ⟨f0, f1, f2, f3, f4, f5⟩ := said_cells kd9
            clear hbD hVD kd9 kdD
            refine (on_any q _ _ _ _ HTD.out.wd.wn).mono ?_
            rintro e w' ⟨rfl, rfl⟩
            rw [HYD.out]
            go_wp2_with fail
            refine (alike_any _ _ (Said.code 122) _ _ _ HSD.out (Said.code_at _ 0 122) (Nat.zero_le _) (Nat.zero_le _)).mono ?_
            rintro e v5 ⟨rfl, hb5⟩
            have HT5 := Lib.hid (HTD.out.below hb5)
            have HB5 : Hid (Below W0.heap.size W0 v5) := Lib.hid (HBD.out.trans (hb5.mono HBD.out.size))
            clear hb5
            go_wp2
            go_roundw
            case rel => exact ⟨k + 1, by omega, by go_num, ⟨⟨_, _, HT5.out.pair, HYF.out, HTI.out.1, HTI.out.2⟩⟩, HB5.out⟩
            case measure => simp [intOf]; omega
          case' neg =>
            have hTS : T = S := hTe.trans (if_neg (fun e => hk2 ⟨e.1, by
              rcases Nat.eq_zero_or_pos nn with h | h
              · exact absurd e.2 (hdz h)
              · exact h⟩))
            have HTT : Hid (Two V W0.heap.size q p Y T p2 T (grow F1 W8 v2) F2) := Lib.hid (by rw [hTS]; have := HTV.out; rw [hTS] at this; exact this)
            have hce : ((k : Int) == call) = true := by rw [hB]; simp
            have hb1 : ¬call < 0 := by omega
            have hb2 : ¬(k : Int) < call := by omega
            clear hB
            obtain ⟨c0, c1, c2, c3, c4, c5⟩ := said_cells HG9V.out
            obtain ⟨d0, d1, d2, d3, _⟩ := step_cells HG2.out
            have hk3 : xc.kind ≠ 2 ∨ (xc.kind = 2 ∧ nn = 0) := by
              rcases Nat.eq_zero_or_pos nn with h | h
              · by_cases h5 : xc.kind = 2
                · exact .inr ⟨h5, h⟩
                · exact .inl h5
              · exact .inl fun e => hk2 ⟨e, h⟩
            clear hit hh2 hYe hTe hse hnn hnl hdne hdz hTS hk2
            rcases hk3 with hk3 | ⟨hk3, hk4⟩
            all_goals
              go_wp2_with fail
              rw [← HVV.out, ← HG9.out]
              have hbD : Below V.heap.size V (V.alloc (.cells #[.int .i64 122, .slice none 0 0, .slice none 0 0, .slice none 0 0, .int .i64 0, .bool false] 41)) := (Below.refl _ _).alloc (Nat.le_refl _) _
              obtain ⟨VD, hVD⟩ : ∃ VD, VD = V.alloc (.cells #[.int .i64 122, .slice none 0 0, .slice none 0 0, .slice none 0 0, .int .i64 0, .bool false] 41) := ⟨_, rfl⟩
              rw [← hVD] at hbD ⊢
              have HTD := Lib.hid (HTT.out.below hbD)
              have HSD := Lib.hid (HSV.out.below hbD)
              have HBD : Hid (Below W0.heap.size W0 VD) := Lib.hid (HBV.out.trans (hbD.mono HBV.out.size))
              have kd9 := HG9V.out.below hbD HG9V.out.lt
              have hVg : V.heap.size = g9 + 1 := by rw [HVV.out, HG9.out, alloc_size]
              have kdD : Blk VD (g9 + 1) 41 #[.int .i64 122, .slice none 0 0, .slice none 0 0, .slice none 0 0, .int .i64 0, .bool false] := by rw [hVD, ← hVg]; exact Blk.new _ _ _
              clear hVg
              obtain ⟨e0, e1, e2, e3, e4, e5⟩ := said_cells kdD
              obtain ⟨f0, f1, f2, f3, f4, f5⟩ := said_cells kd9
              clear hbD hVD kd9 kdD
              refine (on_any q _ _ _ _ HTD.out.wd.wn).mono ?_
              rintro e w' ⟨rfl, rfl⟩
              rw [HYD.out]
              go_wp2_with fail
              refine (alike_any _ _ (Said.code 122) _ _ _ HSD.out (Said.code_at _ 0 122) (Nat.zero_le _) (Nat.zero_le _)).mono ?_
              rintro e v5 ⟨rfl, hb5⟩
              have HT5 := Lib.hid (HTD.out.below hb5)
              have HB5 : Hid (Below W0.heap.size W0 v5) := Lib.hid (HBD.out.trans (hb5.mono HBD.out.size))
              clear hb5
              go_wp2
              go_roundw
              case rel => exact ⟨k + 1, by omega, by go_num, ⟨⟨_, _, HT5.out.pair, HYF.out, HTI.out.1, HTI.out.2⟩⟩, HB5.out⟩
              case measure => simp [intOf]; omega
        · have hkl : k = nC := by omega
          have hkn : nA + k ≤ 2199023254000 := by omega
          obtain ⟨F1, F2, htw⟩ := HP.out.named
          have HTW := Lib.hid htw
          have HOK := Lib.hid (HXF.out.ok (by omega) (by omega))
          have HRE := Lib.hid HXF.out.rested
          have HGD := Lib.hid (HSI.out.good hkn)
          have HLT := Lib.hid HXF.out.lit
          have HIC := Lib.hid (Drv.crash_inv HSI.out dirs cuts)
          have HGC := Lib.hid (HIC.out.good hkn)
          have HCL := Lib.hid HXF.out.calls
          obtain ⟨wz, hwz⟩ : ∃ wz : World, wz = wr := ⟨_, rfl⟩
          rw [← hwz] at HTW HBR j2 ⊢
          clear htw hkl hwz
          go_wp2_with fail
          refine (wlit_any q p _ _ _ wz HTW.out.wd).mono ?_
          rintro e w' ⟨rfl, rfl⟩
          rw [HLT.out]
          go_wp2_with fail
          refine (level_any p p2 S _ _ wz HTW.out.wd.dr HTW.out.dr HGD.out).mono ?_
          rintro e z1 ⟨rfl, hb1⟩
          have HT1 := Lib.hid (HTW.out.below hb1)
          have HB1 : Hid (Below W0.heap.size W0 z1) := Lib.hid (HBR.out.trans (hb1.mono HBR.out.size))
          clear hb1 j2
          go_wp2_with fail
          refine (wrest_any q p X S F1 true z1 HT1.out.wd HOK.out).mono ?_
          rintro e z2 ⟨rfl, hd2, ht2⟩
          have h2 := HT1.out.one HB1.out.size hd2 ht2
          have HT2 := Lib.hid h2.1
          have HB2 : Hid (Below W0.heap.size W0 z2) := Lib.hid (HB1.out.trans h2.2)
          clear hd2 ht2 h2
          obtain ⟨G1, hG1⟩ : ∃ G1, G1 = grow F1 z1 z2 := ⟨_, rfl⟩
          rw [← hG1] at HT2
          clear hG1
          have hbd : Below z2.heap.size z2 z2.drew := below_drewN (Below.refl _ _) 1
          have HTD := Lib.hid (HT2.out.below hbd)
          have HBD : Hid (Below W0.heap.size W0 z2.drew) := Lib.hid (HB2.out.trans (hbd.mono HB2.out.size))
          have HJK : Hid (∀ W : World, Below W0.heap.size W0 W → W.cell? ⟨w.heap.size, 5, none⟩ = some (.slice pr nd cr) ∧ W.cell? ⟨w.heap.size, 6, none⟩ = some (.slice pc nc cc)) := Lib.hid fun W hW => ⟨(hW.cell hsl).trans (HJ.out.cell 5), (hW.cell hsl).trans (HJ.out.cell 6)⟩
          have HRK : Hid (∀ W : World, Below W0.heap.size W0 W → Reads W w.heap.size 1 pr nd (dirs.map boolV) ∧ Reads W w.heap.size 1 pc nc (cuts.map intV)) := Lib.hid fun W hW => ⟨HR.out.far fun i hi => hW.block i (by omega), HC.out.far fun i hi => hW.block i (by omega)⟩
          have hnc2 : nc ≤ 140737488351232 := by omega
          have kb2 : Below W0.heap.size W0 z2 := HB2.out
          have kbd : Below W0.heap.size W0 z2.drew := HBD.out
          have kq2 : z2.cell? ⟨q, 0, none⟩ = some (.pointer (some ⟨p, 0, none⟩)) := head_cell HT2.out.wd.wn
          have kqd : z2.drew.cell? ⟨q, 0, none⟩ = some (.pointer (some ⟨p, 0, none⟩)) := head_cell HTD.out.wd.wn
          have tok1 : True := trivial
          have tok2 : True := trivial
          clear hbd
          go_wp2_with fail
          go_region_held3 (fun w' => w'.cell? ⟨q, 0, none⟩ = some (.pointer (some ⟨p, 0, none⟩)) ∧ w'.cell? ⟨w.heap.size, 5, none⟩ = some (.slice pr nd cr) ∧ w'.cell? ⟨w.heap.size, 6, none⟩ = some (.slice pc nc cc)) (first | exact ⟨by assumption, HJK.out _ (by assumption)⟩ | go_keep)
            (first
              | (go_at_call 29; refine (on_any q _ _ _ z2.drew HTD.out.wd.wn).mono ?_; rintro e w' ⟨rfl, rfl⟩; rw [show (!(X.rest true).down) = false by rw [HRE.out.2.1]; rfl])
              | (go_at_call 28; refine (wlit_any q p _ _ _ z2.drew HTD.out.wd).mono ?_; rintro e w' ⟨rfl, rfl⟩; rw [HRE.out.1])
              | (go_at_call 44; have _t := tok1; refine (fate_any pr nd cr dirs pc nc cc cuts z2.drew w.heap.size (HRK.out _ kbd).1 (HRK.out _ kbd).2 (Nat.le_of_lt (Nat.lt_of_lt_of_le hsl kbd.size)) hnd hnc).mono ?_; rintro e z3 ⟨A3, c3, A3', c3', rfl, o3, o3', hb3⟩; have O3 := Lib.hid o3; have O3' := Lib.hid o3'; have kb3 : Below W0.heap.size W0 z3 := kbd.trans (hb3.mono kbd.size); have HT3 := Lib.hid (HTD.out.below hb3); have kq3 : z3.cell? ⟨q, 0, none⟩ = some (.pointer (some ⟨p, 0, none⟩)) := head_cell HT3.out.wd.wn; clear hb3 tok1 o3 o3')
              | (go_at_call 43; have _t := tok2; refine (wcrash_any q p (X.rest true) S _ G1 A3 nd c3 dirs A3' nc c3' cuts z3 HT3.out.wd HSI.out hkn (Reads.of_own O3.out) (Reads.of_own O3'.out) (spot_none O3.out) (spot_none O3'.out) hnd hnc2).mono ?_; rintro e z4 ⟨rfl, hd4, ht4⟩; have h4 := HT3.out.one kb3.size hd4 ht4; have HT4 := Lib.hid h4.1; have kb4 : Below W0.heap.size W0 z4 := kb3.trans h4.2; have kq4 : z4.cell? ⟨q, 0, none⟩ = some (.pointer (some ⟨p, 0, none⟩)) := head_cell HT4.out.wd.wn; clear hd4 ht4 h4 tok2)
              | (go_at_call 44; refine (fate_any pr nd cr dirs pc nc cc cuts z4 w.heap.size (HRK.out _ kb4).1 (HRK.out _ kb4).2 (Nat.le_of_lt (Nat.lt_of_lt_of_le hsl kb4.size)) hnd hnc).mono ?_; rintro e z5 ⟨A5, c5, A5', c5', rfl, o5, o5', hb5⟩; have O5 := Lib.hid o5; have O5' := Lib.hid o5'; have kb5 : Below W0.heap.size W0 z5 := kb4.trans (hb5.mono kb4.size); have HT5 := Lib.hid (HT4.out.below hb5); have kq5 : z5.cell? ⟨q, 0, none⟩ = some (.pointer (some ⟨p, 0, none⟩)) := head_cell HT5.out.wd.wn; clear hb5 o5 o5')
              | (go_at_call 43; refine (crash_any p2 S _ F2 A5 nd c5 dirs A5' nc c5' cuts z5 HT5.out.dr HSI.out hkn (Reads.of_own O5.out) (Reads.of_own O5'.out) (spot_none O5.out) (spot_none O5'.out) hnd hnc2).mono ?_; rintro e z6 ⟨rfl, hd6, ht6⟩; have h6 := HT5.out.two kb5.size hd6 ht6; have HT6 := Lib.hid h6.1; have kb6 : Below W0.heap.size W0 z6 := kb5.trans h6.2; have kq6 : z6.cell? ⟨q, 0, none⟩ = some (.pointer (some ⟨p, 0, none⟩)) := head_cell HT6.out.wd.wn; clear hd6 ht6 h6)
              | (go_at_call 38; refine (level_any p p2 (S.crash dirs cuts) _ _ z6 HT6.out.wd.dr HT6.out.dr HGC.out).mono ?_; rintro e z7 ⟨rfl, hb7⟩; have HT7 := Lib.hid (HT6.out.below hb7); have kb7 : Below W0.heap.size W0 z7 := kb6.trans (hb7.mono kb6.size); have kq7 : z7.cell? ⟨q, 0, none⟩ = some (.pointer (some ⟨p, 0, none⟩)) := head_cell HT7.out.wd.wn; clear hb7))
          clear kq2 kqd kq3 kq4 kq5 kq6 kq7
          go_wp2_with fail
          refine (wpower_any q p (X.rest true) (S.crash dirs cuts) _ true z7 HT7.out.wd).mono ?_
          rintro e z8 ⟨rfl, hd8, ht8⟩
          have h8 := HT7.out.one kb7.size hd8 ht8
          have HT8 := Lib.hid h8.1
          have kb8 : Below W0.heap.size W0 z8 := kb7.trans h8.2
          obtain ⟨Z, hZ⟩ : ∃ Z : Wnd, Z = { X.rest true with down := !true } := ⟨_, rfl⟩
          rw [← hZ] at HT8
          have HZS : Hid Z.Sound := Lib.hid (by rw [hZ]; exact HRE.out.2.2.1)
          have HZO : Hid Z.Ok := Lib.hid (by
            have h1 : Z.calls = X.calls := by rw [hZ]; exact HRE.out.2.2.2.1
            have h2 : Z.round = 0 := by rw [hZ]; exact HRE.out.2.2.2.2
            have h3 := HCL.out
            exact ⟨⟨by rw [h1]; exact h3.1, by rw [h1]; omega⟩, ⟨by rw [h2]; exact Int.le_refl _, by rw [h2]; omega⟩, by rw [HZS.out.plan]; decide, fun f hf => by rw [HZS.out.fuse] at hf; cases hf⟩)
          have HWR : Hid (wread Z (dnames (S.crash dirs cuts).now, (0 : Int)) = (Z.count, dnames (S.crash dirs cuts).now, 0)) := Lib.hid (by unfold wread; rw [HZS.out.struck]; rfl)
          have HSMC := Lib.hid (HIC.out.small hkn)
          have hsnow := HSMC.out.now
          clear hd8 ht8 h8 hZ
          go_wp2_with fail
          refine (wlist_any q p Z (S.crash dirs cuts) _ z8 (by omega) HT8.out.wd HZO.out HSMC.out).mono ?_
          rintro e z9 ⟨v9, rfl, ho9, hd9, ht9⟩
          rw [HWR.out] at ho9 hd9 ⊢
          simp only at ho9 hd9 ⊢
          have h9 := HT8.out.one kb8.size (hd9.mono fun i hi => .inl hi) ht9
          have HT9 := Lib.hid h9.1
          have kb9 : Below W0.heap.size W0 z9 := kb8.trans h9.2
          obtain ⟨m, hm⟩ : ∃ m, m = (dnames (S.crash dirs cuts).now).length := ⟨_, rfl⟩
          rw [← hm] at ho9
          obtain ⟨a9, c9, rfl, _⟩ := own_shape ho9
          have HO9 := Lib.hid ho9
          have HMM := Lib.hid hm
          obtain ⟨addr2, hda2⟩ := HT9.out.dr
          have HDA2 := Lib.hid hda2
          clear ho9 hd9 ht9 h9 hm hda2
          go_wp2_with fail
          refine (list_any p2 (S.crash dirs cuts) addr2 _ z9 HDA2.out (by omega)).mono ?_
          rintro e z10 ⟨v10, rfl, ho10, hb10⟩
          rw [← HMM.out] at ho10
          obtain ⟨a10, c10, rfl, _⟩ := own_shape ho10
          have HO10 := Lib.hid ho10
          have HO9' := Lib.hid (ownsRow_below HO9.out hb10)
          have HT10 := Lib.hid (HT9.out.below hb10)
          have kb10 : Below W0.heap.size W0 z10 := kb9.trans (hb10.mono kb9.size)
          have HZD : Hid ((!Z.count.down) = true) := Lib.hid (by rw [HZS.out.count.down]; rfl)
          clear ho10 hb10
          go_wp2_with fail
          refine (on_any q _ _ _ z10 HT10.out.wd.wn).mono ?_
          rintro e w' ⟨rfl, rfl⟩
          rw [HZD.out]
          go_wp2_with fail
          refine (alike_any _ _ { Said.none_ with names := dnames (S.crash dirs cuts).now } _ _ z10 ⟨_, _, _, rfl, World.ownsRow_nil _ 0 _ _, by show World.ownsRow _ _ _ _ _ (dnames (S.crash dirs cuts).now).length _; rw [← HMM.out]; exact ownsRow_base_a HO9'.out (Nat.zero_le _), FilesAt.nil _ _⟩ ⟨_, _, _, rfl, World.ownsRow_nil _ 0 _ _, by show World.ownsRow _ _ _ _ _ (dnames (S.crash dirs cuts).now).length _; rw [← HMM.out]; exact ownsRow_base_a HO10.out (Nat.zero_le _), FilesAt.nil _ _⟩ (by show (dnames (S.crash dirs cuts).now).length ≤ _; rw [dnames_length]; omega) (Nat.zero_le _)).mono ?_
          rintro e z11 ⟨rfl, hb11⟩
          have HBF : Hid (Below w.heap.size w z11) := Lib.hid (HB0.out.trans ((kb10.trans (hb11.mono kb10.size)).mono (Nat.le_of_lt hsl)))
          clear hb11
          go_wp2
          go_ret
          exact ⟨rfl, HBF.out⟩
end Go.Proofs.Ytdmcjomcbhdcbaa
