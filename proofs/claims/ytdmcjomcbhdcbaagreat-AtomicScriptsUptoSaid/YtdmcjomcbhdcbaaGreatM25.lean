/- One writing and a loss of power: the walk, a place with a drive.; What the bound of an upto statement gives; arguments opened by their bulk. No condition.; The document's drive, walked: List, Used, Loose, Image, Safe. -/
import Derived.Test.YtdmcjomcbhdcbaaGreatM24
import Derived.Test.YtdmcjomcbhdcbaaGreatRows
import Derived.Deep.Slices
import Derived.Deep.Fields
import Derived.ChangeArms
import Derived.SizedLaws
import Derived.Test.YtdmcjomcbhdcbaaGreatM16
namespace Go.Proofs.YtdmcjomcbhdcbaaGreat
open Go.RowKit Go.Maps

theorem FateIn.keep {w V : World} {pr : Option Addr} {nd : Nat} {dirs : List Bool} {pc : Option Addr} {nc : Nat} {cuts : List Int} (h : FateIn w pr nd dirs pc nc cuts) (hb : Below w.heap.size w V) : FateIn V pr nd dirs pc nc cuts :=
  ⟨(h.r.below hb).more hb.size, (h.c.below hb).more hb.size, h.rs, h.cs, h.nr, h.ncl⟩
theorem wd_step {w0 w w' : World} {q p : Nat} {X : Wnd} {S : Drv} {F : Nat → Prop} (hT : Touch F w0 w) (hd : WD w' q p X S (grow (grow F w0 w) w w')) (ht : Touch (grow F w0 w) w w') : WD w' q p X S (grow F w0 w') ∧ Touch F w0 w' :=
  ⟨hd.mono fun k hk => (grow_trans hT.size ht.size k).1 hk, hT.trans ht⟩

set_option maxRecDepth 100000 in
set_option maxHeartbeats 8000000 in
theorem turn_yes (w : World) (x : PPlace) (L : PlLay) (hx : PlaceIn w x L) (nm : List UInt8) (hnm : nm.length ≤ maxLen) (D : Option Addr) (dn dc : Nat) (bs : List UInt8) (hdn : dn = bs.length) (hD : Reads w w.heap.size 1 D dn (bs.map B8)) (hdb : dn ≤ 1099511627776) (call inside : Int) (pr : Option Addr) (nd cr : Nat) (dirs : List Bool) (pc : Option Addr) (nc cc : Nat) (cuts : List Int) (hfate : FateIn w pr nd dirs pc nc cuts) (hno : x.ok = true)
    (hpl : x.plan.length ≤ 8796093021952) (hfl : x.files.length + 5 ≤ 1073741824) (hfb : ∀ f ∈ x.files, f.2.length ≤ 1073741824) :
    Calls Tryz.prog 3 #[.agg (placeCells x L).toArray, .string ⟨nm.toArray⟩, .slice D dn dc, .int .i64 call, .int .i64 inside, .agg #[.slice pr nd cr, .slice pc nc cc]] w fun e w' => e = .returned (.bool true) ∧ Below w.heap.size w w' := by
  have HPI : Hid (∀ V, Below w.heap.size w V → PlaceIn V (x.lit call inside) L) := Lib.hid fun V hV => by
    obtain ⟨⟨vals, hf⟩, h2, h3, h4, h5, h6, h7, h8, h9⟩ := hx
    exact ⟨⟨vals, hf.keep hV⟩, h2, (h3.below hV).more hV.size, h4, h5, h6, h7, fun ad e h0 => Nat.lt_of_lt_of_le (h8 ad e h0) hV.size, h9⟩
  have HNO : Hid ((x.lit call inside).ok = true) := Lib.hid hno
  obtain ⟨hkp, hhl⟩ := place_kept (x.lit call inside) hpl rfl hno hfl hfb
  have HDL : Hid (∀ V, Below w.heap.size w V → Reads V V.heap.size 1 D dn (bs.map B8)) := Lib.hid fun V hV => (hD.below hV).more hV.size
  have HFT : Hid (∀ V, Below w.heap.size w V → FateIn V pr nd dirs pc nc cuts) := Lib.hid fun V hV => hfate.keep hV
  have HDN := Lib.hid hdn
  have HNM := Lib.hid hnm
  obtain ⟨N0, hN0⟩ : ∃ n, n = (x.lit call inside).files.length := ⟨_, rfl⟩
  have hN5 : N0 + 5 ≤ 1073741824 := by rw [hN0]; exact hfl
  obtain ⟨rm, hrm⟩ : ∃ n, n = (x.lit call inside).room.toNat := ⟨_, rfl⟩
  rw [← hN0, ← hrm] at hkp
  obtain ⟨X, hX⟩ : ∃ X, X = (x.lit call inside).wnd := ⟨_, rfl⟩
  obtain ⟨S, hS⟩ : ∃ S, S = (x.lit call inside).drv := ⟨_, rfl⟩
  rw [← hX, ← hS] at hkp
  rw [← hS] at hhl
  obtain ⟨Y, T, xe, hy⟩ : ∃ Y T xe, turnW X S nm bs = (Y, T, xe) := ⟨_, _, _, rfl⟩
  obtain ⟨hkY, hlaw1, hlaw2⟩ := turn_law hkp hN5 hhl hy dirs cuts
  have HKP := Lib.hid hkp
  have HKY := Lib.hid hkY
  have HL1 := Lib.hid hlaw1
  have HL2 := Lib.hid hlaw2
  have HY := Lib.hid hy
  obtain ⟨io, hio⟩ : ∃ n, n = S.image.length := ⟨_, rfl⟩
  obtain ⟨ic, hic⟩ : ∃ n, n = (T.crash dirs cuts).image.length := ⟨_, rfl⟩
  have HIO := Lib.hid hio
  have HIC := Lib.hid hic
  have HX := Lib.hid hX
  have HS := Lib.hid hS
  have hio' : io ≤ N0 := by rw [hio]; exact image_len hkp.drv
  have hic' : ic ≤ N0 + 5 := by rw [hic]; exact image_len (Drv.crash_inv hkY.drv dirs cuts)
  have HYO : Hid Y.Ok := Lib.hid (hkY.wnd.ok (by decide))
  have HMK := Lib.hid (fun V gp (h1 : PlaceIn V (x.lit call inside) L) (h2 : gp < V.heap.size) h3 => make_yes V (x.lit call inside) L h1 HNO.out gp 0 1 h2 (by omega) h3)
  rw [← hX, ← hS] at HMK
  clear hx hno hkp hhl hfate hD hy hkY hlaw1 hlaw2 hio hic hX hS hN0 hrm hdn hnm hpl hfl hfb
  obtain ⟨iB, hiB, hz0, hz1, hz2⟩ := info_parts byteInfo
  have HONE : Hid (∀ u ∈ bs.map B8, u.oneCell' = true) := Lib.hid (by intro u hu; simp only [List.mem_map] at hu; obtain ⟨b, _, rfl⟩ := hu; rfl)
  have HM63 : Hid (0 + dn ≤ maxLen) := Lib.hid (by simp only [maxLen]; omega)
  have HM40 : Hid ((0 + dn) * 1 ≤ 140737488355328) := Lib.hid (by omega)
  obtain ⟨there, room, fs, plan, off, fused, R, C, I⟩ := x
  obtain ⟨fa, fc, pa, plc⟩ := L
  obtain ⟨nf, hnf⟩ : ∃ nf, nf = fs.length := ⟨_, rfl⟩
  obtain ⟨np, hnp⟩ : ∃ np, np = plan.length := ⟨_, rfl⟩
  unfold placeCells
  simp only
  rw [← hnf, ← hnp]
  have HNF := Lib.hid hnf
  have HNP := Lib.hid hnp
  clear hnf hnp
  go_enter Tryz.func3, Tryz.ntmps3
  go_upto_region 1 with fail
  refine wp_world fun V0 hV0 => ?_
  have HB0 : Hid (Below w.heap.size w V0) := Lib.hid (by rw [hV0]; exact ((Below.refl _ _).alloc (Nat.le_refl _) _).alloc (by simp) _)
  have HPB0 : Hid (Blk V0 w.heap.size 25 #[.bool there, .int .i64 room, .slice fa nf fc, .slice pa np plc, .bool off, .bool fused, .int .i64 R, .int .i64 C, .int .i64 I]) := Lib.hid (by rw [hV0]; exact (Blk.new _ _ _).alloc _)
  have HFB0 : Hid (Blk V0 (w.heap.size + 1) 30 #[.slice pr nd cr, .slice pc nc cc]) := Lib.hid (by rw [hV0]; exact blk_last _ _ _ _ (by simp))
  have hs0 : w.heap.size + 2 ≤ V0.heap.size := by rw [hV0]; simp
  clear hV0
  go_upto_region 7 with (go_at_call 8; refine (awake_any V0).mono ?_; rintro e W1 ⟨rfl, hb1⟩; have HB1 := Lib.hid hb1; have hpb1 := HPB0.out.below hb1 HPB0.out.lt; have HPB1 := Lib.hid hpb1; have b5 := hpb1.cell 5; have b6 := hpb1.cell 6; have b7 := hpb1.cell 7; have b8 := hpb1.cell 8; simp at b5 b6 b7 b8; have bz := hpb1.frozen; have bl := hpb1.lt; clear hb1 hpb1)
  refine wp_world fun V2 hV2 => ?_
  have HPB2 : Hid (Blk V2 w.heap.size 25 #[.bool there, .int .i64 room, .slice fa nf fc, .slice pa np plc, .bool off, .bool true, .int .i64 0, .int .i64 call, .int .i64 inside]) := Lib.hid (by rw [hV2]; exact (((HPB1.out.set_ 5 _).set_ 6 _).set_ 7 _).set_ 8 _)
  have HT2 : Hid (Touch (· = w.heap.size) W1 V2) := Lib.hid (by
    rw [hV2]
    iterate 4 (refine Touch.then_ ?_ (Touch.setCell _ _ _ rfl))
    exact Touch.refl _ _)
  have hs1 : V0.heap.size ≤ W1.heap.size := HB1.out.size
  have hs2 : W1.heap.size ≤ V2.heap.size := HT2.out.size
  have HB2 : Hid (Below w.heap.size w V2) := Lib.hid ((HB0.out.trans (HB1.out.mono (by omega))).trans (HT2.out.below (by omega) (fun k e => by omega)))
  have HFB2 : Hid (Blk V2 (w.heap.size + 1) 30 #[.slice pr nd cr, .slice pc nc cc]) := Lib.hid ((HFB0.out.below HB1.out HFB0.out.lt).touch HT2.out (by omega))
  have p0 := HPB2.out.cell 0
  have p1 := HPB2.out.cell 1
  have p2 := HPB2.out.cell 2
  have p3 := HPB2.out.cell 3
  have p4 := HPB2.out.cell 4
  have p5 := HPB2.out.cell 5
  have p6 := HPB2.out.cell 6
  have p7 := HPB2.out.cell 7
  have p8 := HPB2.out.cell 8
  simp at p0 p1 p2 p3 p4 p5 p6 p7 p8
  have pl := HPB2.out.lt
  clear hV2 b5 b6 b7 b8 bz bl
  have HGP : Hid (∀ g, Blk (V2.alloc (.cells #[.bool there, .int .i64 room, .slice fa nf fc, .slice pa np plc, .bool off, .bool true, .int .i64 0, .int .i64 call, .int .i64 inside] 25)) g 25 #[.bool there, .int .i64 room, .slice fa nf fc, .slice pa np plc, .bool off, .bool true, .int .i64 0, .int .i64 call, .int .i64 inside] → ∀ j u, (placeCells ((⟨there, room, fs, plan, off, fused, R, C, I⟩ : PPlace).lit call inside) ⟨fa, fc, pa, plc⟩)[j]? = some u → (V2.alloc (.cells #[.bool there, .int .i64 room, .slice fa nf fc, .slice pa np plc, .bool off, .bool true, .int .i64 0, .int .i64 call, .int .i64 inside] 25)).cell? ⟨g, 0 + j, none⟩ = some u) := Lib.hid fun g hb j u hj => by
    rw [Nat.zero_add, hb.cell j, HNF.out, HNP.out]
    have e : (placeCells ((⟨there, room, fs, plan, off, fused, R, C, I⟩ : PPlace).lit call inside) ⟨fa, fc, pa, plc⟩).toArray = #[.bool there, .int .i64 room, .slice fa fs.length fc, .slice pa plan.length plc, .bool off, .bool true, .int .i64 0, .int .i64 call, .int .i64 inside] := rfl
    rw [← e, List.getElem?_toArray]
    exact hj
  go_upto_region 13 with (first
    | (go_at_call 9; refine (HMK.out _ V2.heap.size (HPI.out _ (HB2.out.alloc HB2.out.size _)) (by simp) (HGP.out _ (Blk.new _ _ _))).mono ?_; rintro e W3 ⟨dg, dgc, wg, wgc, mg, mgc, q, p, mq, mp, Av, rfl, hT3, hcap, hb3⟩; have hw3 := hT3.rows.u; have HT3 := Lib.hid hT3; have HB3 := Lib.hid hb3; unfold bothV; have hwl : wg < W3.heap.size := cell_lt hw3; have hwc := hcap.u; clear hcap hb3 hT3)
    | fail)
  refine wp_world fun V4 hV4 => ?_
  have hb34 : Below W3.heap.size W3 V4 := by rw [hV4]; exact (Below.refl _ _).alloc (Nat.le_refl _) _
  have hs3 : V2.heap.size + 1 ≤ W3.heap.size := by have := HB3.out.size; simpa using this
  have hs34 : W3.heap.size ≤ V4.heap.size := hb34.size
  obtain ⟨F1, F2, hwd, _, _, h1F, _, _, _, _, _⟩ := HT3.out
  have HF1 : Hid (∀ k, F1 k → V2.heap.size + 1 ≤ k ∧ k < W3.heap.size) := Lib.hid fun k hk => by have := h1F k hk; simpa using this
  have HB23 : Hid (Below w.heap.size w V4) := Lib.hid ((HB2.out.alloc HB2.out.size _).trans ((HB3.out.trans (hb34.mono HB3.out.size)).mono (by have := HB2.out.size; simp; omega)))
  have HD4 : Hid (WD V4 q p X S F1) := Lib.hid (WD.below hwd hb34)
  have HFB4 : Hid (Blk V4 (w.heap.size + 1) 30 #[.slice pr nd cr, .slice pc nc cc]) := Lib.hid (((HFB2.out.alloc _).below HB3.out (by simp; omega)).below hb34 (by omega))
  have q04 : V4.cell? ⟨q, 0, none⟩ = some (.pointer (some ⟨p, 0, none⟩)) := WD.head HD4.out
  have ql4 : q < V4.heap.size := cell_lt q04
  clear hV4 hwd h1F hb34 hw3 hwl hwc p0 p1 p2 p3 p4 p5 p6 p7 p8 HT3 HMK HPI HGP
  go_upto_region 14 with (first
    | (go_at_call 11; refine (wimage_any q p X S F1 V4 HD4.out HKP.out.drv (by omega)).mono ?_; rintro e W5 ⟨a5, c5, rfl, hf5, hb5⟩; rw [← HIO.out] at hf5 ⊢; have HF5 := Lib.hid hf5; have HB5 := Lib.hid hb5; clear hf5 hb5)
    | fail)
  have hs5 : V4.heap.size ≤ W5.heap.size := HB5.out.size
  have HB05 : Hid (Below w.heap.size w W5) := Lib.hid (HB23.out.trans (HB5.out.mono (HB23.out.size)))
  have HD5 : Hid (WD W5 q p X S F1) := Lib.hid (WD.below HD4.out HB5.out)
  go_upto_region 16 with (first
    | (at_builtin; go_must (refine wpList_append_any _ (by rfl) (.const (.slice none 0 0)) (.tmp 55) 26 (by rfl) W5.heap.size 5 iB _ 1 1 Tryz.underlying26 hiB hz0 hz1 hz2 rfl (by omega) (.slice none 0 0) 0 [] (by rfl) (World.ownsRow_nil _ _ _ _) _ D dn dc (bs.map B8) (by rfl) (HDL.out W5 HB05.out) HONE.out HM63.out HM40.out (by first | omega | simp) ?_); intro v6 W6 hown6 hg6 hat6; obtain ⟨a6, c6, rfl, hc6⟩ := own_shape hown6; rw [Nat.zero_add, List.nil_append] at hown6; go_must (have HO6 := Lib.hid hown6; have HG6 : Hid (Touch (fun _ => False) W5 W6) := Lib.hid (Touch.of_grown hg6 (fun k hk => (by simp [Value.ownBlock] at hk))); clear hown6 hg6 hat6))
    | (go_at_call 10; refine (write_turn q p X S F1 nm a6 c6 dn bs W6 0 N0 rm HDN.out (HD5.out.keep HG6.out (fun _ _ h => h)) (fun k hk => by have h1 := HF1.out k hk; have h2 := HG6.out.size; omega) HNM.out (fun W hW => ((Reads.of_own HO6.out).touch hW (Nat.le_refl _) (fun ad e hf => by have h1 := HF1.out _ hf; have h2 := (own_ad HO6.out e).1; omega)).more hW.size) (fun ad e => ⟨(own_ad HO6.out e).2, fun hf => by have h1 := HF1.out _ hf; have h2 := (own_ad HO6.out e).1; omega⟩) (by omega) (by omega) HKP.out (by decide) hN5 Y T xe HY.out).mono ?_; rintro e W7 ⟨rfl, hd7, ht7⟩; have HD7 := Lib.hid hd7; have HT7 := Lib.hid ht7; clear hd7 ht7)
    | (go_at_call 12; refine (wrest_any q p Y T _ true W7 HD7.out HYO.out).mono ?_; rintro e W8 ⟨rfl, hd8, ht8⟩; have hst8 := wd_step HT7.out hd8 ht8; have HD8 := Lib.hid hst8.1; have HT8 := Lib.hid hst8.2; have q08 := WD.head hst8.1; have ql8 : q < W8.heap.size := cell_lt q08; clear hd8 ht8 hst8)
    | fail)
  have hs56 : W5.heap.size ≤ W6.heap.size := HG6.out.size
  have hs68 : W6.heap.size ≤ W8.heap.size := HT8.out.size
  have HB06 : Hid (Below w.heap.size w W6) := Lib.hid (HB05.out.trans (HG6.out.below (by have := HB05.out.size; omega) (fun k h => h.elim)))
  have HBT : Hid (∀ W, Touch F1 W6 W → Below w.heap.size w W) := Lib.hid fun W hW => HB06.out.trans (hW.below (by have := HB06.out.size; omega) (fun k hk => by have := HF1.out k hk; omega))
  have HFK : Hid (∀ W, Touch F1 W6 W → W.cell? ⟨w.heap.size + 1, 0, none⟩ = some (.slice pr nd cr) ∧ W.cell? ⟨w.heap.size + 1, 1, none⟩ = some (.slice pc nc cc)) := Lib.hid fun W hW => by
    have h := ((HFB4.out.below HB5.out (by omega)).touch HG6.out (fun h => h)).touch hW (fun hf => by have := HF1.out _ hf; omega)
    exact ⟨h.cell 0, h.cell 1⟩
  have HFO : Hid (∀ W, Touch F1 W6 W → FilesAt W V4.heap.size (.slice a5 io c5) S.image) := Lib.hid fun W hW => (HF5.out.touch HG6.out (fun _ _ _ h => h)).touch hW (fun k h1 _ hf => by have := HF1.out _ hf; omega)
  obtain ⟨f80, f81⟩ := HFK.out W8 HT8.out
  have fl8 : w.heap.size + 1 < W8.heap.size := cell_lt f80
  clear q04 ql4
  go_region_held3 (fun w' => w'.cell? ⟨q, 0, none⟩ = some (.pointer (some ⟨p, 0, none⟩)) ∧ w'.cell? ⟨w.heap.size + 1, 0, none⟩ = some (.slice pr nd cr) ∧ w'.cell? ⟨w.heap.size + 1, 1, none⟩ = some (.slice pc nc cc)) (first | (with_reducible exact HQ9.out) | go_keep) ((first
    | (go_at_call 13; refine (wcrashd_any q p (Y.rest true) T (N0 + 5) _ pr nd cr dirs pc nc cc cuts _ (WD.below HD8.out (below_drew1 (Below.refl _ _))) HKY.out.drv (by omega) (HFT.out _ (below_drew1 (HBT.out _ HT8.out))).r (HFT.out _ (below_drew1 (HBT.out _ HT8.out))).c (HFT.out _ (below_drew1 (HBT.out _ HT8.out))).rs (HFT.out _ (below_drew1 (HBT.out _ HT8.out))).cs (HFT.out _ (below_drew1 (HBT.out _ HT8.out))).nr (HFT.out _ (below_drew1 (HBT.out _ HT8.out))).ncl).mono ?_; rintro e W9 ⟨rfl, hd9, ht9⟩; have hst9 := wd_step HT8.out hd9 ((Touch.of_below (below_drew1 (Below.refl _ W8))).then_ ht9); have HD9 := Lib.hid hst9.1; have HT9 := Lib.hid hst9.2; have HQ9 := Lib.hid (And.intro (WD.head hst9.1) (HFK.out W9 hst9.2)); clear hd9 ht9 hst9)
    | fail))
  all_goals (
    obtain ⟨q09, _, _⟩ := HQ9.out
    clear f80 f81 q08 ql8
    go_wp2_with (first
      | (go_at_call 14; go_loud (refine (wpower_any q p (Y.rest true) (T.crash dirs cuts) _ true W9 HD9.out).mono ?_); rintro e W10 ⟨rfl, hd10, ht10⟩; have hst10 := wd_step HT9.out hd10 ht10; have HD10 := Lib.hid hst10.1; have HT10 := Lib.hid hst10.2; have q010 := WD.head hst10.1; have ql10 : q < W10.heap.size := cell_lt q010; clear hd10 ht10 hst10)
      | (go_at_call 11; go_loud (refine (wimage_any q p _ (T.crash dirs cuts) _ W10 HD10.out (Drv.crash_inv HKY.out.drv dirs cuts) (by omega)).mono ?_); rintro e W11 ⟨a11, c11, rfl, hf11, hb11⟩; rw [← HIC.out] at hf11 ⊢; have HF11 := Lib.hid hf11; have HB11 := Lib.hid hb11; clear hf11 hb11)
      | (go_at_call 15; go_loud (refine (turned_any S.image (T.crash dirs cuts).image V4.heap.size W10.heap.size a5 a11 io ic c5 c11 HIO.out HIC.out W11 ((HFO.out W10 HT10.out).below HB11.out) HF11.out (by omega) (by omega) nm D dn dc bs HDN.out (HDL.out W11 ((HBT.out W10 HT10.out).trans (HB11.out.mono (HBT.out W10 HT10.out).size))) xe (fun k f hk => image_own k f hk) HL1.out HL2.out).mono ?_); rintro e W12 ⟨rfl, n12, hn12⟩; have HN12 := Lib.hid hn12; clear hn12)
      | fail)
    go_ret
    refine ⟨rfl, ?_⟩
    rw [HN12.out]
    exact below_drewN ((HBT.out W10 HT10.out).trans (HB11.out.mono (HBT.out W10 HT10.out).size)) n12)
end Go.Proofs.YtdmcjomcbhdcbaaGreat
namespace Go.Proofs.YtdmcjomcbhdcbaaGreat
open Go.RowKit Go.Maps Go.ChangeShapes Go.WideShapes

namespace bulks
theorem one_le {H : Type} (d : DataW H) : 1 ≤ Rows.uptoBulk d := by
  cases d with
  | lit l => cases l <;> simp [Rows.uptoBulk]
  | nil => simp [Rows.uptoBulk]
  | ptr d => simp [Rows.uptoBulk]
  | slice elems spare => simp [Rows.uptoBulk]
  | agg parts => simp [Rows.uptoBulk]
  | iface t d => simp [Rows.uptoBulk]
  | map entries => simp [Rows.uptoBulk]
  | held h => simp [Rows.uptoBulk]
theorem part_le {H : Type} {d : DataW H} {l : List (DataW H)} (h : d ∈ l) : Rows.uptoBulk d ≤ Rows.uptoBulkAll l := by
  induction l with
  | nil => cases h
  | cons x r ih =>
    simp only [Rows.uptoBulkAll]
    cases List.mem_cons.1 h with
    | inl e => subst e; omega
    | inr e => have := ih e; omega
theorem length_le {H : Type} (l : List (DataW H)) : l.length ≤ Rows.uptoBulkAll l := by
  induction l with
  | nil => simp [Rows.uptoBulkAll]
  | cons x r ih => have := one_le x; simp only [Rows.uptoBulkAll, List.length_cons]; omega
theorem slice_le {H : Type} (elems spare : List (DataW H)) : elems.length + spare.length + 1 ≤ Rows.uptoBulk (.slice elems spare) := by
  have h1 := length_le elems
  have h2 := length_le spare
  simp only [Rows.uptoBulk]
  omega
theorem slice_elems {H : Type} (elems spare : List (DataW H)) : Rows.uptoBulkAll elems + 1 ≤ Rows.uptoBulk (.slice elems spare) := by
  simp only [Rows.uptoBulk]
  omega
theorem agg_parts {H : Type} (l : List (DataW H)) : Rows.uptoBulkAll l + 1 ≤ Rows.uptoBulk (.agg l) := by
  simp only [Rows.uptoBulk]
  omega
theorem all_cons {H : Type} (d : DataW H) (l : List (DataW H)) : Rows.uptoBulkAll (d :: l) = Rows.uptoBulk d + Rows.uptoBulkAll l := rfl
theorem all_nil {H : Type} : Rows.uptoBulkAll (H := H) [] = 0 := rfl
theorem append {H : Type} (l r : List (DataW H)) : Rows.uptoBulkAll (l ++ r) = Rows.uptoBulkAll l + Rows.uptoBulkAll r := by
  induction l with
  | nil => simp [Rows.uptoBulkAll]
  | cons x l ih => simp only [List.cons_append, Rows.uptoBulkAll, ih]; omega
theorem text {H : Type} (l : List UInt8) : Rows.uptoBulk (DataW.lit (H := H) (.string l)) = l.length + 1 := rfl
theorem agg_eq {H : Type} (l : List (DataW H)) : Rows.uptoBulk (.agg l) = Rows.uptoBulkAll l + 1 := rfl
theorem slice_eq {H : Type} (a b : List (DataW H)) : Rows.uptoBulk (.slice a b) = Rows.uptoBulkAll a + Rows.uptoBulkAll b + 1 := rfl
theorem bound {H : Type} {l : List (DataW H)} (hk : Rows.uptoSmall H l = true) : Rows.uptoBulkAll l ≤ 1048576 := by
  simpa [Rows.uptoSmall] using hk
end bulks

section
variable {H : Type} {enc : TypeId × Value → H} {P : Program} {w : World} {base : Nat} {spare : Nat → Bool} {held : Bool}
theorem len2b {α : Type} {l : List α} (h : l.length = 2) : ∃ a b, l = [a, b] := by
  match l, h with
  | [a, b], _ => exact ⟨a, b, rfl⟩
theorem len9b {α : Type} {l : List α} (h : l.length = 9) : ∃ c0 c1 c2 c3 c4 c5 c6 c7 c8, l = [c0, c1, c2, c3, c4, c5, c6, c7, c8] := by
  match l, h with
  | [c0, c1, c2, c3, c4, c5, c6, c7, c8], _ => exact ⟨c0, c1, c2, c3, c4, c5, c6, c7, c8, rfl⟩
theorem plain_spot {w : World} {ad : Addr} {v : Value} (h : w.cell? ad = some v) : ad.spot = none := by
  obtain ⟨b, off, spot⟩ := ad
  cases spot with
  | none => rfl
  | some s =>
    unfold World.cell? at h
    split at h <;> simp_all
theorem plain_spot0 {w : World} {ad : Addr} {v : Value} (h : w.cell? (ad.add 0) = some v) : ad.spot = none := by
  have e : ad.add 0 = ad := by unfold Addr.add; simp
  rw [e] at h
  exact plain_spot h

/-- A slice of one-cell elements, opened as a list, with its bulk. -/
theorem open_rowb {α : Type} [Inhabited α] (f : α → Value) {t e : TypeId} {fuel : Nat} {v : Value} {x : DataW H × List MemPlace} (ht : P.underlying t = some (.slice e)) (hc : P.cellsOf e = 1)
    (hdec : ∀ n V d, DataW.trod enc P w base spare held n e [V] = some d → ∃ a, V = f a) (h : DataW.trod enc P w base spare held fuel t [v] = some x) :
    ∃ A n c l, v = .slice A n c ∧ List.length l = n ∧ n ≤ c ∧ n + 1 ≤ Rows.uptoBulk x.1 ∧ (∀ ad, A = some ad → 0 < n → ad.spot = none) ∧ Reads w w.heap.size 1 A n (l.map f) := by
  rcases Go.Deep.open_slice1 ht hc h with ⟨hcs, hx⟩ | ⟨ad, len, cap, m, n, V, D, Pl, hcs, _, hl, hm, hmm, hx, hcell⟩
  · simp only [List.cons.injEq, and_true] at hcs
    exact ⟨none, 0, 0, [], hcs, rfl, Nat.le_refl _, by rw [hx]; simp [Rows.uptoBulk], (fun ad e _ => by cases e), Reads.none_⟩
  · simp only [List.cons.injEq, and_true] at hcs
    have hml : len ≤ m := by rw [hmm]; split <;> omega
    obtain ⟨B, hB⟩ : ∃ B : Nat → α, ∀ i, i < len → V i = f (B i) := Go.Deep.choose_lt (p := fun i b => V i = f b) fun i hi => by
      obtain ⟨_, htr⟩ := hcell i (by omega)
      exact hdec _ _ _ htr
    refine ⟨some ad, len, cap, (List.range len).map B, hcs, by simp, hl, ?_, fun a e hn => ?_, by simp, fun hn => ⟨ad, rfl, ?_, fun j u hu => ?_⟩⟩
    · have h1 := bulks.slice_le (H := H) ((List.range len).map D) ((List.range (m - len)).map fun j => D (len + j))
      rw [hx]
      simp only [List.length_map, List.length_range] at h1 ⊢
      omega
    · obtain rfl := Option.some.inj e
      exact plain_spot0 (hcell 0 (by omega)).1
    · have h0 := (hcell 0 (by omega)).1
      have := World.block_lt_of_cell? w _ h0
      rwa [block_of_add] at this
    · have hj : j < len := by
        rcases Nat.lt_or_ge j len with h | h
        · exact h
        · rw [List.getElem?_eq_none (by simp; exact h)] at hu; cases hu
      rw [(hcell j (by omega)).1, hB j hj]
      simp [hj] at hu
      rw [hu]
end

section
variable {H : Type} {enc : TypeId × Value → H} {w : World} {base : Nat} {spare : Nat → Bool} {held : Bool}
theorem decb_byte (n : Nat) (V : Value) (d : DataW H × List MemPlace) (h : DataW.trod enc Tryz.prog w base spare held n 5 [V] = some d) : ∃ b, V = B8 b := by
  obtain ⟨z, hz, _, hwf⟩ := DataW.trod_int Tryz.underlying5 h
  simp only [List.cons.injEq, and_true] at hz
  simp only [Lit.wf, Bool.and_eq_true, decide_eq_true_eq] at hwf
  have h1 : (0 : Int) ≤ z := hwf.1
  have h2 : z ≤ 255 := hwf.2
  refine ⟨UInt8.ofNat z.toNat, ?_⟩
  rw [hz]
  unfold B8
  congr 1
  rw [UInt8.toNat_ofNat']
  omega
theorem decb_bool (n : Nat) (V : Value) (d : DataW H × List MemPlace) (h : DataW.trod enc Tryz.prog w base spare held n 4 [V] = some d) : ∃ b, V = boolV b := by
  obtain ⟨b, hz, _⟩ := DataW.trod_bool Tryz.underlying4 h
  simp only [List.cons.injEq, and_true] at hz
  exact ⟨b, hz⟩
theorem decb_int (n : Nat) (V : Value) (d : DataW H × List MemPlace) (h : DataW.trod enc Tryz.prog w base spare held n 3 [V] = some d) : ∃ b, V = intV b := by
  obtain ⟨b, hz, _⟩ := DataW.trod_int Tryz.underlying3 h
  simp only [List.cons.injEq, and_true] at hz
  exact ⟨b, hz⟩
theorem openb_text {fuel : Nat} {V : Value} {x : DataW H × List MemPlace} (h : DataW.trod enc Tryz.prog w base spare held fuel 9 [V] = some x) : ∃ s : List UInt8, V = strV s ∧ s.length + 1 ≤ Rows.uptoBulk x.1 := by
  obtain ⟨s, hs, hx, _⟩ := DataW.trod_string Tryz.underlying9 h
  simp only [List.cons.injEq, and_true] at hs
  refine ⟨s.data.toList, ?_, ?_⟩
  · rw [hs]; rfl
  · rw [hx]; exact Nat.le_of_eq (bulks.text _).symm
theorem openb_fault {fuel : Nat} {cs : List Value} {x : DataW H × List MemPlace} (h : DataW.trod enc Tryz.prog w base spare held fuel 181 cs = some x) : ∃ f : Int × Int, cs = [.int .i64 f.1, .int .i64 f.2] := by
  obtain ⟨xs, n, _, _, hlen, hxl, hf⟩ := DataW.trod_struct Tryz.underlying181 h
  have hc : Tryz.prog.cellsOf 181 = 2 := by kernel_rfl
  rw [hc] at hlen
  obtain ⟨c0, c1, rfl⟩ := len2b hlen
  have h3 : Tryz.prog.cellsOf 3 = 1 := by kernel_rfl
  obtain ⟨y0, y1, rfl⟩ := len2b (hxl.trans (by decide))
  have g0 : DataW.trod enc Tryz.prog w base spare held n 3 (List.take (Tryz.prog.cellsOf 3) [c0, c1]) = some y0 := hf 0 _ rfl
  have g1 : DataW.trod enc Tryz.prog w base spare held n 3 (List.take (Tryz.prog.cellsOf 3) [c1]) = some y1 := hf 1 _ rfl
  rw [h3] at g0 g1
  obtain ⟨a, ha, _⟩ := DataW.trod_int Tryz.underlying3 g0
  obtain ⟨b, hb, _⟩ := DataW.trod_int Tryz.underlying3 g1
  simp at ha hb
  exact ⟨(a, b), by rw [ha, hb]⟩
theorem openb_plan {fuel : Nat} {v : Value} {x : DataW H × List MemPlace} (h : DataW.trod enc Tryz.prog w base spare held fuel 23 [v] = some x) :
    ∃ A n c l, v = .slice A n c ∧ List.length l = n ∧ n ≤ c ∧ n + 1 ≤ Rows.uptoBulk x.1 ∧ (∀ ad, A = some ad → 0 < n → ad.block < w.heap.size) ∧ Reads w w.heap.size 2 A n (planCells l) := by
  have hc : Tryz.prog.cellsOf 181 = 2 := by kernel_rfl
  rcases Go.Deep.open_slice Tryz.underlying23 h with ⟨hcs, hx⟩ | ⟨ad, len, cap, m, n, D, Pl, hcs, _, hl, hm, hmm, hx, hcell⟩
  · simp only [List.cons.injEq, and_true] at hcs
    exact ⟨none, 0, 0, [], hcs, rfl, Nat.le_refl _, by rw [hx]; simp [Rows.uptoBulk], (fun ad e _ => by cases e), Reads.none_⟩
  · simp only [List.cons.injEq, and_true] at hcs
    have hml : len ≤ m := by rw [hmm]; split <;> omega
    rw [hc] at hcell
    obtain ⟨B, hB⟩ : ∃ B : Nat → Int × Int, ∀ i, i < len → w.cell? (ad.add (i * 2)) = some (.int .i64 (B i).1) ∧ w.cell? (ad.add (i * 2 + 1)) = some (.int .i64 (B i).2) :=
      Go.Deep.choose_lt (p := fun i (b : Int × Int) => w.cell? (ad.add (i * 2)) = some (.int .i64 b.1) ∧ w.cell? (ad.add (i * 2 + 1)) = some (.int .i64 b.2)) fun i hi => by
        obtain ⟨cs', h1, h2⟩ := hcell i (by omega)
        obtain ⟨f, rfl⟩ := openb_fault h2
        obtain ⟨_, _, h3⟩ := World.cells?_some h1
        have e0 := h3 0 (by omega)
        have e1 := h3 1 (by omega)
        rw [Go.Deep.add_add] at e0 e1
        exact ⟨f, e0, e1⟩
    have hpl : ∀ k, (planCells ((List.range k).map B)).length = k * 2 := fun k => by rw [planCells_length]; simp
    have hblk : 0 < len → ad.block < w.heap.size := fun hn => by
      have h0 := (hB 0 (by omega)).1
      have := World.block_lt_of_cell? w _ h0
      rwa [block_of_add] at this
    refine ⟨some ad, len, cap, (List.range len).map B, hcs, by simp, hl, ?_, fun a e hz => ?_, hpl len, fun hn => ⟨ad, rfl, hblk hn, fun j u hu => ?_⟩⟩
    · have h1 := bulks.slice_le (H := H) ((List.range len).map D) ((List.range (m - len)).map fun j => D (len + j))
      rw [hx]
      simp only [List.length_map, List.length_range] at h1 ⊢
      omega
    · obtain rfl := Option.some.inj e
      exact hblk hz
    · have hj : j < len * 2 := by
        rcases Nat.lt_or_ge j (len * 2) with h | h
        · exact h
        · rw [List.getElem?_eq_none (by rw [hpl]; exact h)] at hu; cases hu
      have hk : j / 2 < len := by omega
      have hg : ((List.range len).map B)[j / 2]? = some (B (j / 2)) := by simp [hk]
      obtain ⟨p0, p1⟩ := plan_get _ _ _ hg
      obtain ⟨q0, q1⟩ := hB _ hk
      rcases Nat.mod_two_eq_zero_or_one j with h | h
      · have e : j = j / 2 * 2 := by omega
        rw [e] at hu ⊢
        rw [p0] at hu; rw [q0, hu]
      · have e : j = j / 2 * 2 + 1 := by omega
        rw [e] at hu ⊢
        rw [p1] at hu; rw [q1, hu]

theorem openb_file {fuel : Nat} {cs : List Value} {x : DataW H × List MemPlace} (h : DataW.trod enc Tryz.prog w base spare held fuel 75 cs = some x) :
    ∃ (f : File) (a : Option Addr) (c : Nat), cs = [strV f.1, .slice a f.2.length c] ∧ Reads w w.heap.size 1 a f.2.length (f.2.map B8) ∧ f.1.length + f.2.length + 1 ≤ Rows.uptoBulk x.1 := by
  obtain ⟨xs, n, _, hx, hlen, hxl, hf⟩ := DataW.trod_struct Tryz.underlying75 h
  have hc : Tryz.prog.cellsOf 75 = 2 := by kernel_rfl
  rw [hc] at hlen
  obtain ⟨c0, c1, rfl⟩ := len2b hlen
  have h3 : Tryz.prog.cellsOf 9 = 1 := by kernel_rfl
  have h4 : Tryz.prog.cellsOf 26 = 1 := by kernel_rfl
  have h5 : Tryz.prog.cellsOf 5 = 1 := by kernel_rfl
  obtain ⟨y0, y1, rfl⟩ := len2b (hxl.trans (by decide))
  have g0 : DataW.trod enc Tryz.prog w base spare held n 9 (List.take (Tryz.prog.cellsOf 9) [c0, c1]) = some y0 := hf 0 _ rfl
  have g1 : DataW.trod enc Tryz.prog w base spare held n 26 (List.take (Tryz.prog.cellsOf 26) [c1]) = some y1 := hf 1 _ rfl
  rw [h3] at g0
  rw [h4] at g1
  obtain ⟨s, hs, hsb⟩ := openb_text g0
  obtain ⟨A, m, c, l, hv, hl, _, hb, _, hr⟩ := open_rowb B8 Tryz.underlying26 h5 decb_byte g1
  subst hl
  refine ⟨(s, l), A, c, by rw [← hv, ← hs], hr, ?_⟩
  rw [hx]
  simp only [bulks.agg_eq, List.map_cons, List.map_nil, bulks.all_cons, bulks.all_nil]
  show s.length + l.length + 1 ≤ _
  omega

theorem fileCells_length (fs : List File) : ∀ vals : List Value, vals.length = fs.length → (fileCells fs vals).length = fs.length * 2 := by
  induction fs with
  | nil => intro vals _; rfl
  | cons f r ih =>
    intro vals h
    cases vals with
    | nil => simp at h
    | cons v vs =>
      have e : fileCells (f :: r) (v :: vs) = [strV f.1, v] ++ fileCells r vs := rfl
      rw [e, List.length_append, ih vs (by simpa using h)]
      simp only [List.length_cons, List.length_nil]
      omega

theorem total_map {len : Nat} {D : Nat → DataW H} {B : Nat → File} (hB : ∀ i, i < len → (B i).1.length + (B i).2.length + 1 ≤ Rows.uptoBulk (D i)) : ∀ l : List Nat, (∀ i ∈ l, i < len) → Drv.total (l.map B) + l.length ≤ Rows.uptoBulkAll (l.map D) := by
  intro l
  induction l with
  | nil => intro _; simp [Drv.total]
  | cons i r ih =>
    intro h
    have h1 := ih fun j hj => h j (List.mem_cons_of_mem _ hj)
    have h2 := hB i (h i List.mem_cons_self)
    simp only [List.map_cons, List.length_cons, bulks.all_cons, Drv.total, List.sum_cons] at h1 ⊢
    omega

theorem openb_files {fuel : Nat} {v : Value} {x : DataW H × List MemPlace} (h : DataW.trod enc Tryz.prog w base spare held fuel 22 [v] = some x) :
    ∃ A n c fs vals, v = .slice A n c ∧ List.length fs = n ∧ FilesIn w A fs vals ∧ (∀ ad, A = some ad → 0 < fs.length → ad.spot = none) ∧ Drv.total fs + n ≤ Rows.uptoBulk x.1 ∧ (∀ f ∈ fs, f.1.length + f.2.length ≤ Rows.uptoBulk x.1) := by
  have hc : Tryz.prog.cellsOf 75 = 2 := by kernel_rfl
  rcases Go.Deep.open_slice Tryz.underlying22 h with ⟨hcs, hx⟩ | ⟨ad, len, cap, m, n, D, Pl, hcs, _, hl, hm, hmm, hx, hcell⟩
  · simp only [List.cons.injEq, and_true] at hcs
    exact ⟨none, 0, 0, [], [], hcs, rfl, ⟨rfl, Reads.none_, fun k f u h => by simp at h⟩, (fun ad e _ => by cases e), by rw [hx]; simp [Rows.uptoBulk, Drv.total], fun f h => by simp at h⟩
  · simp only [List.cons.injEq, and_true] at hcs
    have hml : len ≤ m := by rw [hmm]; split <;> omega
    rw [hc] at hcell
    obtain ⟨B, hB⟩ : ∃ B : Nat → File × (Option Addr × Nat), ∀ i, i < len → w.cell? (ad.add (i * 2)) = some (strV (B i).1.1) ∧ w.cell? (ad.add (i * 2 + 1)) = some (.slice (B i).2.1 (B i).1.2.length (B i).2.2) ∧ Reads w w.heap.size 1 (B i).2.1 (B i).1.2.length ((B i).1.2.map B8) ∧ (B i).1.1.length + (B i).1.2.length + 1 ≤ Rows.uptoBulk (D i) := by
      refine Go.Deep.choose_lt (p := fun i (b : File × (Option Addr × Nat)) => w.cell? (ad.add (i * 2)) = some (strV b.1.1) ∧ w.cell? (ad.add (i * 2 + 1)) = some (.slice b.2.1 b.1.2.length b.2.2) ∧ Reads w w.heap.size 1 b.2.1 b.1.2.length (b.1.2.map B8) ∧ b.1.1.length + b.1.2.length + 1 ≤ Rows.uptoBulk (D i)) fun i hi => ?_
      obtain ⟨cs', h1, h2⟩ := hcell i (by omega)
      obtain ⟨f, a, c, rfl, hr, hb⟩ := openb_file h2
      obtain ⟨_, _, h3⟩ := World.cells?_some h1
      have e0 := h3 0 (by omega)
      have e1 := h3 1 (by omega)
      rw [Go.Deep.add_add] at e0 e1
      exact ⟨(f, a, c), e0, e1, hr, hb⟩
    obtain ⟨fs, hfs⟩ : ∃ fs, fs = (List.range len).map fun i => (B i).1 := ⟨_, rfl⟩
    obtain ⟨vals, hvals⟩ : ∃ vals, vals = (List.range len).map fun i => Value.slice (B i).2.1 (B i).1.2.length (B i).2.2 := ⟨_, rfl⟩
    have hfl : fs.length = len := by rw [hfs]; simp
    have hvl : vals.length = len := by rw [hvals]; simp
    have hfg : ∀ k, k < len → fs[k]? = some (B k).1 := fun k hk => by rw [hfs]; simp [hk]
    have hvg : ∀ k, k < len → vals[k]? = some (.slice (B k).2.1 (B k).1.2.length (B k).2.2) := fun k hk => by rw [hvals]; simp [hk]
    have hcl : (fileCells fs vals).length = len * 2 := by rw [fileCells_length _ _ (by rw [hfl, hvl]), hfl]
    have hblk : 0 < len → ad.block < w.heap.size := fun hn => by
      have h0 := (hB 0 (by omega)).1
      have := World.block_lt_of_cell? w _ h0
      rwa [block_of_add] at this
    refine ⟨some ad, len, cap, fs, vals, hcs, hfl, ⟨by rw [hfl, hvl], ⟨by rw [hcl, hfl], fun hn => ⟨ad, rfl, hblk (by omega), fun j u hu => ?_⟩⟩, fun k f u hf hu => ?_⟩, fun a e hn => ?_, ?_, ?_⟩
    · have hj : j < len * 2 := by
        rcases Nat.lt_or_ge j (len * 2) with h | h
        · exact h
        · rw [List.getElem?_eq_none (by rw [hcl]; exact h)] at hu; cases hu
      have hk : j / 2 < len := by omega
      obtain ⟨p0, p1⟩ := fileCells_get _ _ (hfg _ hk) (hvg _ hk)
      obtain ⟨q0, q1, _⟩ := hB _ hk
      rcases Nat.mod_two_eq_zero_or_one j with h | h
      · have e : j = j / 2 * 2 := by omega
        rw [e] at hu ⊢
        rw [p0] at hu; rw [q0, hu]
      · have e : j = j / 2 * 2 + 1 := by omega
        rw [e] at hu ⊢
        rw [p1] at hu; rw [q1, hu]
    · have hk : k < len := by
        rcases Nat.lt_or_ge k len with h | h
        · exact h
        · rw [List.getElem?_eq_none (by omega)] at hf; cases hf
      rw [hfg k hk] at hf
      rw [hvg k hk] at hu
      obtain rfl := Option.some.inj hf
      obtain rfl := Option.some.inj hu
      exact ⟨_, _, rfl, (hB k hk).2.2.1⟩
    · obtain rfl := Option.some.inj e
      exact plain_spot0 (hB 0 (by omega)).1
    · rw [hx]
      have h1 := total_map (D := D) (B := fun i => (B i).1) (fun i hi => (hB i hi).2.2.2) (List.range len) (fun i hi => List.mem_range.1 hi)
      rw [← hfs, List.length_range] at h1
      simp only [bulks.slice_eq]
      omega
    · intro f hf
      rw [hfs] at hf
      obtain ⟨i, hi, rfl⟩ := List.mem_map.1 hf
      have h1 := (hB i (List.mem_range.1 hi)).2.2.2
      have h2 := bulks.part_le (d := D i) (l := (List.range len).map D) (List.mem_map.2 ⟨i, hi, rfl⟩)
      rw [hx]
      simp only [bulks.slice_eq]
      omega

theorem openb_fate {fuel : Nat} {cs : List Value} {x : DataW H × List MemPlace} (h : DataW.trod enc Tryz.prog w base spare held fuel 30 cs = some x) (hsm : Rows.uptoBulk x.1 ≤ 1048576) :
    ∃ pr nd cr dirs pc nc cc cuts, cs = [.slice pr nd cr, .slice pc nc cc] ∧ FateIn w pr nd dirs pc nc cuts ∧ nd + nc ≤ Rows.uptoBulk x.1 := by
  obtain ⟨xs, n, _, hx, hlen, hxl, hf⟩ := DataW.trod_struct Tryz.underlying30 h
  have hc : Tryz.prog.cellsOf 30 = 2 := by kernel_rfl
  rw [hc] at hlen
  obtain ⟨c0, c1, rfl⟩ := len2b hlen
  have h3 : Tryz.prog.cellsOf 27 = 1 := by kernel_rfl
  have h4 : Tryz.prog.cellsOf 28 = 1 := by kernel_rfl
  have k3 : Tryz.prog.cellsOf 3 = 1 := by kernel_rfl
  have k4 : Tryz.prog.cellsOf 4 = 1 := by kernel_rfl
  obtain ⟨y0, y1, rfl⟩ := len2b (hxl.trans (by decide))
  have g0 : DataW.trod enc Tryz.prog w base spare held n 27 (List.take (Tryz.prog.cellsOf 27) [c0, c1]) = some y0 := hf 0 _ rfl
  have g1 : DataW.trod enc Tryz.prog w base spare held n 28 (List.take (Tryz.prog.cellsOf 28) [c1]) = some y1 := hf 1 _ rfl
  rw [h3] at g0
  rw [h4] at g1
  obtain ⟨pr, nd, cr, dirs, e0, l0, _, b0, s0, r0⟩ := open_rowb boolV Tryz.underlying27 k4 decb_bool g0
  obtain ⟨pc, nc, cc, cuts, e1, l1, _, b1, s1, r1⟩ := open_rowb intV Tryz.underlying28 k3 decb_int g1
  have hb : nd + nc ≤ Rows.uptoBulk x.1 := by
    rw [hx]
    simp only [bulks.agg_eq, List.map_cons, List.map_nil, bulks.all_cons, bulks.all_nil]
    omega
  exact ⟨pr, nd, cr, dirs, pc, nc, cc, cuts, by rw [e0, e1], ⟨r0, r1, s0, s1, by omega, by omega⟩, hb⟩

/-- A place, opened. -/
theorem openb_place {fuel : Nat} {cs : List Value} {x : DataW H × List MemPlace} (h : DataW.trod enc Tryz.prog w base spare held fuel 25 cs = some x) (hsm : Rows.uptoBulk x.1 ≤ 1048576) :
    ∃ p L, cs = placeCells p L ∧ PlaceIn w p L ∧ p.plan.length ≤ 1048576 ∧ p.files.length ≤ 1048576 ∧ ∀ f ∈ p.files, f.2.length ≤ 1048576 := by
  obtain ⟨xs, n, _, hx, hlen, hxl, hf⟩ := DataW.trod_struct Tryz.underlying25 h
  have hc : Tryz.prog.cellsOf 25 = 9 := by kernel_rfl
  rw [hc] at hlen
  obtain ⟨c0, c1, c2, c3, c4, c5, c6, c7, c8, rfl⟩ := len9b hlen
  have k3 : Tryz.prog.cellsOf 3 = 1 := by kernel_rfl
  have k4 : Tryz.prog.cellsOf 4 = 1 := by kernel_rfl
  have kf : Tryz.prog.cellsOf 22 = 1 := by kernel_rfl
  have kp : Tryz.prog.cellsOf 23 = 1 := by kernel_rfl
  obtain ⟨y0, y1, y2, y3, y4, y5, y6, y7, y8, rfl⟩ := len9b (hxl.trans (by decide))
  have g0 : DataW.trod enc Tryz.prog w base spare held n 4 (List.take (Tryz.prog.cellsOf 4) [c0, c1, c2, c3, c4, c5, c6, c7, c8]) = some y0 := hf 0 _ rfl
  have g1 : DataW.trod enc Tryz.prog w base spare held n 3 (List.take (Tryz.prog.cellsOf 3) [c1, c2, c3, c4, c5, c6, c7, c8]) = some y1 := hf 1 _ rfl
  have g2 : DataW.trod enc Tryz.prog w base spare held n 22 (List.take (Tryz.prog.cellsOf 22) [c2, c3, c4, c5, c6, c7, c8]) = some y2 := hf 2 _ rfl
  have g3 : DataW.trod enc Tryz.prog w base spare held n 23 (List.take (Tryz.prog.cellsOf 23) [c3, c4, c5, c6, c7, c8]) = some y3 := hf 3 _ rfl
  have g4 : DataW.trod enc Tryz.prog w base spare held n 4 (List.take (Tryz.prog.cellsOf 4) [c4, c5, c6, c7, c8]) = some y4 := hf 4 _ rfl
  have g5 : DataW.trod enc Tryz.prog w base spare held n 4 (List.take (Tryz.prog.cellsOf 4) [c5, c6, c7, c8]) = some y5 := hf 5 _ rfl
  have g6 : DataW.trod enc Tryz.prog w base spare held n 3 (List.take (Tryz.prog.cellsOf 3) [c6, c7, c8]) = some y6 := hf 6 _ rfl
  have g7 : DataW.trod enc Tryz.prog w base spare held n 3 (List.take (Tryz.prog.cellsOf 3) [c7, c8]) = some y7 := hf 7 _ rfl
  have g8 : DataW.trod enc Tryz.prog w base spare held n 3 (List.take (Tryz.prog.cellsOf 3) [c8]) = some y8 := hf 8 _ rfl
  rw [k4] at g0 g4 g5
  rw [k3] at g1 g6 g7 g8
  rw [kf] at g2
  rw [kp] at g3
  obtain ⟨a0, e0, _⟩ := DataW.trod_bool Tryz.underlying4 g0
  obtain ⟨a1, e1, _⟩ := DataW.trod_int Tryz.underlying3 g1
  obtain ⟨fa, nf, fc, fs, vals, e2, lf, hfi, hsp, htot, hff⟩ := openb_files g2
  obtain ⟨pa, np, pc, pl, e3, lp, hcp, hbp, hblk, hrp⟩ := openb_plan g3
  obtain ⟨a4, e4, _⟩ := DataW.trod_bool Tryz.underlying4 g4
  obtain ⟨a5, e5, _⟩ := DataW.trod_bool Tryz.underlying4 g5
  obtain ⟨a6, e6, _⟩ := DataW.trod_int Tryz.underlying3 g6
  obtain ⟨a7, e7, _⟩ := DataW.trod_int Tryz.underlying3 g7
  obtain ⟨a8, e8, _⟩ := DataW.trod_int Tryz.underlying3 g8
  simp only [List.take, List.cons.injEq, and_true] at e0 e1 e4 e5 e6 e7 e8
  have hb : Rows.uptoBulk y2.1 + Rows.uptoBulk y3.1 ≤ 1048576 := by
    rw [hx] at hsm
    simp only [bulks.agg_eq, List.map_cons, List.map_nil, bulks.all_cons, bulks.all_nil] at hsm
    omega
  subst lf lp
  refine ⟨⟨a0, a1, fs, pl, a4, a5, a6, a7, a8⟩, ⟨fa, fc, pa, pc⟩, ?_, ⟨⟨vals, hfi⟩, hsp, hrp, by show fs.length ≤ _; omega, by show Drv.total fs ≤ _; omega, fun f hf => ?_, by show pl.length * 16 ≤ _; omega, hblk, hcp⟩, by show pl.length ≤ _; omega, by show fs.length ≤ _; omega, fun f hf => ?_⟩
  · subst e0 e1 e4 e5 e6 e7 e8
    simp only [placeCells, ← e2, ← e3]
  · have := hff f hf; omega
  · have := hff f hf; show f.2.length ≤ _; omega
end
end Go.Proofs.YtdmcjomcbhdcbaaGreat
namespace Go.Proofs.YtdmcjomcbhdcbaaGreat
open Go.RowKit Go.Maps

theorem strInfo : (Tryz.prog.info? 9).map (fun i => (i.zero, i.size, i.bytes)) = some (some (.string ⟨#[]⟩), 1, 16) := by kernel_rfl
theorem dents_map_fst (D : Dir) (k : Nat) : ((dents D).take k).map (·.1) = (dnames D).take k := by rw [List.map_take, dents_fst]

theorem mlist_nil (w : World) : Calls Tryz.prog 108 #[.pointer none] w fun e w' => e = .returned (.tuple #[.slice none 0 0, .int .i64 1]) ∧ w = w' := by
  go_enter Tryz.func108, Tryz.ntmps108
  go_wp2
  go_ret2
  exact ⟨rfl, rfl⟩
set_option maxRecDepth 100000 in
set_option maxHeartbeats 2000000 in
theorem mlist_any (p : Nat) (S : Drv) (F : Nat → Prop) (w : World) (hd : Md w p S F) (hsz : size S.now ≤ 1099511627776) :
    Calls Tryz.prog 108 #[.pointer (some ⟨p, 0, none⟩)] w fun e w' =>
      ∃ v, e = .returned (.tuple #[v, .int .i64 0]) ∧ w'.ownsRow w.heap.size 9 1 v (dnames S.now).length ((dnames S.now).map strV) ∧ Below w.heap.size w w' := by
  obtain ⟨L, h, hF⟩ := hd
  obtain ⟨i0, hi0, hz0, hz1, hz2⟩ := info_parts strInfo
  obtain ⟨an, cn, hvn, _⟩ := own_shape h.rows.now
  have c2 : w.cell? ⟨p, 2, none⟩ = some (.slice an (dents S.now).length cn) := by have := h.head.cell 2; rw [this]; show some L.vn = _; rw [hvn]
  have hrow := h.rows.now
  rw [hvn] at hrow
  have hpl := h.head.lt
  obtain ⟨n, hn⟩ : ∃ n, n = (dents S.now).length := ⟨_, rfl⟩
  rw [← hn] at c2 hrow
  have hnb : n ≤ 1099511627776 := by rw [hn, dents_length]; exact hsz
  have HN := Lib.hid hn.symm
  have HR := Lib.hid hrow
  clear h hF hvn hrow hn hsz
  go_enter Tryz.func108, Tryz.ntmps108
  go_wp2
  go_loopw [4, 5] (fun v i wr => ∃ k : Nat, k ≤ n ∧ i = .int .i64 k ∧ wr.ownsRow w.heap.size 9 1 v k (((dnames S.now).take k).map strV) ∧ Below w.heap.size w wr) (fun _ i _ => n - (intOf i).toNat)
  case atStart => exact ⟨0, Nat.zero_le _, rfl, World.ownsRow_nil _ _ _ _, Below.refl _ _⟩
  case round =>
    obtain ⟨k, hk, rfl, hown, hbel⟩ := hrel
    have hszz : w.heap.size ≤ wr.heap.size := hbel.size
    have y2 : wr.cell? ⟨p, 2, none⟩ = some (.slice an n cn) := (hbel.cell (p := ⟨p, 2, none⟩) hpl).trans c2
    obtain ⟨av, cv, rfl, _⟩ := own_shape hown
    have HO := Lib.hid hown
    have HB := Lib.hid hbel
    clear hown hbel
    by_cases hlt : k < n
    · obtain ⟨⟨t, i⟩, hti⟩ : ∃ x, (dents S.now)[k]? = some x := ⟨_, List.getElem?_eq_getElem (by rw [HN.out]; exact hlt)⟩
      obtain ⟨b, rfl, hbl, x1, x2⟩ := row_pair HR.out hti HN.out
      simp only [strV] at x1
      have y1 : wr.cell? ⟨b, k * 2, none⟩ = some (.string ⟨t.toArray⟩) := (HB.out.cell (p := ⟨b, k * 2, none⟩) hbl).trans x1
      have HT : Hid ((dnames S.now)[k]? = some t) := Lib.hid (by rw [← dents_fst, List.getElem?_map, hti]; rfl)
      clear x1 x2 hti
      go_wp2_with (at_builtin; go_must (refine wpList_append_any _ rfl (.tmp 17) (.tmp 26) 97 rfl w.heap.size 9 i0 _ 1 16 Tryz.underlying97 hi0 hz0 hz1 hz2 rfl (by omega) _ k _ rfl (HO.out.alloc _) (wr.heap.size + 1) (some ⟨wr.heap.size, 0, none⟩) 1 1 [.string ⟨t.toArray⟩] rfl (by exact reads_blk (t := 9) (blk_last _ _ _ _ rfl) (by omega) rfl) (by intro u hu; simp at hu; subst hu; rfl) (by simp only [maxLen]; omega) (by omega) (by simp; omega) ?_); intro v1 w1 hown1 hg1 hat1; have HO1 := Lib.hid hown1; have HB1 : Hid (Below w.heap.size w w1) := Lib.hid ((HB.out.alloc hszz _).grown hg1 (by simp; omega) (fun k hk => (HO.out.lt k hk).1)); clear hown1 hg1 hat1)
      go_roundw
      case rel =>
        refine ⟨k + 1, by omega, by go_num, ?_, HB1.out⟩
        rw [take_snoc_ HT.out, List.map_append]; exact HO1.out
      case measure => simp [intOf]; omega
    · go_wp2
      go_ret2
      have hkn : k = n := by omega
      have hl : (dnames S.now).length = k := by rw [← dents_fst, List.length_map, HN.out, hkn]
      have ht : (dnames S.now).take k = dnames S.now := List.take_of_length_le (by omega)
      refine ⟨_, rfl, ?_, HB.out⟩
      rw [hl]
      have := HO.out
      rw [ht] at this; exact this

def usedK (S : Drv) (l : List Ent) : Nat := (l.map fun e => S.len e.2).sum
theorem usedK_snoc (S : Drv) (l : List Ent) (e : Ent) : usedK S (l ++ [e]) = usedK S l + S.len e.2 := by unfold usedK; simp
theorem usedK_take (S : Drv) (l : List Ent) (k : Nat) : usedK S (l.take k) ≤ usedK S l := by
  unfold usedK
  rw [List.map_take]
  have e := congrArg List.sum (List.take_append_drop k (l.map fun e : Ent => S.len e.2))
  rw [List.sum_append] at e; omega
set_option maxRecDepth 100000 in
set_option maxHeartbeats 2000000 in
theorem mused_any (p : Nat) (S : Drv) (F : Nat → Prop) (w : World) (hd : Md w p S F) (hS : MOk S) (hu : usedK S (dents S.now) ≤ 1152921504606846976) :
    Calls Tryz.prog 127 #[.pointer (some ⟨p, 0, none⟩)] w fun e w' => e = .returned (.int .i64 (usedK S (dents S.now))) ∧ ∃ n, w' = w.drewN n := by
  obtain ⟨L, h, hF⟩ := hd
  obtain ⟨an, cn, hvn, _⟩ := own_shape h.rows.now
  have c2 : w.cell? ⟨p, 2, none⟩ = some (.slice an (dents S.now).length cn) := by have := h.head.cell 2; rw [this]; show some L.vn = _; rw [hvn]
  have c1 : w.cell? ⟨p, 1, none⟩ = some L.vb := h.head.cell 1
  have hrow := h.rows.now
  rw [hvn] at hrow
  obtain ⟨n, hn⟩ : ∃ n, n = (dents S.now).length := ⟨_, rfl⟩
  rw [← hn] at c2 hrow
  have hnb : n ≤ 1099511627776 := by rw [hn, dents_length]; exact hS.snow
  have HN := Lib.hid hn.symm
  have HR := Lib.hid hrow
  have HH := Lib.hid h
  have HS := Lib.hid hS
  have HE := Lib.hid (dents_ents hS.now)
  have HU := Lib.hid hu
  clear h hF hvn hrow hn hS hu
  go_enter Tryz.func127, Tryz.ntmps127
  go_wp2
  go_loopw [3, 4] (fun s i wr => ∃ k : Nat, k ≤ n ∧ i = .int .i64 k ∧ s = .int .i64 (usedK S ((dents S.now).take k)) ∧ ∃ m, wr = w.drewN m) (fun _ i _ => n - (intOf i).toNat)
  case atStart => exact ⟨0, Nat.zero_le _, rfl, rfl, 0, rfl⟩
  case round =>
    obtain ⟨k, hk, rfl, rfl, m, hm⟩ := hrel
    have y2 : wr.cell? ⟨p, 2, none⟩ = some (.slice an n cn) := by rw [hm]; exact c2
    have HM := Lib.hid hm
    by_cases hlt : k < n
    · obtain ⟨⟨t, i⟩, hti⟩ : ∃ x, (dents S.now)[k]? = some x := ⟨_, List.getElem?_eq_getElem (by rw [HN.out]; exact hlt)⟩
      obtain ⟨b, rfl, hbl, x1, x2⟩ := row_pair HR.out hti HN.out
      simp only [intZ] at x2
      have hi : i < S.bodies.length := HS.out.rlt t i (ents_get HE.out hti)
      obtain ⟨g, c, ad, cd, hv, hgl, hnc, hda, hcd, z1, z2, _⟩ := bod_get HH.out.rows hi
      obtain ⟨nb, hnb2⟩ : ∃ nb, nb = S.bodies.length := ⟨_, rfl⟩
      have hnbl := HS.out.nb
      have hleni := HS.out.len i
      have y1 : wr.cell? ⟨p, 1, none⟩ = some (.slice (some ⟨g, 0, none⟩) nb c) := by rw [hm, hnb2, ← hv]; exact c1
      have y3 : wr.cell? ⟨b, k * 2 + 1, none⟩ = some (.int .i64 i) := by rw [hm]; exact x2
      have y4 : wr.cell? ⟨g, i * 2, none⟩ = some (.slice ad (S.len i) cd) := by rw [hm]; exact z1
      rw [← hnb2] at hi hnc hnbl
      have HST : Hid (usedK S ((dents S.now).take (k + 1)) = usedK S ((dents S.now).take k) + S.len i) := Lib.hid (by rw [take_snoc_ hti, usedK_snoc])
      have hub : usedK S ((dents S.now).take k) + S.len i ≤ 1152921504606846976 := by
        have h1 := usedK_take S (dents S.now) (k + 1)
        have h2 := HU.out
        have h3 := HST.out
        omega
      have hi0 : (0 : Int) ≤ (i : Int) := by omega
      have hi1 : (i : Int) < (nb : Int) := by omega
      have hk0 : (0 : Int) ≤ (k : Int) := by omega
      have hk1 : (k : Int) < (n : Int) := by omega
      obtain ⟨u0, hu0⟩ : ∃ u0, u0 = usedK S ((dents S.now).take k) := ⟨_, rfl⟩
      obtain ⟨li, hli⟩ : ∃ li, li = S.len i := ⟨_, rfl⟩
      rw [← hu0, ← hli] at hub
      rw [← hli] at y4 hleni
      rw [← hu0]
      have HU0 := Lib.hid hu0
      have HLI := Lib.hid hli
      have hw1 : IntKind.i64.wrap ((u0 : Int) + (li : Int)) = (u0 : Int) + (li : Int) := IntWalk.i64_in _ (by omega)
      clear hm x1 x2 hti hv hda z1 z2 hnb2 hu0 hli
      go_wp2
      go_quiet (fail)
      clear hw1
      refine exit_world fun X hX => ?_
      have HX : Hid (∃ m, X = w.drewN m) := Lib.hid (by rw [hX, HM.out]; exact ⟨_, World.drewN_drewN _ _ _⟩)
      clear hX
      go_wp2
      go_roundw
      case rel =>
        refine ⟨k + 1, by omega, by go_num, ?_, HX.out⟩
        rw [HST.out, ← HU0.out, ← HLI.out]; go_num
      case measure => simp [intOf]; omega
    · go_wp2
      go_ret
      have ht : (dents S.now).take k = dents S.now := List.take_of_length_le (by rw [HN.out]; omega)
      rw [ht]
      exact ⟨rfl, m, rfl⟩
end Go.Proofs.YtdmcjomcbhdcbaaGreat
