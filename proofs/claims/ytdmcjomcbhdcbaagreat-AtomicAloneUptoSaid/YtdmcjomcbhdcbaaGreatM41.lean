/- AtomicSwept, walked: over a place with a drive.; AtomicSwept, walked: over a place without a drive.; The files of a drive ahead of a writing and behind it: where they are not what they should be. (Printed by gen_Te.py.) -/
import Derived.Test.YtdmcjomcbhdcbaaGreatM40
import Derived.Test.YtdmcjomcbhdcbaaGreatM39
import Derived.Test.YtdmcjomcbhdcbaaGreatM38
import Derived.Deep.DeepCutAuto
import Derived.BigQuiet
namespace Go.Proofs.YtdmcjomcbhdcbaaGreat
open Go.RowKit Go.Maps

/-- Make, behind whatever ran ahead of it. -/
theorem make_behind (w : World) (x : PPlace) (L : PlLay) (hx : PlaceIn w x L) (hok : x.ok = true) (W1 : World) (hb1 : Below w.heap.size w W1) :
    Calls Tryz.prog 9 #[.slice (some ⟨W1.heap.size, 0, none⟩) 1 1] (W1.alloc (.cells (placeCells x L).toArray 25)) fun e w' => ∃ dg dc wg wc mg mc q p mq mp Av, e = .returned (.tuple #[bothV dg dc wg wc mg mc, .bool true]) ∧ World1 w' (W1.heap.size + 1) Av dg wg mg q p mq mp x.wnd x.drv x.wnd x.drv ∧ Caps dc wc mc ∧ Below W1.heap.size W1 w' ∧ W1.heap.size + 1 ≤ w'.heap.size := by
  have hb : Below W1.heap.size W1 (W1.alloc (.cells (placeCells x L).toArray 25)) := (Below.refl _ _).alloc (Nat.le_refl _) _
  have hbw : Below w.heap.size w (W1.alloc (.cells (placeCells x L).toArray 25)) := hb1.trans (hb.mono hb1.size)
  have hpi : PlaceIn (W1.alloc (.cells (placeCells x L).toArray 25)) x L := by
    obtain ⟨⟨vals, hf⟩, h2, h3, h4, h5, h6, h7, h8, h9⟩ := hx
    exact ⟨⟨vals, hf.keep hbw⟩, h2, (h3.below hbw).more hbw.size, h4, h5, h6, h7, fun ad e h0 => Nat.lt_of_lt_of_le (h8 ad e h0) hbw.size, h9⟩
  have hbl : Blk (W1.alloc (.cells (placeCells x L).toArray 25)) W1.heap.size 25 (placeCells x L).toArray := blk_last _ _ _ _ (by simp)
  refine (make_yes _ x L hpi hok W1.heap.size 0 1 (by simp) (by omega) fun j u hu => ?_).mono ?_
  · rw [Nat.zero_add, hbl.cell j]
    simpa using hu
  · rintro e w' ⟨dg, dc, wg, wc, mg, mc, q, p, mq, mp, Av, he, h1, h2, h3⟩
    rw [show (W1.alloc (.cells (placeCells x L).toArray 25)).heap.size = W1.heap.size + 1 by simp] at h1
    exact ⟨dg, dc, wg, wc, mg, mc, q, p, mq, mp, Av, he, h1, h2, hb.trans (h3.mono (by simp)), by have := h3.size; simp at this; omega⟩
theorem FilesAt.fr {w w' : World} {base h : Nat} {v : Value} {fs : List File} {Av : Nat → Prop} (hf : FilesAt w base v fs) (ht : Touch (fr h Av) w w') (hA : ∀ k, base ≤ k → k < w.heap.size → Av k) : FilesAt w' base v fs :=
  hf.touch ht fun k h1 h2 hk => hk.2 (hA k h1 h2)
theorem World1.qcell {w : World} {h dg wg mg q p mq mp : Nat} {Av : Nat → Prop} {X Y : Wnd} {S T : Drv} (hT : World1 w h Av dg wg mg q p mq mp X S Y T) : w.cell? ⟨q, 0, none⟩ = some (.pointer (some ⟨p, 0, none⟩)) ∧ q < w.heap.size := by
  obtain ⟨F, hd⟩ := hT.wd
  exact ⟨hd.head, by obtain ⟨pv, fq, hw, _⟩ := hd.wn; exact hw.head.lt⟩

set_option maxRecDepth 100000 in
set_option maxHeartbeats 8000000 in
theorem swept_yes (w : World) (x : PPlace) (L : PlLay) (hx : PlaceIn w x L) (hok : x.ok = true) (A : Option Addr) (n c : Nat) (xs : List (PStp × SLay)) (hn : n = xs.length) (hnc : n ≤ c) (hst : StepsIn w w.heap.size A xs) (hn2 : n ≤ 1048576) (N r : Nat) (hK : KeptM x.wnd x.drv 0 N r) (hN : N ≤ 1048576)
    (pr : Option Addr) (nd cr : Nat) (dirs : List Bool) (pcu : Option Addr) (nc cc : Nat) (cuts : List Int) (hft : FateIn w pr nd dirs pcu nc cuts) :
    Calls Tryz.prog 6 #[.agg (placeCells x L).toArray, .slice A n c, .agg #[.slice pr nd cr, .slice pcu nc cc]] w fun e w' => e = .returned (.bool true) ∧ Below w.heap.size w w' := by
  have HMK : Hid (∀ W1, Below w.heap.size w W1 → Calls Tryz.prog 9 #[.slice (some ⟨W1.heap.size, 0, none⟩) 1 1] (W1.alloc (.cells (placeCells x L).toArray 25)) fun e w' => ∃ dg dc wg wc mg mc q p mq mp Av, e = .returned (.tuple #[bothV dg dc wg wc mg mc, .bool true]) ∧ World1 w' (W1.heap.size + 1) Av dg wg mg q p mq mp x.wnd x.drv x.wnd x.drv ∧ Caps dc wc mc ∧ Below W1.heap.size W1 w' ∧ W1.heap.size + 1 ≤ w'.heap.size) := Lib.hid fun W1 hb1 => make_behind w x L hx hok W1 hb1
  have HN := Lib.hid hn
  have HST := Lib.hid hst
  have HKM := Lib.hid hK
  have HFT := Lib.hid hft
  generalize x.wnd = X0 at HMK HKM
  generalize x.drv = S0 at HMK HKM
  clear hx hok hn hst hK hft
  obtain ⟨there, room, fs, plan, off, fused, R, C, I⟩ := x
  obtain ⟨fa, fc, pa, plc⟩ := L
  obtain ⟨nf, hnf⟩ : ∃ nf, nf = fs.length := ⟨_, rfl⟩
  obtain ⟨np, hnp⟩ : ∃ np, np = plan.length := ⟨_, rfl⟩
  unfold placeCells bothV at HMK
  unfold placeCells
  simp only at HMK ⊢
  rw [← hnf, ← hnp] at HMK
  rw [← hnf, ← hnp]
  clear hnf hnp
  go_enter Tryz.func6, Tryz.ntmps6
  go_upto_region 1 with fail
  refine wp_world fun V0 hV0 => ?_
  have hb0 : Below w.heap.size w V0 := by rw [hV0]; exact ((Below.refl _ _).alloc (Nat.le_refl _) _).alloc (by simp) _
  have HPB0 : Hid (Blk V0 w.heap.size 25 #[.bool there, .int .i64 room, .slice fa nf fc, .slice pa np plc, .bool off, .bool fused, .int .i64 R, .int .i64 C, .int .i64 I]) := Lib.hid (by rw [hV0]; exact (Blk.new _ _ _).alloc _)
  have HFB0 : Hid (Blk V0 (w.heap.size + 1) 30 #[.slice pr nd cr, .slice pcu nc cc]) := Lib.hid (by rw [hV0]; exact blk_last _ _ _ _ (by simp))
  have hs0 : w.heap.size + 2 = V0.heap.size := by rw [hV0]; simp
  have HB0 := Lib.hid hb0
  clear hV0 hb0
  go_upto_region 3 with (go_at_call 8; refine (awake_any V0).mono ?_; rintro e W1 ⟨rfl, hb1⟩; have HB1 := Lib.hid hb1; have hpb1 := HPB0.out.below hb1 HPB0.out.lt; have p0 := hpb1.cell 0; have p1 := hpb1.cell 1; have p2 := hpb1.cell 2; have p3 := hpb1.cell 3; have p4 := hpb1.cell 4; have p5 := hpb1.cell 5; have p6 := hpb1.cell 6; have p7 := hpb1.cell 7; have p8 := hpb1.cell 8; simp at p0 p1 p2 p3 p4 p5 p6 p7 p8; clear hb1 hpb1)
  have HFB1 : Hid (Blk W1 (w.heap.size + 1) 30 #[.slice pr nd cr, .slice pcu nc cc]) := Lib.hid (HFB0.out.below HB1.out HFB0.out.lt)
  have hs1 : V0.heap.size ≤ W1.heap.size := HB1.out.size
  have HBW1 : Hid (Below w.heap.size w W1) := Lib.hid (HB0.out.trans (HB1.out.mono (by omega)))
  have hw1l : w.heap.size < W1.heap.size := by omega
  go_upto_region 4 with (first
    | (go_at_call 9; (refine (HMK.out _ HBW1.out).mono ?_); rintro e w1 ⟨dg, dc, wg, wc, mg, mc, q, p, mq, mp, Av, rfl, hT1, hcap, hb1, hsw⟩; have HT1 := Lib.hid hT1; have HCAP := Lib.hid hcap; have HBM := Lib.hid hb1; clear hT1 hcap hb1)
    | fail)
  clear p0 p1 p2 p3 p4 p5 p6 p7 p8
  refine wp_world fun W2 hW2 => ?_
  have hb12 : Below w1.heap.size w1 W2 := by rw [hW2]; exact (Below.refl _ w1).alloc (Nat.le_refl _) _
  have hs2 : W2.heap.size = w1.heap.size + 1 := by rw [hW2]; simp
  have hbk : Blk W2 w1.heap.size 36 #[.slice (some ⟨dg, 0, none⟩) 1 dc, .slice (some ⟨wg, 0, none⟩) 1 wc, .slice (some ⟨mg, 0, none⟩) 1 mc] := by rw [hW2]; exact blk_last _ _ _ _ rfl
  have HB2 : Hid (Below W1.heap.size W1 W2) := Lib.hid (HBM.out.trans (hb12.mono (by omega)))
  have hT2 := HT1.out.boxed hb12
  rw [hs2] at hT2
  have HT2 := Lib.hid hT2
  obtain ⟨h, hh⟩ : ∃ h, h = W1.heap.size + 1 := ⟨_, rfl⟩
  rw [← hh] at HT2
  have HHW : Hid (h ≤ W2.heap.size) := Lib.hid (by omega)
  have HBK : Hid (∀ Z, Touch (fr h (fun k => Av k ∨ (w1.heap.size ≤ k ∧ k < w1.heap.size + 1))) W2 Z → Z.cell? ⟨w1.heap.size, 0, none⟩ = some (.slice (some ⟨dg, 0, none⟩) 1 dc) ∧ Z.cell? ⟨w1.heap.size, 1, none⟩ = some (.slice (some ⟨wg, 0, none⟩) 1 wc) ∧ Z.cell? ⟨w1.heap.size, 2, none⟩ = some (.slice (some ⟨mg, 0, none⟩) 1 mc) ∧ Z.cell? ⟨w.heap.size + 1, 0, none⟩ = some (.slice pr nd cr) ∧ Z.cell? ⟨w.heap.size + 1, 1, none⟩ = some (.slice pcu nc cc)) := Lib.hid fun Z hZ => by
    have e : Z.heap[w1.heap.size]? = W2.heap[w1.heap.size]? := fr_av hZ (.inr (by omega)) (by omega)
    have hb2 : Blk Z w1.heap.size 36 _ := e.trans hbk
    have hf1 : Blk W2 (w.heap.size + 1) 30 _ := HFB1.out.below HB2.out HFB1.out.lt
    have e2 : Z.heap[w.heap.size + 1]? = W2.heap[w.heap.size + 1]? := hZ.block _ (by omega) (fun hf => by have := hf.1; omega)
    have hf2 : Blk Z (w.heap.size + 1) 30 _ := e2.trans hf1
    exact ⟨hb2.cell 0, hb2.cell 1, hb2.cell 2, hf2.cell 0, hf2.cell 1⟩
  have HBZ : Hid (∀ Z, Touch (fr h (fun k => Av k ∨ (w1.heap.size ≤ k ∧ k < w1.heap.size + 1))) W2 Z → Below w.heap.size w Z) := Lib.hid fun Z hZ => by
    have h1 : Below h W2 Z := fr_below hZ (by omega)
    exact (HBW1.out.trans (HB2.out.mono (by omega))).trans (h1.mono (by omega))
  obtain ⟨b0, b1, b2, _, _⟩ := HBK.out W2 (Touch.refl _ _)
  have hcap1 := HCAP.out.u
  have hwc : (0 : Int) < ((1 : Nat) : Int) := by omega
  have hrw := hT2.rows.u
  have hwl : wg < W2.heap.size := hT2.rows.ul
  have HHH := Lib.hid hh
  clear hW2 hb12 hbk hT2 hs2 hh
  go_upto_region 10 with fail
  go_wp2
  go_loopw [12] (fun s12 wr => ∃ j : Nat, j ≤ n ∧ s12 = .int .i64 j ∧ (∃ X S, KeptM X S (5 * j) (N + 5 * j) r ∧ World1 wr h (fun k => Av k ∨ (w1.heap.size ≤ k ∧ k < w1.heap.size + 1)) dg wg mg q p mq mp X S X S) ∧ Touch (fr h (fun k => Av k ∨ (w1.heap.size ≤ k ∧ k < w1.heap.size + 1))) W2 wr) (fun s12 _ => n - (intOf s12).toNat)
  case atStart => exact ⟨0, Nat.zero_le _, rfl, ⟨X0, S0, HKM.out, HT2.out⟩, Touch.refl _ _⟩
  case round =>
    obtain ⟨j, hj, rfl, ⟨X2, S2, hk2, hT5⟩, ht5⟩ := hrel
    have HK2 := Lib.hid hk2
    have HT5 := Lib.hid hT5
    have HTT5 := Lib.hid ht5
    obtain ⟨b0, b1, b2, _, _⟩ := HBK.out wr ht5
    have HBR := Lib.hid (HBZ.out wr ht5)
    have hwr : W2.heap.size ≤ wr.heap.size := ht5.size
    clear hk2 hT5 ht5
    by_cases hlt : j < n
    · obtain ⟨xl, hxl⟩ : ∃ xl, xs[j]? = some xl := ⟨_, List.getElem?_eq_getElem (by rw [← HN.out]; exact hlt)⟩
      obtain ⟨g, o, rfl, hg, hcl⟩ := HST.out.at_ j xl hxl
      have hmem := List.mem_of_getElem? hxl
      have hsi := HST.out.step xl hmem
      have hai := HST.out.act xl hmem
      have hfa := HST.out.fa xl hmem
      obtain ⟨⟨kind, nm, data, ⟨ak, ap, aa, an, adata, aplan, aR, aC, aI⟩⟩, ⟨da, dcc, ⟨ada, adc, apa, apc, afa, afn, afc⟩⟩⟩ := xl
      simp only at hsi hai hfa hcl
      have HSM : Hid (∀ V, Below wr.heap.size wr V → Calls Tryz.prog 25 #[.agg #[.slice (some ⟨dg, 0, none⟩) 1 dc, .slice (some ⟨wg, 0, none⟩) 1 wc, .slice (some ⟨mg, 0, none⟩) 1 mc], .agg #[.int .i64 kind, .string ⟨nm.toArray⟩, .slice da data.length dcc, .int .i64 ak, .int .i64 ap, .int .i64 aa, .int .i64 an, .slice ada adata.length adc, .slice apa aplan.length apc, .int .i64 aR, .int .i64 aC, .int .i64 aI, .slice afa afn afc]] V fun e w' => e = .returned (.bool true) ∧ (∃ X S, KeptM X S (5 * (j + 1)) (N + 5 * (j + 1)) r ∧ World1 w' h (fun k => Av k ∨ (w1.heap.size ≤ k ∧ k < w1.heap.size + 1)) dg wg mg q p mq mp X S X S) ∧ Touch (fr h (fun k => Av k ∨ (w1.heap.size ≤ k ∧ k < w1.heap.size + 1))) W2 w') := Lib.hid fun V hV => by
        have hbV : Below w.heap.size w V := HBR.out.trans (hV.mono HBR.out.size)
        have h1 := HHW.out
        have h2 := HHH.out
        have j2 := same_any V h dg dc wg wc mg mc q p mq mp _ X2 S2 (HT5.out.below hV) (by have h2 := hV.size; omega) HCAP.out ⟨kind, nm, data, ⟨ak, ap, aa, an, adata, aplan, aR, aC, aI⟩⟩ ⟨da, dcc, ⟨ada, adc, apa, apc, afa, afn, afc⟩⟩ (hsi.far hbV (by omega)) (hai.far hfa hbV (by omega) (Nat.le_refl _)) HK2.out (by omega) (by omega)
        unfold bothV stepCells at j2
        refine j2.mono ?_
        rintro e w' ⟨he, ⟨X, S, h1, h2⟩, h3⟩
        exact ⟨he, ⟨X, S, by rw [show 5 * (j + 1) = 5 * j + 5 by omega, show N + (5 * j + 5) = N + 5 * j + 5 by omega]; exact h1, h2⟩, (HTT5.out.then_ (Touch.of_below hV)).then_ h3⟩
      obtain ⟨dl, hdl⟩ : ∃ dl, dl = data.length := ⟨_, rfl⟩
      obtain ⟨adl, hadl⟩ : ∃ adl, adl = adata.length := ⟨_, rfl⟩
      obtain ⟨apl, hapl⟩ : ∃ apl, apl = aplan.length := ⟨_, rfl⟩
      rw [← hdl, ← hadl, ← hapl] at HSM
      have HQS : Hid (∀ Z, Touch (fr h (fun k => Av k ∨ (w1.heap.size ≤ k ∧ k < w1.heap.size + 1))) W2 Z → Z.cell? ⟨w1.heap.size, 0, none⟩ = some (.slice (some ⟨dg, 0, none⟩) 1 dc) ∧ Z.cell? ⟨w1.heap.size, 1, none⟩ = some (.slice (some ⟨wg, 0, none⟩) 1 wc) ∧ Z.cell? ⟨w1.heap.size, 2, none⟩ = some (.slice (some ⟨mg, 0, none⟩) 1 mc) ∧ Z.cell? ⟨g, o + j * 13, none⟩ = some (.int .i64 kind) ∧ Z.cell? ⟨g, o + j * 13 + 1, none⟩ = some (.string ⟨nm.toArray⟩) ∧ Z.cell? ⟨g, o + j * 13 + 2, none⟩ = some (.slice da dl dcc) ∧ Z.cell? ⟨g, o + j * 13 + 3, none⟩ = some (.int .i64 ak) ∧ Z.cell? ⟨g, o + j * 13 + 4, none⟩ = some (.int .i64 ap) ∧ Z.cell? ⟨g, o + j * 13 + 5, none⟩ = some (.int .i64 aa) ∧ Z.cell? ⟨g, o + j * 13 + 6, none⟩ = some (.int .i64 an) ∧ Z.cell? ⟨g, o + j * 13 + 7, none⟩ = some (.slice ada adl adc) ∧ Z.cell? ⟨g, o + j * 13 + 8, none⟩ = some (.slice apa apl apc) ∧ Z.cell? ⟨g, o + j * 13 + 9, none⟩ = some (.int .i64 aR) ∧ Z.cell? ⟨g, o + j * 13 + 10, none⟩ = some (.int .i64 aC) ∧ Z.cell? ⟨g, o + j * 13 + 11, none⟩ = some (.int .i64 aI) ∧ Z.cell? ⟨g, o + j * 13 + 12, none⟩ = some (.slice afa afn afc)) := Lib.hid fun Z hZ => by
        obtain ⟨z0, z1, z2, _, _⟩ := HBK.out Z hZ
        have hbZ : Below w.heap.size w Z := HBZ.out Z hZ
        have hc : ∀ i u, (stepCells ⟨kind, nm, data, ⟨ak, ap, aa, an, adata, aplan, aR, aC, aI⟩⟩ ⟨da, dcc, ⟨ada, adc, apa, apc, afa, afn, afc⟩⟩)[i]? = some u → Z.cell? ⟨g, o + j * 13 + i, none⟩ = some u := fun i u hu => (hbZ.cell (p := ⟨g, o + j * 13 + i, none⟩) hg).trans (hcl i u hu)
        refine ⟨z0, z1, z2, by exact hc 0 _ rfl, by exact hc 1 _ rfl, by rw [hdl]; exact hc 2 _ rfl, by exact hc 3 _ rfl, by exact hc 4 _ rfl, by exact hc 5 _ rfl, by exact hc 6 _ rfl, by rw [hadl]; exact hc 7 _ rfl, by rw [hapl]; exact hc 8 _ rfl, by exact hc 9 _ rfl, by exact hc 10 _ rfl, by exact hc 11 _ rfl, by exact hc 12 _ rfl⟩
      obtain ⟨y0, y1, y2, y3, y4, y5, y6, y7, y8, y9, y10, y11, y12, y13, y14, y15⟩ := HQS.out wr HTT5.out
      have i0 : (0 : Int) ≤ (j : Int) := by omega
      have i1 : (j : Int) < (n : Int) := by omega
      clear hxl hcl hmem hsi hai hfa hdl hadl hapl b0 b1 b2
      go_wp2
      go_region_held3 (fun Z => Z.cell? ⟨w1.heap.size, 0, none⟩ = some (.slice (some ⟨dg, 0, none⟩) 1 dc) ∧ Z.cell? ⟨w1.heap.size, 1, none⟩ = some (.slice (some ⟨wg, 0, none⟩) 1 wc) ∧ Z.cell? ⟨w1.heap.size, 2, none⟩ = some (.slice (some ⟨mg, 0, none⟩) 1 mc) ∧ Z.cell? ⟨g, o + j * 13, none⟩ = some (.int .i64 kind) ∧ Z.cell? ⟨g, o + j * 13 + 1, none⟩ = some (.string ⟨nm.toArray⟩) ∧ Z.cell? ⟨g, o + j * 13 + 2, none⟩ = some (.slice da dl dcc) ∧ Z.cell? ⟨g, o + j * 13 + 3, none⟩ = some (.int .i64 ak) ∧ Z.cell? ⟨g, o + j * 13 + 4, none⟩ = some (.int .i64 ap) ∧ Z.cell? ⟨g, o + j * 13 + 5, none⟩ = some (.int .i64 aa) ∧ Z.cell? ⟨g, o + j * 13 + 6, none⟩ = some (.int .i64 an) ∧ Z.cell? ⟨g, o + j * 13 + 7, none⟩ = some (.slice ada adl adc) ∧ Z.cell? ⟨g, o + j * 13 + 8, none⟩ = some (.slice apa apl apc) ∧ Z.cell? ⟨g, o + j * 13 + 9, none⟩ = some (.int .i64 aR) ∧ Z.cell? ⟨g, o + j * 13 + 10, none⟩ = some (.int .i64 aC) ∧ Z.cell? ⟨g, o + j * 13 + 11, none⟩ = some (.int .i64 aI) ∧ Z.cell? ⟨g, o + j * 13 + 12, none⟩ = some (.slice afa afn afc)) (first | (with_reducible exact (HQS.out _ HTT6.out)) | go_keep) ((first
        | (go_at_call 25; (refine (HSM.out _ (by first | exact Below.refl _ _ | exact below_drew1 (Below.refl _ _))).mono ?_); rintro e w6 ⟨rfl, ⟨X6, S6, hk6, hT6⟩, ht6⟩; have HK6 := Lib.hid hk6; have HT6 := Lib.hid hT6; have HTT6 := Lib.hid ht6; clear hk6 hT6 ht6)
        | fail))
      all_goals
        go_wp2
        exact ⟨⟨j + 1, by omega, by go_num, ⟨X6, S6, HK6.out, HT6.out⟩, HTT6.out⟩, by simp only [intOf]; omega⟩
    · have hjn : j = n := by omega
      subst hjn
      obtain ⟨W5, hW5⟩ : ∃ W5, W5 = wr := ⟨_, rfl⟩
      rw [← hW5] at HT5 HTT5 HBR hwr ⊢ b0 b1 b2
      clear hW5
      obtain ⟨q5, q5l⟩ := HT5.out.qcell
      -- what stands ahead of the sweep
      have hI2 := HK2.out.k.drv
      obtain ⟨m2, hm2⟩ : ∃ m, m = S2.image.length := ⟨_, rfl⟩
      have hm2l : m2 ≤ 1073741824 := by rw [hm2]; exact Nat.le_trans (image_len hI2) hI2.rooms
      have HM2 := Lib.hid hm2
      go_wp2_with fail
      refine (wimage1 HT5.out HK2.out).mono ?_
      rintro e W6 ⟨v, rfl, hf6, hb6⟩
      obtain ⟨a6, c6, rfl, _⟩ := hf6.shape
      rw [← hm2] at hf6 ⊢
      have HF6 := Lib.hid hf6
      have HB6 := Lib.hid hb6
      have hs6 : W5.heap.size ≤ W6.heap.size := hb6.size
      have hh5 : h ≤ W5.heap.size := Nat.le_trans HHW.out hwr
      have HT6 := Lib.hid (HT5.out.boxed hb6)
      obtain ⟨X7, S7, n7, x7, hy⟩ : ∃ a b c d, asweep X2 S2 = (a, b, c, d) := ⟨_, _, _, _, rfl⟩
      have hK7 : KeptM X7 S7 (5 * j + 3) (N + 5 * j + 3) r := by have := asweep_keptM HK2.out (by omega); rw [hy] at this; exact this
      have HK7 := Lib.hid hK7
      have HLW := Lib.hid (sweep_law HK2.out (by omega) hy)
      have HSW : Hid (Calls Tryz.prog 21 #[.iface 40 (.pointer (some ⟨q, 0, none⟩))] W6 fun e w' => e = .returned (.tuple #[.int .i64 n7, .int .i64 x7]) ∧ World1 w' h (fun k => (Av k ∨ (w1.heap.size ≤ k ∧ k < w1.heap.size + 1)) ∨ (W5.heap.size ≤ k ∧ k < W6.heap.size)) dg wg mg q p mq mp X7 S7 X2 S2 ∧ Touch (fr h (fun k => (Av k ∨ (w1.heap.size ≤ k ∧ k < w1.heap.size + 1)) ∨ (W5.heap.size ≤ k ∧ k < W6.heap.size))) W6 w') := Lib.hid (by
        have j := sweep1 HT6.out (by omega) HK2.out (by omega) (by omega)
        rw [hy] at j
        exact j)
      clear hf6 hb6 hm2 hI2 hy hK7
      go_wp2_with fail
      refine HSW.out.mono ?_
      rintro e W7 ⟨rfl, hT7, ht7⟩
      have hs7 : W6.heap.size ≤ W7.heap.size := ht7.size
      have HT7 := Lib.hid hT7
      have HF7 : Hid (FilesAt W7 W5.heap.size (.slice a6 m2 c6) S2.image) := Lib.hid (HF6.out.fr ht7 fun k h1 h2 => .inr ⟨h1, h2⟩)
      have HTT7 : Hid (Touch (fr h (fun k => Av k ∨ (w1.heap.size ≤ k ∧ k < w1.heap.size + 1))) W2 W7) := Lib.hid ((HTT5.out.then_ (Touch.of_below HB6.out)).then_ (fr_mono ht7 fun k hk => .inl hk))
      obtain ⟨q7, q7l⟩ := HT7.out.qcell
      obtain ⟨m7, hm7⟩ : ∃ m, m = S7.image.length := ⟨_, rfl⟩
      have hI7 := HK7.out.k.drv
      have hm7l : m7 ≤ 1073741824 := by rw [hm7]; exact Nat.le_trans (image_len hI7) hI7.rooms
      have HM7 := Lib.hid hm7
      clear hT7 ht7 hI7 q5 q5l
      go_wp2_with fail
      refine (wimage1 HT7.out HK7.out).mono ?_
      rintro e W8 ⟨v, rfl, hf8, hb8⟩
      obtain ⟨a8, c8, rfl, _⟩ := hf8.shape
      rw [← hm7] at hf8 ⊢
      have hs8 : W7.heap.size ≤ W8.heap.size := hb8.size
      have HF8 := Lib.hid hf8
      have HB8 := Lib.hid hb8
      have HF78 : Hid (FilesAt W8 W5.heap.size (.slice a6 m2 c6) S2.image) := Lib.hid (HF7.out.below hb8)
      clear hf8 hb8 hm7
      go_wp2_with fail
      refine (without_any S2.image W5.heap.size a6 c6 m2 HM2.out [116] W8 HF78.out (by omega) (by omega)).mono ?_
      rintro e W9 ⟨v9, rfl, hf9, hb9⟩
      have hs9 : W8.heap.size ≤ W9.heap.size := hb9.size
      have HF9 := Lib.hid hf9
      have HB9 := Lib.hid (HB8.out.trans (hb9.mono hs8))
      have HF89 : Hid (FilesAt W9 W7.heap.size (.slice a8 m7 c8) S7.image) := Lib.hid (HF8.out.below hb9)
      have HF79 : Hid (FilesAt W9 W5.heap.size (.slice a6 m2 c6) S2.image) := Lib.hid (HF78.out.below hb9)
      clear hf9 hb9
      go_wp2_with fail
      refine (without_any S7.image W7.heap.size a8 c8 m7 HM7.out [116] W9 HF89.out (by omega) (by omega)).mono ?_
      rintro e W10 ⟨v10, rfl, hf10, hb10⟩
      have hs10 : W9.heap.size ≤ W10.heap.size := hb10.size
      have HF10 := Lib.hid hf10
      have HB10 := Lib.hid (HB9.out.trans (hb10.mono (by omega)))
      have HF90 : Hid (FilesAt W10 W5.heap.size v9 (withoutK S2.image [116])) := Lib.hid (HF9.out.below hb10)
      have HF80 : Hid (FilesAt W10 W7.heap.size (.slice a8 m7 c8) S7.image) := Lib.hid (HF89.out.below hb10)
      have HF70 : Hid (FilesAt W10 W5.heap.size (.slice a6 m2 c6) S2.image) := Lib.hid (HF79.out.below hb10)
      have HWO : Hid (withoutK S2.image [116] = withoutK S7.image [116]) := Lib.hid (image_without HK2.out.k.drv HK7.out.k.drv [116] HLW.out.1)
      have HWL : Hid ((withoutK S2.image [116]).length ≤ 2199023254000) := Lib.hid (by have := without_le S2.image [116]; rw [← HM2.out] at this; omega)
      clear hf10 hb10
      go_wp2_with fail
      have j11 := files_any v9 v10 _ _ _ _ W10 HF90.out HF10.out HWL.out
      rw [decide_eq_true HWO.out] at j11
      refine j11.mono ?_
      clear j11
      rintro e W11 ⟨rfl, n11, hn11⟩
      have HB11 : Hid (Below W7.heap.size W7 W11) := Lib.hid (by rw [hn11]; exact below_drewN HB10.out n11)
      have HF81 : Hid (FilesAt W11 W7.heap.size (.slice a8 m7 c8) S7.image) := Lib.hid (by rw [hn11]; exact HF80.out.drewN n11)
      have HF71 : Hid (FilesAt W11 W5.heap.size (.slice a6 m2 c6) S2.image) := Lib.hid (by rw [hn11]; exact HF70.out.drewN n11)
      clear hn11
      have HEND : Hid (∀ Z, Touch (fr h (fun k => Av k ∨ (w1.heap.size ≤ k ∧ k < w1.heap.size + 1))) W7 Z → Below w.heap.size w Z) := Lib.hid fun Z hZ => HBZ.out Z (HTT7.out.then_ hZ)
      by_cases hx7 : x7 = 0
      · subst hx7
        obtain ⟨hst, hn7, hkn, hpn⟩ := HLW.out.2.2 rfl
        have hnow : atI S7.image [116] = -1 := by
          rcases atI_cases S7.image [116] with ⟨h1, _⟩ | ⟨k, f, _, _, _, h4⟩
          · exact h1
          · rw [image_shows HK7.out.k.drv] at h4
            have := hst.symm.trans h4
            cases this
        have HAN : Hid (∀ W, W = W11 → Calls Tryz.prog 27 #[.slice a8 m7 c8, .string ⟨#[116]⟩] W fun e w' => e = .returned (.int .i64 (-1)) ∧ W = w') := Lib.hid fun W hW => by
          subst hW
          have j := at_at S7.image W7.heap.size a8 c8 m7 HM7.out [116] W HF81.out (by omega)
          rw [hnow] at j
          exact j
        have HAO : Hid (∀ W, W = W11 → Calls Tryz.prog 27 #[.slice a6 m2 c6, .string ⟨#[116]⟩] W fun e w' => e = .returned (.int .i64 (atI S2.image [116])) ∧ W = w') := Lib.hid fun W hW => by
          subst hW
          exact at_at S2.image W5.heap.size a6 c6 m2 HM2.out [116] W HF71.out (by omega)
        obtain ⟨i2, hi2⟩ : ∃ i, i = atI S2.image [116] := ⟨_, rfl⟩
        rw [← hi2] at HAO
        have hcs : (i2 = -1 ∧ n7 = 0) ∨ ((0 : Int) ≤ i2 ∧ n7 = 1) := by
          rcases atI_cases S2.image [116] with ⟨h1, h2⟩ | ⟨k, f, h1, _, _, h4⟩
          · rw [image_shows HK2.out.k.drv] at h2
            exact .inl ⟨hi2.trans h1, by rw [hn7, if_pos h2]⟩
          · rw [image_shows HK2.out.k.drv] at h4
            exact .inr ⟨by rw [hi2, h1]; omega, by rw [hn7, if_neg (by rw [h4]; exact fun e => by cases e)]⟩
        have HKN : Hid (S7.kept = S7.now ∧ S7.pending = [] ∧ S7.shows [116] = none) := Lib.hid ⟨hkn, hpn, hst⟩
        have HT11 := Lib.hid (HT7.out.below HB11.out)
        have hs11 : W7.heap.size ≤ W11.heap.size := HB11.out.size
        have hh11 : h ≤ W11.heap.size := by omega
        have q11 := HT11.out.qcell.1
        clear hi2 hn7 hnow hst hkn hpn
        have hok7 : ({ X7 with down := true } : Wnd).Okn (5 * j + 3) := HK7.out.k.wnd.down true
        have HPW : Hid (Calls Tryz.prog 14 #[.pointer (some ⟨q, 0, none⟩), .bool false] W11 fun e w' => e = .returned (.tuple #[]) ∧ World1 w' h (fun k => (Av k ∨ (w1.heap.size ≤ k ∧ k < w1.heap.size + 1)) ∨ (W5.heap.size ≤ k ∧ k < W6.heap.size)) dg wg mg q p mq mp { X7 with down := true } S7 X2 S2 ∧ Touch (fr h (fun k => (Av k ∨ (w1.heap.size ≤ k ∧ k < w1.heap.size + 1)) ∨ (W5.heap.size ≤ k ∧ k < W6.heap.size))) W11 w') := Lib.hid (wpower1 HT11.out hh11 false)
        have HPX : Hid (∀ W12, World1 W12 h (fun k => (Av k ∨ (w1.heap.size ≤ k ∧ k < w1.heap.size + 1)) ∨ (W5.heap.size ≤ k ∧ k < W6.heap.size)) dg wg mg q p mq mp { X7 with down := true } S7 X2 S2 → Touch (fr h (fun k => Av k ∨ (w1.heap.size ≤ k ∧ k < w1.heap.size + 1))) W7 W12 →
            Calls Tryz.prog 13 #[.pointer (some ⟨p, 0, none⟩), .agg #[.slice pr nd cr, .slice pcu nc cc]] W12 fun e w' => e = .returned (.int .i64 0) ∧ World1 w' h (fun k => (Av k ∨ (w1.heap.size ≤ k ∧ k < w1.heap.size + 1)) ∨ (W5.heap.size ≤ k ∧ k < W6.heap.size)) dg wg mg q p mq mp { X7 with down := true } (S7.crash dirs cuts) X2 S2 ∧ Touch (fr h (fun k => Av k ∨ (w1.heap.size ≤ k ∧ k < w1.heap.size + 1))) W7 w') := Lib.hid fun W12 hT12 ht12 => by
          have hb : Below w.heap.size w W12 := HEND.out W12 ht12
          have hf := HFT.out.keep hb
          have hs := ht12.size
          refine (wcrash1 hT12 (by omega) (HK7.out.wnd hok7) pr nd cr dirs pcu nc cc cuts hf.r hf.c hf.rs hf.cs hf.nr hf.ncl).mono ?_
          rintro e w' ⟨he, h1, h2⟩
          exact ⟨he, h1, ht12.then_ (fr_mono h2 fun k hk => .inl hk)⟩
        have hT711 : Touch (fr h (fun k => Av k ∨ (w1.heap.size ≤ k ∧ k < w1.heap.size + 1))) W7 W11 := Touch.of_below HB11.out
        have HT711 := Lib.hid hT711
        have HCL : Hid (∀ Z, Touch (fr h (fun k => Av k ∨ (w1.heap.size ≤ k ∧ k < w1.heap.size + 1))) W7 Z → Z.cell? ⟨w.heap.size + 1, 0, none⟩ = some (.slice pr nd cr) ∧ Z.cell? ⟨w.heap.size + 1, 1, none⟩ = some (.slice pcu nc cc)) := Lib.hid fun Z hZ => (HBK.out Z (HTT7.out.then_ hZ)).2.2.2
        have HK8 : Hid (KeptM ({ X7 with down := false } : Wnd) (S7.crash dirs cuts) (5 * j + 3) (N + 5 * j + 3) r) := Lib.hid ((HK7.out.crash dirs cuts).wnd (HK7.out.k.wnd.down false))
        have HZ8 : Hid (atI (S7.crash dirs cuts).image [116] = -1) := Lib.hid (by
          rcases atI_cases (S7.crash dirs cuts).image [116] with ⟨h1, _⟩ | ⟨k, f, _, _, _, h4⟩
          · exact h1
          · rw [image_shows HK8.out.k.drv, crash_none HK7.out.k.drv HKN.out.1 HKN.out.2.1 [116] HKN.out.2.2] at h4
            cases h4)
        clear hT711 hok7
        rcases hcs with ⟨rfl, rfl⟩ | ⟨h0, rfl⟩
        all_goals
          go_wp2_with (first
            | (go_at_call 27; with_reducible refine (HAN.out _ rfl).mono ?_; rintro e w' ⟨rfl, rfl⟩)
            | (go_at_call 27; with_reducible refine (HAO.out _ rfl).mono ?_; rintro e w' ⟨rfl, rfl⟩)
            | (go_at_call 14; refine HPW.out.mono ?_; rintro e W12 ⟨rfl, hT12, ht12⟩; have HT12 := Lib.hid hT12; have hT712 := HT711.out.then_ (fr_mono ht12 fun k hk => .inl hk); have HT712 := Lib.hid hT712; obtain ⟨q12, q12l⟩ := hT12.qcell; obtain ⟨z0, z1⟩ := HCL.out W12 hT712; clear hT12 ht12 hT712)
            | fail)
          go_region_held3 (fun w' => w'.cell? ⟨q, 0, none⟩ = some (.pointer (some ⟨p, 0, none⟩)) ∧ w'.cell? ⟨w.heap.size + 1, 0, none⟩ = some (.slice pr nd cr) ∧ w'.cell? ⟨w.heap.size + 1, 1, none⟩ = some (.slice pcu nc cc)) (first | (with_reducible exact HQC.out) | go_keep) ((first
            | (go_at_call 13; (refine (HPX.out _ (HT12.out.below (by first | exact below_drew1 (Below.refl _ _) | exact Below.refl _ _)) (HT712.out.then_ (Touch.of_below (by first | exact below_drew1 (Below.refl _ _) | exact Below.refl _ _)))).mono ?_); rintro e W13 ⟨rfl, hT13, ht13⟩; have HT13 := Lib.hid hT13; have HT713 := Lib.hid ht13; have HQC : Hid (W13.cell? ⟨q, 0, none⟩ = some (.pointer (some ⟨p, 0, none⟩)) ∧ W13.cell? ⟨w.heap.size + 1, 0, none⟩ = some (.slice pr nd cr) ∧ W13.cell? ⟨w.heap.size + 1, 1, none⟩ = some (.slice pcu nc cc)) := Lib.hid ⟨hT13.qcell.1, HCL.out W13 ht13⟩; clear hT13 ht13)
            | fail))
          all_goals
            have hq13 : q < W13.heap.size := HT13.out.qcell.2
            have hh13 : h ≤ W13.heap.size := by have := HT713.out.size; omega
            go_wp2_with fail
            refine (wpower1 HT13.out hh13 true).mono ?_
            rintro e W14 ⟨rfl, hT14, ht14⟩
            have HT14 := Lib.hid hT14
            have HT714 := Lib.hid (HT713.out.then_ (fr_mono ht14 fun k hk => .inl hk))
            obtain ⟨q14, q14l⟩ := hT14.qcell
            clear hT14 ht14 hq13
            go_wp2_with fail
            refine (wimage1 HT14.out HK8.out).mono ?_
            rintro e W15 ⟨v15, rfl, hf15, hb15⟩
            obtain ⟨a15, c15, rfl, _⟩ := hf15.shape
            have HF15 := Lib.hid hf15
            have HB15 := Lib.hid hb15
            have hl15 : (S7.crash dirs cuts).image.length ≤ 1099511627776 := by have h1 := image_len HK8.out.k.drv; have h2 := HK8.out.k.drv.rooms; omega
            clear hf15 hb15
            go_wp2_with fail
            have j16 := at_at (S7.crash dirs cuts).image W14.heap.size a15 c15 _ rfl [116] W15 HF15.out hl15
            rw [HZ8.out] at j16
            refine j16.mono ?_
            clear j16
            rintro e W16 ⟨rfl, rfl⟩
            go_wp2
            go_ret
            exact ⟨rfl, HEND.out _ (HT714.out.then_ (Touch.of_below HB15.out))⟩
      · have e1 : (x7 != 0) = true := by simpa using hx7
        have hn7 : n7 = 0 := HLW.out.2.1 hx7
        subst hn7
        go_wp2
        go_ret
        exact ⟨rfl, HEND.out _ (Touch.of_below HB11.out)⟩
end Go.Proofs.YtdmcjomcbhdcbaaGreat
namespace Go.Proofs.YtdmcjomcbhdcbaaGreat
open Go.RowKit Go.Maps

theorem make_behind0 (w : World) (x : PPlace) (L : PlLay) (hx : PlaceIn w x L) (hok : x.ok = false) (W1 : World) (hb1 : Below w.heap.size w W1) :
    Calls Tryz.prog 9 #[.slice (some ⟨W1.heap.size, 0, none⟩) 1 1] (W1.alloc (.cells (placeCells x L).toArray 25)) fun e w' => ∃ dg dc wg wc mg mc, e = .returned (.tuple #[bothV dg dc wg wc mg mc, .bool true]) ∧ Rows0 w' dg wg mg ∧ Caps dc wc mc ∧ Below W1.heap.size W1 w' := by
  have hb : Below W1.heap.size W1 (W1.alloc (.cells (placeCells x L).toArray 25)) := (Below.refl _ _).alloc (Nat.le_refl _) _
  have hbw : Below w.heap.size w (W1.alloc (.cells (placeCells x L).toArray 25)) := hb1.trans (hb.mono hb1.size)
  have hpi : PlaceIn (W1.alloc (.cells (placeCells x L).toArray 25)) x L := by
    obtain ⟨⟨vals, hf⟩, h2, h3, h4, h5, h6, h7, h8, h9⟩ := hx
    exact ⟨⟨vals, hf.keep hbw⟩, h2, (h3.below hbw).more hbw.size, h4, h5, h6, h7, fun ad e h0 => Nat.lt_of_lt_of_le (h8 ad e h0) hbw.size, h9⟩
  have hbl : Blk (W1.alloc (.cells (placeCells x L).toArray 25)) W1.heap.size 25 (placeCells x L).toArray := blk_last _ _ _ _ (by simp)
  refine (make_no _ x L hpi hok W1.heap.size 0 1 (by simp) (by omega) fun j u hu => ?_).mono ?_
  · rw [Nat.zero_add, hbl.cell j]
    simpa using hu
  · rintro e w' ⟨dg, dc, wg, wc, mg, mc, he, h1, h2, h3, h4, h5⟩
    exact ⟨dg, dc, wg, wc, mg, mc, he, ⟨h1, h2, h3, cell_lt h1, cell_lt h2, cell_lt h3⟩, h4, hb.trans (h5.mono (by simp))⟩

set_option maxRecDepth 100000 in
set_option maxHeartbeats 8000000 in
theorem swept_no (w : World) (x : PPlace) (L : PlLay) (hx : PlaceIn w x L) (hok : x.ok = false) (A : Option Addr) (n c : Nat)
    (pr : Option Addr) (nd cr : Nat) (pcu : Option Addr) (nc cc : Nat) :
    Calls Tryz.prog 6 #[.agg (placeCells x L).toArray, .slice A n c, .agg #[.slice pr nd cr, .slice pcu nc cc]] w fun e w' => e = .returned (.bool true) ∧ Below w.heap.size w w' := by
  have HMK : Hid (∀ W1, Below w.heap.size w W1 → Calls Tryz.prog 9 #[.slice (some ⟨W1.heap.size, 0, none⟩) 1 1] (W1.alloc (.cells (placeCells x L).toArray 25)) fun e w' => ∃ dg dc wg wc mg mc, e = .returned (.tuple #[bothV dg dc wg wc mg mc, .bool true]) ∧ Rows0 w' dg wg mg ∧ Caps dc wc mc ∧ Below W1.heap.size W1 w') := Lib.hid fun W1 hb1 => make_behind0 w x L hx hok W1 hb1
  clear hx hok
  obtain ⟨there, room, fs, plan, off, fused, R, C, I⟩ := x
  obtain ⟨fa, fc, pa, plc⟩ := L
  obtain ⟨nf, hnf⟩ : ∃ nf, nf = fs.length := ⟨_, rfl⟩
  obtain ⟨np, hnp⟩ : ∃ np, np = plan.length := ⟨_, rfl⟩
  unfold placeCells bothV at HMK
  unfold placeCells
  simp only at HMK ⊢
  rw [← hnf, ← hnp] at HMK
  rw [← hnf, ← hnp]
  clear hnf hnp
  go_enter Tryz.func6, Tryz.ntmps6
  go_upto_region 1 with fail
  refine wp_world fun V0 hV0 => ?_
  have hb0 : Below w.heap.size w V0 := by rw [hV0]; exact ((Below.refl _ _).alloc (Nat.le_refl _) _).alloc (by simp) _
  have HPB0 : Hid (Blk V0 w.heap.size 25 #[.bool there, .int .i64 room, .slice fa nf fc, .slice pa np plc, .bool off, .bool fused, .int .i64 R, .int .i64 C, .int .i64 I]) := Lib.hid (by rw [hV0]; exact (Blk.new _ _ _).alloc _)
  have hs0 : w.heap.size + 2 = V0.heap.size := by rw [hV0]; simp
  have HB0 := Lib.hid hb0
  clear hV0 hb0
  go_upto_region 3 with (go_at_call 8; refine (awake_any V0).mono ?_; rintro e W1 ⟨rfl, hb1⟩; have HB1 := Lib.hid hb1; have hpb1 := HPB0.out.below hb1 HPB0.out.lt; have p0 := hpb1.cell 0; have p1 := hpb1.cell 1; have p2 := hpb1.cell 2; have p3 := hpb1.cell 3; have p4 := hpb1.cell 4; have p5 := hpb1.cell 5; have p6 := hpb1.cell 6; have p7 := hpb1.cell 7; have p8 := hpb1.cell 8; simp at p0 p1 p2 p3 p4 p5 p6 p7 p8; clear hb1 hpb1)
  have hs1 : V0.heap.size ≤ W1.heap.size := HB1.out.size
  have HBW1 : Hid (Below w.heap.size w W1) := Lib.hid (HB0.out.trans (HB1.out.mono (by omega)))
  have hw1l : w.heap.size < W1.heap.size := by omega
  go_upto_region 4 with (first
    | (go_at_call 9; (refine (HMK.out _ HBW1.out).mono ?_); rintro e w1 ⟨dg, dc, wg, wc, mg, mc, rfl, hT1, hcap, hb1⟩; have HBM := Lib.hid hb1; have hwu := hT1.u; have hwl := hT1.ul; have hwc := hcap.u; clear hT1 hcap hb1)
    | fail)
  clear p0 p1 p2 p3 p4 p5 p6 p7 p8
  have hsm : W1.heap.size ≤ w1.heap.size := HBM.out.size
  have h01 : (0 : Int) < ((1 : Nat) : Int) := by omega
  go_wp2_with (go_at_call 21; refine (sweep_nil _).mono ?_; rintro e W4 ⟨rfl, rfl⟩)
  go_ret
  exact ⟨rfl, (HBW1.out.trans (HBM.out.mono (by omega))).alloc (by omega) _⟩
end Go.Proofs.YtdmcjomcbhdcbaaGreat
namespace Go.Proofs.YtdmcjomcbhdcbaaGreat
open Go.RowKit Go.Maps

set_option maxRecDepth 100000 in
set_option maxHeartbeats 8000000 in
theorem turned_no (os ns : List File) (bo bn : Nat) (A B : Option Addr) (no nn ca cb : Nat) (hno : no = os.length) (hnn : nn = ns.length) (w : World) (ho : FilesAt w bo (.slice A no ca) os) (hn : FilesAt w bn (.slice B nn cb) ns) (lo : no ≤ 1099511627776) (ln : nn ≤ 1099511627776)
    (nm : List UInt8) (D : Option Addr) (dn dc : Nat) (bs : List UInt8) (hdn : dn = bs.length) (hD : Reads w w.heap.size 1 D dn (bs.map B8)) (x : Int)
    (hnt : nm ≠ [116]) (H1 : fileOf ns nm ≠ some bs) (H2 : fileOf ns nm ≠ fileOf os nm) :
    Calls Tryz.prog 15 #[.slice A no ca, .slice B nn cb, .string ⟨nm.toArray⟩, .slice D dn dc, .int .i64 x] w fun e w' => e = .returned (.bool false) ∧ ∃ n, w' = w.drewN n := by
  have HO := Lib.hid ho
  have HN := Lib.hid hn
  have HNO := Lib.hid hno
  have HNN := Lib.hid hnn
  have HNT := Lib.hid hnt
  have HH1 := Lib.hid H1
  have HH2 := Lib.hid H2
  have HDC : Hid (∀ m, (convert 26 9 (.slice D dn dc)).run Tryz.prog (w.drewN m) = .ok (.string ⟨bs.toArray⟩) (w.drewN m)) := Lib.hid fun m => by subst hdn; exact conv_any _ _ D bs dc (hD.drewN m)
  have HATO : Hid (∀ m W (s : List UInt8), W = w.drewN m → Calls Tryz.prog 27 #[.slice A no ca, .string ⟨s.toArray⟩] W fun e w' => e = .returned (.int .i64 (atI os s)) ∧ W = w') := Lib.hid fun m W s hW => by subst hW; exact at_at os bo A ca no hno s _ (ho.drewN m) lo
  have HATN : Hid (∀ m W (s : List UInt8), W = w.drewN m → Calls Tryz.prog 27 #[.slice B nn cb, .string ⟨s.toArray⟩] W fun e w' => e = .returned (.int .i64 (atI ns s)) ∧ W = w') := Lib.hid fun m W s hW => by subst hW; exact at_at ns bn B cb nn hnn s _ (hn.drewN m) ln
  clear ho hn hno hnn hnt H1 H2 hdn hD
  go_enter Tryz.func15, Tryz.ntmps15
  go_upto_region 3 with (first
    | (go_at_call 27; have j4 := HATN.out 0 w nm rfl; with_reducible refine j4.mono ?_; clear j4; rintro e w' ⟨rfl, rfl⟩)
    | (go_at_call 27; have j4 := HATO.out 0 w nm rfl; with_reducible refine j4.mono ?_; clear j4; rintro e w' ⟨rfl, rfl⟩)
    | fail)
  obtain ⟨fr, hfr⟩ : ∃ fr, fr = decide (fileOf ns nm = some bs) := ⟨_, rfl⟩
  obtain ⟨kp, hkp⟩ : ∃ kp, kp = decide (fileOf ns nm = fileOf os nm) := ⟨_, rfl⟩
  have HFR := Lib.hid hfr
  have HKP := Lib.hid hkp
  clear hfr hkp
  obtain ⟨i, hi⟩ : ∃ i, i = atI ns nm := ⟨_, rfl⟩
  obtain ⟨j, hj⟩ : ∃ j, j = atI os nm := ⟨_, rfl⟩
  rw [← hi, ← hj]
  have HI := Lib.hid hi
  have HJ := Lib.hid hj
  clear hi hj
  go_cut [13] (fun s13 wx => s13 = .bool fr ∧ Hid (∃ n, wx = w.drewN n))
  case first =>
    have hdc := HDC.out
    rcases atI_cases ns nm with ⟨h1, h2⟩ | ⟨k, f, h1, h2, h3, h4⟩
    · have hi := HI.out.trans h1
      subst hi
      have hf : fr = false := by rw [HFR.out, h2]; rfl
      subst hf
      clear h1 h2
      go_quiet (fail)
      go_wp2_with fail
      go_meet
      exact ⟨rfl, Lib.hid ⟨_, rfl⟩⟩
    · have hi := HI.out.trans h1
      subst hi
      have hlt : k < nn := by rw [HNN.out]; exact (List.getElem?_eq_some_iff.1 h2).1
      obtain ⟨g, xb, db, rfl, y0, y1, _, hrb⟩ := HN.out.at_ HNN.out h2
      have hvb : ∀ m, (convert 26 9 (.slice xb f.2.length db)).run Tryz.prog (w.drewN m) = .ok (.string ⟨f.2.toArray⟩) (w.drewN m) := fun m => conv_any _ w.heap.size xb f.2 db ((Reads.of_own hrb).drewN m)
      have hf : fr = decide (f.2 = bs) := by rw [HFR.out, h4]; simp
      obtain ⟨f1, f2⟩ := f
      simp only [strV] at y0 y1 hvb hf
      generalize f2.length = lf at y1 hvb
      clear h1 h2 h3 h4 hrb
      by_cases he : f2 = bs
      · rw [decide_eq_true he] at hf
        subst hf
        have e1 : (f2 == bs) = true := by rw [beq_iff_eq]; exact he
        clear he
        go_quiet (fail)
        go_wp2_with fail
        go_meet
        exact ⟨rfl, Lib.hid ⟨_, rfl⟩⟩
      · rw [decide_eq_false he] at hf
        subst hf
        have e1 : (f2 == bs) = false := by rw [beq_eq_false_iff_ne]; exact he
        clear he
        go_quiet (fail)
        go_wp2_with fail
        go_meet
        exact ⟨rfl, Lib.hid ⟨_, rfl⟩⟩
  case rest =>
  obtain ⟨rfl, hw1⟩ := hcut
  have HWC := hw1
  have HOC : Hid (FilesAt wc bo (.slice A no ca) os) := Lib.hid (by obtain ⟨q, e⟩ := HWC.out; rw [e]; exact HO.out.drewN q)
  have HNC : Hid (FilesAt wc bn (.slice B nn cb) ns) := Lib.hid (by obtain ⟨q, e⟩ := HWC.out; rw [e]; exact HN.out.drewN q)
  have HWD : Hid (∀ q, ∃ n, wc.drewN q = w.drewN n) := Lib.hid fun q => by obtain ⟨r, e⟩ := HWC.out; exact ⟨r + q, by rw [e, World.drewN_drewN]⟩
  clear hw1
  go_upto_region 4 with fail
  go_cut [14] (fun s14 wx => s14 = .bool kp ∧ Hid (∃ n, wx = w.drewN n))
  case first =>
    rcases atI_cases ns nm with ⟨h1, h2⟩ | ⟨k, f, h1, h2, h3, h4⟩
    · have hi := HI.out.trans h1
      subst hi
      rcases atI_cases os nm with ⟨h5, h6⟩ | ⟨k2, f2, h5, h6, h7, h8⟩
      · have hj := HJ.out.trans h5
        subst hj
        have hf : kp = true := by rw [HKP.out, h2, h6]; rfl
        subst hf
        clear h1 h2 h5 h6
        go_big_quiet (fail)
        go_wp2_with fail
        go_meet
        exact ⟨rfl, Lib.hid (HWD.out _)⟩
      · have hj := HJ.out.trans h5
        subst hj
        have hf : kp = false := by rw [HKP.out, h2, h8]; rfl
        subst hf
        have t1k2 : decide ((k2 : Int) < 0) = false := by rw [decide_eq_false_iff_not]; omega
        have t2k2 : decide ((0 : Int) ≤ (k2 : Int)) = true := by rw [decide_eq_true_eq]; omega
        clear h1 h2 h5 h6 h7 h8
        go_big_quiet (fail)
        go_wp2_with fail
        go_meet
        exact ⟨rfl, Lib.hid (HWD.out _)⟩
    · have hi := HI.out.trans h1
      subst hi
      have hlt : k < nn := by rw [HNN.out]; exact (List.getElem?_eq_some_iff.1 h2).1
      obtain ⟨g, xb, db, rfl, y0, y1, _, hrb⟩ := HNC.out.at_ HNN.out h2
      have hvb : ∀ m, (convert 26 9 (.slice xb f.2.length db)).run Tryz.prog (wc.drewN m) = .ok (.string ⟨f.2.toArray⟩) (wc.drewN m) := fun m => conv_any _ wc.heap.size xb f.2 db ((Reads.of_own hrb).drewN m)
      rcases atI_cases os nm with ⟨h5, h6⟩ | ⟨k2, f2, h5, h6, h7, h8⟩
      · have hj := HJ.out.trans h5
        subst hj
        have hf : kp = false := by rw [HKP.out, h4, h6]; simp
        subst hf
        have t1k : decide ((k : Int) < 0) = false := by rw [decide_eq_false_iff_not]; omega
        have t2k : decide ((0 : Int) ≤ (k : Int)) = true := by rw [decide_eq_true_eq]; omega
        clear h1 h2 h3 h4 h5 h6 hrb y0 y1 hvb
        go_big_quiet (fail)
        go_wp2_with fail
        go_meet
        exact ⟨rfl, Lib.hid (HWD.out _)⟩
      · have hj := HJ.out.trans h5
        subst hj
        have hlt2 : k2 < no := by rw [HNO.out]; exact (List.getElem?_eq_some_iff.1 h6).1
        obtain ⟨g2, xa, da, rfl, z0, z1, _, hra⟩ := HOC.out.at_ HNO.out h6
        have hva : ∀ m, (convert 26 9 (.slice xa f2.2.length da)).run Tryz.prog (wc.drewN m) = .ok (.string ⟨f2.2.toArray⟩) (wc.drewN m) := fun m => conv_any _ wc.heap.size xa f2.2 da ((Reads.of_own hra).drewN m)
        have hf : kp = decide (f.2 = f2.2) := by rw [HKP.out, h4, h8]; simp
        have t1k : decide ((k : Int) < 0) = false := by rw [decide_eq_false_iff_not]; omega
        have t2k : decide ((0 : Int) ≤ (k : Int)) = true := by rw [decide_eq_true_eq]; omega
        have t1k2 : decide ((k2 : Int) < 0) = false := by rw [decide_eq_false_iff_not]; omega
        have t2k2 : decide ((0 : Int) ≤ (k2 : Int)) = true := by rw [decide_eq_true_eq]; omega
        obtain ⟨f1, fd⟩ := f
        obtain ⟨e1, ed⟩ := f2
        simp only [strV] at y0 y1 hvb z0 z1 hva hf
        generalize fd.length = lf at y1 hvb
        generalize ed.length = le at z1 hva
        clear h1 h2 h3 h4 h5 h6 h7 h8 hrb hra
        by_cases he : fd = ed
        · rw [decide_eq_true he] at hf
          subst hf
          have e1 : (fd == ed) = true := by rw [beq_iff_eq]; exact he
          clear he
          go_big_quiet (fail)
          go_wp2_with fail
          go_meet
          exact ⟨rfl, Lib.hid (HWD.out _)⟩
        · rw [decide_eq_false he] at hf
          subst hf
          have e1 : (fd == ed) = false := by rw [beq_eq_false_iff_ne]; exact he
          clear he
          go_big_quiet (fail)
          go_wp2_with fail
          go_meet
          exact ⟨rfl, Lib.hid (HWD.out _)⟩
  case rest =>
  have HWC1 := HWC
  clear HOC HNC HWD
  obtain ⟨W1, rfl⟩ : ∃ x, x = wc := ⟨_, rfl⟩
  obtain ⟨rfl, HW2⟩ := hcut
  have t1 : (nm == [116]) = false := by rw [beq_eq_false_iff_ne]; exact HNT.out
  have t2 : (nm != [116]) = true := by rw [bne_iff_ne]; exact HNT.out
  obtain rfl : fr = false := by rw [HFR.out, decide_eq_false HH1.out]
  obtain rfl : kp = false := by rw [HKP.out, decide_eq_false HH2.out]
  have hx : x = 0 ∨ (x == 0) = false := by
    by_cases h : x = 0
    · exact .inl h
    · exact .inr (by rw [beq_eq_false_iff_ne]; exact h)
  rcases hx with rfl | hx
  all_goals
    go_wp2_with fail
    exact bodyPost_ret (v := .bool false) (by simp only [results, Tryz.results15]; go_simp) rfl ⟨rfl, HW2.out⟩
end Go.Proofs.YtdmcjomcbhdcbaaGreat
