/- AtomicAlone, walked: over a place with a drive. (Printed by gen_Tf.py; its end is R/XTf.part.); AtomicAlone, walked: over a place without a drive. -/
import Derived.Test.YtdmcjomcbhdcbaaGreatM41
import Derived.Test.YtdmcjomcbhdcbaaGreatM40
import Derived.BigQuiet
import Derived.Deep.DeepCutAuto
namespace Go.Proofs.YtdmcjomcbhdcbaaGreat
open Go.RowKit Go.Maps

set_option maxRecDepth 100000 in
set_option maxHeartbeats 8000000 in
theorem alone_yes (w : World) (x : PPlace) (L : PlLay) (hx : PlaceIn w x L) (hok : x.ok = true) (A : Option Addr) (n c : Nat) (xs : List (PStp × SLay)) (hn : n = xs.length) (hnc : n ≤ c) (hst : StepsIn w w.heap.size A xs) (hn2 : n ≤ 1048576) (N r : Nat) (hK : KeptM x.wnd x.drv 0 N r) (hN : N ≤ 1048576)
    (nm : Nm) (hnm : nm.length ≤ maxLen) (D : Option Addr) (dn dc0 : Nat) (bs : List UInt8) (hdn : dn = bs.length) (hdl : dn ≤ 1048576) (hD : Reads w w.heap.size 1 D dn (bs.map B8)) :
    Calls Tryz.prog 5 #[.agg (placeCells x L).toArray, .slice A n c, .string ⟨nm.toArray⟩, .slice D dn dc0] w fun e w' => e = .returned (.bool true) ∧ Below w.heap.size w w' := by
  have HMK : Hid (∀ W1, Below w.heap.size w W1 → Calls Tryz.prog 9 #[.slice (some ⟨W1.heap.size, 0, none⟩) 1 1] (W1.alloc (.cells (placeCells x L).toArray 25)) fun e w' => ∃ dg dc wg wc mg mc q p mq mp Av, e = .returned (.tuple #[bothV dg dc wg wc mg mc, .bool true]) ∧ World1 w' (W1.heap.size + 1) Av dg wg mg q p mq mp x.wnd x.drv x.wnd x.drv ∧ Caps dc wc mc ∧ Below W1.heap.size W1 w' ∧ W1.heap.size + 1 ≤ w'.heap.size) := Lib.hid fun W1 hb1 => make_behind w x L hx hok W1 hb1
  have HN := Lib.hid hn
  have HST := Lib.hid hst
  have HKM := Lib.hid hK
  have HD := Lib.hid hD
  have HDN := Lib.hid hdn
  have HNM := Lib.hid hnm
  have HDW : Hid (∀ ad, D = some ad → 0 < dn → ad.block < w.heap.size) := Lib.hid (reads_lt hD)
  generalize x.wnd = X0 at HMK HKM
  generalize x.drv = S0 at HMK HKM
  clear hx hok hn hst hK hD hdn hnm
  obtain ⟨there, room, fs, plan, off, fused, R, C, I⟩ := x
  obtain ⟨fa, fc, pa, plc⟩ := L
  obtain ⟨nf, hnf⟩ : ∃ nf, nf = fs.length := ⟨_, rfl⟩
  obtain ⟨np, hnp⟩ : ∃ np, np = plan.length := ⟨_, rfl⟩
  unfold placeCells bothV at HMK
  unfold placeCells
  simp only at HMK ⊢
  rw [← hnf, ← hnp] at HMK
  rw [← hnf, ← hnp]
  clear hnf hnp
  go_enter Tryz.func5, Tryz.ntmps5
  go_upto_region 1 with fail
  refine wp_world fun V0 hV0 => ?_
  have hb0 : Below w.heap.size w V0 := by rw [hV0]; exact (Below.refl _ _).alloc (Nat.le_refl _) _
  have HPB0 : Hid (Blk V0 w.heap.size 25 #[.bool there, .int .i64 room, .slice fa nf fc, .slice pa np plc, .bool off, .bool fused, .int .i64 R, .int .i64 C, .int .i64 I]) := Lib.hid (by rw [hV0]; exact Blk.new _ _ _)
  have hs0 : w.heap.size + 1 = V0.heap.size := by rw [hV0]; simp
  have HB0 := Lib.hid hb0
  clear hV0 hb0
  go_upto_region 3 with (go_at_call 8; refine (awake_any V0).mono ?_; rintro e W1 ⟨rfl, hb1⟩; have HB1 := Lib.hid hb1; have hpb1 := HPB0.out.below hb1 HPB0.out.lt; have p0 := hpb1.cell 0; have p1 := hpb1.cell 1; have p2 := hpb1.cell 2; have p3 := hpb1.cell 3; have p4 := hpb1.cell 4; have p5 := hpb1.cell 5; have p6 := hpb1.cell 6; have p7 := hpb1.cell 7; have p8 := hpb1.cell 8; simp at p0 p1 p2 p3 p4 p5 p6 p7 p8; clear hb1 hpb1)
  have hs1 : V0.heap.size ≤ W1.heap.size := HB1.out.size
  have HBW1 : Hid (Below w.heap.size w W1) := Lib.hid (HB0.out.trans (HB1.out.mono (by omega)))
  have hw1l : w.heap.size < W1.heap.size := by omega
  go_upto_region 4 with (first
    | (go_at_call 9; (refine (HMK.out _ HBW1.out).mono ?_); rintro e w1 ⟨dg, dc, wg, wc, mg, mc, q, p, mq, mp, Av, rfl, hT1, hcap, hb1, hsw⟩; have HT1 := Lib.hid hT1; have HCAP := Lib.hid hcap; have HBM := Lib.hid hb1; clear hT1 hcap hb1)
    | fail)
  clear p0 p1 p2 p3 p4 p5 p6 p7 p8
  refine wp_world fun W2 hW2 => ?_
  have hb12 : Below w1.heap.size w1 W2 := by rw [hW2]; exact (Below.refl _ w1).alloc (Nat.le_refl _) _
  have hs2 : W2.heap.size = w1.heap.size + 1 := by rw [hW2]; simp
  have hbk : Blk W2 w1.heap.size 36 #[.slice (some ⟨dg, 0, none⟩) 1 dc, .slice (some ⟨wg, 0, none⟩) 1 wc, .slice (some ⟨mg, 0, none⟩) 1 mc] := by rw [hW2]; exact blk_last _ _ _ _ rfl
  have HB2 : Hid (Below W1.heap.size W1 W2) := Lib.hid (HBM.out.trans (hb12.mono (by omega)))
  have hT2 := HT1.out.boxed hb12
  rw [hs2] at hT2
  have HT2 := Lib.hid hT2
  obtain ⟨h, hh⟩ : ∃ h, h = W1.heap.size + 1 := ⟨_, rfl⟩
  rw [← hh] at HT2
  have HHW : Hid (h ≤ W2.heap.size) := Lib.hid (by omega)
  have HBK : Hid (∀ Z, Touch (fr h (fun k => Av k ∨ (w1.heap.size ≤ k ∧ k < w1.heap.size + 1))) W2 Z → Z.cell? ⟨w1.heap.size, 0, none⟩ = some (.slice (some ⟨dg, 0, none⟩) 1 dc) ∧ Z.cell? ⟨w1.heap.size, 1, none⟩ = some (.slice (some ⟨wg, 0, none⟩) 1 wc) ∧ Z.cell? ⟨w1.heap.size, 2, none⟩ = some (.slice (some ⟨mg, 0, none⟩) 1 mc)) := Lib.hid fun Z hZ => by
    have e : Z.heap[w1.heap.size]? = W2.heap[w1.heap.size]? := fr_av hZ (.inr (by omega)) (by omega)
    have hb2 : Blk Z w1.heap.size 36 _ := e.trans hbk
    exact ⟨hb2.cell 0, hb2.cell 1, hb2.cell 2⟩
  have HBZ : Hid (∀ Z, Touch (fr h (fun k => Av k ∨ (w1.heap.size ≤ k ∧ k < w1.heap.size + 1))) W2 Z → Below w.heap.size w Z) := Lib.hid fun Z hZ => by
    have h1 : Below h W2 Z := fr_below hZ (by omega)
    exact (HBW1.out.trans (HB2.out.mono (by omega))).trans (h1.mono (by omega))
  obtain ⟨b0, b1, b2⟩ := HBK.out W2 (Touch.refl _ _)
  have hcap1 := HCAP.out.u
  have hwc : (0 : Int) < ((1 : Nat) : Int) := by omega
  have hrw := hT2.rows.u
  have hwl : wg < W2.heap.size := hT2.rows.ul
  have HHH := Lib.hid hh
  clear hW2 hb12 hbk hT2 hs2 hh
  go_upto_region 9 with fail
  go_wp2
  go_loopw [12] (fun s12 wr => ∃ j : Nat, j ≤ n ∧ s12 = .int .i64 j ∧ (∃ X S, KeptM X S (5 * j) (N + 5 * j) r ∧ World1 wr h (fun k => Av k ∨ (w1.heap.size ≤ k ∧ k < w1.heap.size + 1)) dg wg mg q p mq mp X S X S) ∧ Touch (fr h (fun k => Av k ∨ (w1.heap.size ≤ k ∧ k < w1.heap.size + 1))) W2 wr) (fun s12 _ => n - (intOf s12).toNat)
  case atStart => exact ⟨0, Nat.zero_le _, rfl, ⟨X0, S0, HKM.out, HT2.out⟩, Touch.refl _ _⟩
  case round =>
    obtain ⟨j, hj, rfl, ⟨X2, S2, hk2, hT5⟩, ht5⟩ := hrel
    have HK2 := Lib.hid hk2
    have HT5 := Lib.hid hT5
    have HTT5 := Lib.hid ht5
    obtain ⟨b0, b1, b2⟩ := HBK.out wr ht5
    have HBR := Lib.hid (HBZ.out wr ht5)
    have hwr : W2.heap.size ≤ wr.heap.size := ht5.size
    clear hk2 hT5 ht5
    by_cases hlt : j < n
    · obtain ⟨xl, hxl⟩ : ∃ xl, xs[j]? = some xl := ⟨_, List.getElem?_eq_getElem (by rw [← HN.out]; exact hlt)⟩
      obtain ⟨g, o, rfl, hg, hcl⟩ := HST.out.at_ j xl hxl
      have hmem := List.mem_of_getElem? hxl
      have hsi := HST.out.step xl hmem
      have hai := HST.out.act xl hmem
      have hfa := HST.out.fa xl hmem
      obtain ⟨⟨kind, nm, data, ⟨ak, ap, aa, an, adata, aplan, aR, aC, aI⟩⟩, ⟨da, dcc, ⟨ada, adc, apa, apc, afa, afn, afc⟩⟩⟩ := xl
      simp only at hsi hai hfa hcl
      have HSM : Hid (∀ V, Below wr.heap.size wr V → Calls Tryz.prog 25 #[.agg #[.slice (some ⟨dg, 0, none⟩) 1 dc, .slice (some ⟨wg, 0, none⟩) 1 wc, .slice (some ⟨mg, 0, none⟩) 1 mc], .agg #[.int .i64 kind, .string ⟨nm.toArray⟩, .slice da data.length dcc, .int .i64 ak, .int .i64 ap, .int .i64 aa, .int .i64 an, .slice ada adata.length adc, .slice apa aplan.length apc, .int .i64 aR, .int .i64 aC, .int .i64 aI, .slice afa afn afc]] V fun e w' => e = .returned (.bool true) ∧ (∃ X S, KeptM X S (5 * (j + 1)) (N + 5 * (j + 1)) r ∧ World1 w' h (fun k => Av k ∨ (w1.heap.size ≤ k ∧ k < w1.heap.size + 1)) dg wg mg q p mq mp X S X S) ∧ Touch (fr h (fun k => Av k ∨ (w1.heap.size ≤ k ∧ k < w1.heap.size + 1))) W2 w') := Lib.hid fun V hV => by
        have hbV : Below w.heap.size w V := HBR.out.trans (hV.mono HBR.out.size)
        have h1 := HHW.out
        have h2 := HHH.out
        have j2 := same_any V h dg dc wg wc mg mc q p mq mp _ X2 S2 (HT5.out.below hV) (by have h2 := hV.size; omega) HCAP.out ⟨kind, nm, data, ⟨ak, ap, aa, an, adata, aplan, aR, aC, aI⟩⟩ ⟨da, dcc, ⟨ada, adc, apa, apc, afa, afn, afc⟩⟩ (hsi.far hbV (by omega)) (hai.far hfa hbV (by omega) (Nat.le_refl _)) HK2.out (by omega) (by omega)
        unfold bothV stepCells at j2
        refine j2.mono ?_
        rintro e w' ⟨he, ⟨X, S, h1, h2⟩, h3⟩
        exact ⟨he, ⟨X, S, by rw [show 5 * (j + 1) = 5 * j + 5 by omega, show N + (5 * j + 5) = N + 5 * j + 5 by omega]; exact h1, h2⟩, (HTT5.out.then_ (Touch.of_below hV)).then_ h3⟩
      obtain ⟨dl, hdl⟩ : ∃ dl, dl = data.length := ⟨_, rfl⟩
      obtain ⟨adl, hadl⟩ : ∃ adl, adl = adata.length := ⟨_, rfl⟩
      obtain ⟨apl, hapl⟩ : ∃ apl, apl = aplan.length := ⟨_, rfl⟩
      rw [← hdl, ← hadl, ← hapl] at HSM
      have HQS : Hid (∀ Z, Touch (fr h (fun k => Av k ∨ (w1.heap.size ≤ k ∧ k < w1.heap.size + 1))) W2 Z → Z.cell? ⟨w1.heap.size, 0, none⟩ = some (.slice (some ⟨dg, 0, none⟩) 1 dc) ∧ Z.cell? ⟨w1.heap.size, 1, none⟩ = some (.slice (some ⟨wg, 0, none⟩) 1 wc) ∧ Z.cell? ⟨w1.heap.size, 2, none⟩ = some (.slice (some ⟨mg, 0, none⟩) 1 mc) ∧ Z.cell? ⟨g, o + j * 13, none⟩ = some (.int .i64 kind) ∧ Z.cell? ⟨g, o + j * 13 + 1, none⟩ = some (.string ⟨nm.toArray⟩) ∧ Z.cell? ⟨g, o + j * 13 + 2, none⟩ = some (.slice da dl dcc) ∧ Z.cell? ⟨g, o + j * 13 + 3, none⟩ = some (.int .i64 ak) ∧ Z.cell? ⟨g, o + j * 13 + 4, none⟩ = some (.int .i64 ap) ∧ Z.cell? ⟨g, o + j * 13 + 5, none⟩ = some (.int .i64 aa) ∧ Z.cell? ⟨g, o + j * 13 + 6, none⟩ = some (.int .i64 an) ∧ Z.cell? ⟨g, o + j * 13 + 7, none⟩ = some (.slice ada adl adc) ∧ Z.cell? ⟨g, o + j * 13 + 8, none⟩ = some (.slice apa apl apc) ∧ Z.cell? ⟨g, o + j * 13 + 9, none⟩ = some (.int .i64 aR) ∧ Z.cell? ⟨g, o + j * 13 + 10, none⟩ = some (.int .i64 aC) ∧ Z.cell? ⟨g, o + j * 13 + 11, none⟩ = some (.int .i64 aI) ∧ Z.cell? ⟨g, o + j * 13 + 12, none⟩ = some (.slice afa afn afc)) := Lib.hid fun Z hZ => by
        obtain ⟨z0, z1, z2⟩ := HBK.out Z hZ
        have hbZ : Below w.heap.size w Z := HBZ.out Z hZ
        have hc : ∀ i u, (stepCells ⟨kind, nm, data, ⟨ak, ap, aa, an, adata, aplan, aR, aC, aI⟩⟩ ⟨da, dcc, ⟨ada, adc, apa, apc, afa, afn, afc⟩⟩)[i]? = some u → Z.cell? ⟨g, o + j * 13 + i, none⟩ = some u := fun i u hu => (hbZ.cell (p := ⟨g, o + j * 13 + i, none⟩) hg).trans (hcl i u hu)
        refine ⟨z0, z1, z2, by exact hc 0 _ rfl, by exact hc 1 _ rfl, by rw [hdl]; exact hc 2 _ rfl, by exact hc 3 _ rfl, by exact hc 4 _ rfl, by exact hc 5 _ rfl, by exact hc 6 _ rfl, by rw [hadl]; exact hc 7 _ rfl, by rw [hapl]; exact hc 8 _ rfl, by exact hc 9 _ rfl, by exact hc 10 _ rfl, by exact hc 11 _ rfl, by exact hc 12 _ rfl⟩
      obtain ⟨y0, y1, y2, y3, y4, y5, y6, y7, y8, y9, y10, y11, y12, y13, y14, y15⟩ := HQS.out wr HTT5.out
      have i0 : (0 : Int) ≤ (j : Int) := by omega
      have i1 : (j : Int) < (n : Int) := by omega
      clear hxl hcl hmem hsi hai hfa hdl hadl hapl b0 b1 b2
      go_wp2
      go_region_held3 (fun Z => Z.cell? ⟨w1.heap.size, 0, none⟩ = some (.slice (some ⟨dg, 0, none⟩) 1 dc) ∧ Z.cell? ⟨w1.heap.size, 1, none⟩ = some (.slice (some ⟨wg, 0, none⟩) 1 wc) ∧ Z.cell? ⟨w1.heap.size, 2, none⟩ = some (.slice (some ⟨mg, 0, none⟩) 1 mc) ∧ Z.cell? ⟨g, o + j * 13, none⟩ = some (.int .i64 kind) ∧ Z.cell? ⟨g, o + j * 13 + 1, none⟩ = some (.string ⟨nm.toArray⟩) ∧ Z.cell? ⟨g, o + j * 13 + 2, none⟩ = some (.slice da dl dcc) ∧ Z.cell? ⟨g, o + j * 13 + 3, none⟩ = some (.int .i64 ak) ∧ Z.cell? ⟨g, o + j * 13 + 4, none⟩ = some (.int .i64 ap) ∧ Z.cell? ⟨g, o + j * 13 + 5, none⟩ = some (.int .i64 aa) ∧ Z.cell? ⟨g, o + j * 13 + 6, none⟩ = some (.int .i64 an) ∧ Z.cell? ⟨g, o + j * 13 + 7, none⟩ = some (.slice ada adl adc) ∧ Z.cell? ⟨g, o + j * 13 + 8, none⟩ = some (.slice apa apl apc) ∧ Z.cell? ⟨g, o + j * 13 + 9, none⟩ = some (.int .i64 aR) ∧ Z.cell? ⟨g, o + j * 13 + 10, none⟩ = some (.int .i64 aC) ∧ Z.cell? ⟨g, o + j * 13 + 11, none⟩ = some (.int .i64 aI) ∧ Z.cell? ⟨g, o + j * 13 + 12, none⟩ = some (.slice afa afn afc)) (first | (with_reducible exact (HQS.out _ HTT6.out)) | go_keep) ((first
        | (go_at_call 25; (refine (HSM.out _ (by first | exact Below.refl _ _ | exact below_drew1 (Below.refl _ _))).mono ?_); rintro e w6 ⟨rfl, ⟨X6, S6, hk6, hT6⟩, ht6⟩; have HK6 := Lib.hid hk6; have HT6 := Lib.hid hT6; have HTT6 := Lib.hid ht6; clear hk6 hT6 ht6)
        | fail))
      all_goals
        go_wp2
        exact ⟨⟨j + 1, by omega, by go_num, ⟨X6, S6, HK6.out, HT6.out⟩, HTT6.out⟩, by simp only [intOf]; omega⟩
    · have hjn : j = n := by omega
      subst hjn
      obtain ⟨W5, hW5⟩ : ∃ W5, W5 = wr := ⟨_, rfl⟩
      rw [← hW5] at HT5 HTT5 HBR hwr ⊢ b0 b1 b2
      clear hW5
      obtain ⟨q5, q5l⟩ := HT5.out.qcell
      have hlk : nm = [] ∨ 1024 < nm.length ∨ nm = [116] ∨ (1 ≤ nm.length ∧ nm.length ≤ 1024 ∧ nm ≠ [116]) := by
        by_cases h1 : nm = []
        · exact .inl h1
        by_cases h2 : 1024 < nm.length
        · exact .inr (.inl h2)
        by_cases h3 : nm = [116]
        · exact .inr (.inr (.inl h3))
        · refine .inr (.inr (.inr ⟨?_, by omega, h3⟩))
          cases nm with
          | nil => exact absurd rfl h1
          | cons a l => simp only [List.length_cons]; omega
      have HBAD : Hid (lookE nm ≠ 0 → ∀ W, Calls Tryz.prog 10 #[.iface 40 (.pointer (some ⟨q, 0, none⟩)), .string ⟨nm.toArray⟩, .slice D dn dc0] W fun e w' => e = .returned (.int .i64 91) ∧ Below W.heap.size W w') := Lib.hid fun hx W => write_bad ⟨q, 0, none⟩ nm HNM.out hx D dn dc0 W
      have HBAR : Hid (lookE nm ≠ 0 → ∀ W, Calls Tryz.prog 16 #[.iface 40 (.pointer (some ⟨q, 0, none⟩)), .string ⟨nm.toArray⟩] W fun e w' => e = .returned (.int .i64 91) ∧ Below W.heap.size W w') := Lib.hid fun hx W => remove_bad ⟨q, 0, none⟩ nm HNM.out hx W
      have HEND5 : Hid (∀ Z, Below W5.heap.size W5 Z → Below w.heap.size w Z) := Lib.hid fun Z hZ => HBR.out.trans (hZ.mono HBR.out.size)
      clear b0 b1 b2
      rcases hlk with rfl | hlk | rfl | ⟨hl1, hl2, hl3⟩
      · have hb : lookE [] ≠ 0 := by decide
        have hw := HBAD.out hb
        have hr := HBAR.out hb
        have HW := Lib.hid hw
        have HR := Lib.hid hr
        clear hb hw hr
        go_wp2_with (first
          | (go_at_call 10; refine (HW.out _).mono ?_; rintro e W6 ⟨rfl, hb6⟩; have HB6 := Lib.hid hb6; clear hb6)
          | (go_at_call 16; refine (HR.out _).mono ?_; rintro e W7 ⟨rfl, hb7⟩; have HB7 := Lib.hid (HB6.out.trans (hb7.mono HB6.out.size)); clear hb7)
          | fail)
        go_ret
        exact ⟨rfl, HEND5.out _ HB7.out⟩
      · have hb : lookE nm ≠ 0 := by
          unfold lookE
          rw [if_neg (fun hh => by have := ((named_iff nm).1 hh.1).2; omega)]
          decide
        have hw := HBAD.out hb
        have hr := HBAR.out hb
        have HW := Lib.hid hw
        have HR := Lib.hid hr
        have t1 : decide ((nm.length : Int) < 1) = false := by rw [decide_eq_false_iff_not]; omega
        have t2 : decide ((1024 : Int) < (nm.length : Int)) = true := by rw [decide_eq_true_eq]; omega
        have t3 : nm.isEmpty = false := by
          cases nm with
          | nil => simp at hlk
          | cons a l => rfl
        clear hb hw hr hlk
        go_wp2_with (first
          | (go_at_call 10; refine (HW.out _).mono ?_; rintro e W6 ⟨rfl, hb6⟩; have HB6 := Lib.hid hb6; clear hb6)
          | (go_at_call 16; refine (HR.out _).mono ?_; rintro e W7 ⟨rfl, hb7⟩; have HB7 := Lib.hid (HB6.out.trans (hb7.mono HB6.out.size)); clear hb7)
          | fail)
        go_ret
        exact ⟨rfl, HEND5.out _ HB7.out⟩
      · have hb : lookE [116] ≠ 0 := by decide
        have hw := HBAD.out hb
        have hr := HBAR.out hb
        have HW := Lib.hid hw
        have HR := Lib.hid hr
        clear hb hw hr
        go_wp2_with (first
          | (go_at_call 10; refine (HW.out _).mono ?_; rintro e W6 ⟨rfl, hb6⟩; have HB6 := Lib.hid hb6; clear hb6)
          | (go_at_call 16; refine (HR.out _).mono ?_; rintro e W7 ⟨rfl, hb7⟩; have HB7 := Lib.hid (HB6.out.trans (hb7.mono HB6.out.size)); clear hb7)
          | fail)
        go_ret
        exact ⟨rfl, HEND5.out _ HB7.out⟩
      have hlk : lookE nm = 0 := if_pos ⟨(named_iff nm).2 ⟨hl1, hl2⟩, hl3⟩
      have t1 : decide ((nm.length : Int) < 1) = false := by rw [decide_eq_false_iff_not]; omega
      have t2 : decide ((1024 : Int) < (nm.length : Int)) = false := by rw [decide_eq_false_iff_not]; omega
      have t3 : nm.isEmpty = false := by
        cases nm with
        | nil => simp at hl1
        | cons a l => rfl
      have t4 : (nm == [116]) = false := by rw [beq_eq_false_iff_ne]; exact hl3
      have hI2 := HK2.out.k.drv
      obtain ⟨m2, hm2⟩ : ∃ m, m = S2.image.length := ⟨_, rfl⟩
      have hm2l : m2 ≤ 1073741824 := by rw [hm2]; exact Nat.le_trans (image_len hI2) hI2.rooms
      have HM2 := Lib.hid hm2
      have HL3 := Lib.hid hl3
      have HLK := Lib.hid hlk
      have HNA := Lib.hid (And.intro hl1 hl2)
      have hh5 : h ≤ W5.heap.size := Nat.le_trans HHW.out hwr
      clear hl1 hl2 hl3 hlk
      go_wp2_with fail
      refine (wimage1 HT5.out HK2.out).mono ?_
      rintro e W6 ⟨v, rfl, hf6, hb6⟩
      obtain ⟨a6, c6, rfl, _⟩ := hf6.shape
      rw [← hm2] at hf6 ⊢
      have HF6 := Lib.hid hf6
      have HB6 := Lib.hid hb6
      have hs6 : W5.heap.size ≤ W6.heap.size := hb6.size
      have HT6 := Lib.hid (HT5.out.boxed hb6)
      obtain ⟨X7, S7, x7, hy⟩ : ∃ a b c, turnW X2 S2 nm bs = (a, b, c) := ⟨_, _, _, rfl⟩
      have hK7 : KeptM X7 S7 (5 * j + 5) (N + 5 * j + 5) r := by have := turnW_keptM HK2.out nm bs (by omega); rw [hy] at this; exact this
      have HK7 := Lib.hid hK7
      have hSE : ShowsEnd X2 S2 nm bs X7 S7 x7 := awrite_shows ((named_iff nm).2 HNA.out) HL3.out HK2.out.k (by omega) (by unfold turnW at hy; rw [if_pos HLK.out] at hy; exact hy)
      have HSE := Lib.hid hSE
      obtain ⟨cn, hcn5, hcnc, hcn1, hcn2⟩ := hSE.cnt
      have hSW : Calls Tryz.prog 18 #[.iface 40 (.pointer (some ⟨q, 0, none⟩)), .string ⟨nm.toArray⟩, .slice D dn dc0] W6 fun e w' => e = .returned (.tuple #[.int .i64 x7, .bool true]) ∧ World1 w' h (fun k => (Av k ∨ (w1.heap.size ≤ k ∧ k < w1.heap.size + 1)) ∨ (W5.heap.size ≤ k ∧ k < W6.heap.size)) dg wg mg q p mq mp X7 S7 X2 S2 ∧ Touch (fr h (fun k => (Av k ∨ (w1.heap.size ≤ k ∧ k < w1.heap.size + 1)) ∨ (W5.heap.size ≤ k ∧ k < W6.heap.size))) W6 w' := by
        have hb := HEND5.out W6 HB6.out
        exact lwrite_any W6 h dg wg mg q p mq mp _ X2 X2 S2 S2 HT6.out (by omega) _ _ _ HK2.out (by omega) (by omega) nm HNM.out D dn dc0 bs HDN.out (by omega) ((HD.out.below hb).more hb.size) (fun ad e h0 => .inl (by have h1 := HDW.out ad e h0; have h2 := HHH.out; omega)) X7 S7 x7 hy
      have HSW := Lib.hid hSW
      have HCN1 : Hid (cn ≤ 4 → x7 ≠ 0 ∧ fileOf S7.image nm = fileOf S2.image nm) := Lib.hid fun h => by rw [image_shows HK7.out.k.drv, image_shows HK2.out.k.drv]; exact hcn1 h
      have HCN2 : Hid (cn = 5 → fileOf S7.image nm = some bs) := Lib.hid fun h => by rw [image_shows HK7.out.k.drv]; exact hcn2 h
      have HOK : Hid (x7 = 0 → cn = 5 ∧ fileOf S7.image nm = some bs) := Lib.hid fun h => by
        have h5 : cn = 5 := by
          rcases Nat.lt_or_ge cn 5 with h1 | h1
          · exact absurd h (hcn1 (by omega)).1
          · omega
        exact ⟨h5, HCN2.out h5⟩
      have HOT : Hid (∀ s, s ≠ [116] → s ≠ nm → fileOf S7.image s = fileOf S2.image s) := Lib.hid fun s h1 h2 => by rw [image_shows HK7.out.k.drv, image_shows HK2.out.k.drv]; exact hSE.others s h1 h2
      have hcal0 : 0 ≤ X2.calls ∧ X2.calls ≤ 1152921504606846976 := by have := HK2.out.k.wnd.calls; omega
      have HCC := Lib.hid hcnc
      obtain ⟨c2, hc2⟩ : ∃ c2, c2 = X2.calls := ⟨_, rfl⟩
      have HC2 := Lib.hid hc2
      rw [← hc2] at hcal0 hcnc
      have HWC7 : Hid (∀ W, W = W6 → Calls Tryz.prog 26 #[.pointer (some ⟨q, 0, none⟩)] W fun e w' => e = .returned (.int .i64 c2) ∧ W = w') := Lib.hid fun W hW => by subst hW; rw [HC2.out]; exact wcalls1 HT6.out
      clear hf6 hb6 hm2 hI2 hy hK7 hSE hcn1 hcn2 hSW hc2
      go_wp2_with fail
      refine (HWC7.out _ rfl).mono ?_
      rintro e w' ⟨rfl, rfl⟩
      go_wp2_with fail
      refine HSW.out.mono ?_
      rintro e W7 ⟨rfl, hT7, ht7⟩
      have hs7 : W6.heap.size ≤ W7.heap.size := ht7.size
      have HT7 := Lib.hid hT7
      have HF7 : Hid (FilesAt W7 W5.heap.size (.slice a6 m2 c6) S2.image) := Lib.hid (HF6.out.fr ht7 fun k h1 h2 => .inr ⟨h1, h2⟩)
      have HTT7 : Hid (Touch (fr h (fun k => Av k ∨ (w1.heap.size ≤ k ∧ k < w1.heap.size + 1))) W2 W7) := Lib.hid ((HTT5.out.then_ (Touch.of_below HB6.out)).then_ (fr_mono ht7 fun k hk => .inl hk))
      obtain ⟨q7, q7l⟩ := HT7.out.qcell
      obtain ⟨m7, hm7⟩ : ∃ m, m = S7.image.length := ⟨_, rfl⟩
      have hI7 := HK7.out.k.drv
      have hm7l : m7 ≤ 1073741824 := by rw [hm7]; exact Nat.le_trans (image_len hI7) hI7.rooms
      have HM7 := Lib.hid hm7
      have HEND7 : Hid (∀ Z, Touch (fr h (fun k => Av k ∨ (w1.heap.size ≤ k ∧ k < w1.heap.size + 1))) W7 Z → Below w.heap.size w Z) := Lib.hid fun Z hZ => HBZ.out Z (HTT7.out.then_ hZ)
      clear hT7 ht7 hI7 q5 q5l
      go_wp2_with fail
      refine (wcalls1 HT7.out).mono ?_
      rintro e w' ⟨rfl, rfl⟩
      rw [HCC.out, ← HC2.out]
      obtain ⟨z, hz⟩ : ∃ z : Int, z = (cn : Int) := ⟨_, rfl⟩
      have hz0 : 0 ≤ z ∧ z ≤ 5 := by omega
      rw [← hz]
      have HZ := Lib.hid hz
      have hsub : IntKind.i64.wrap (c2 + z - c2) = z := by
        rw [show c2 + z - c2 = z by omega]
        exact IntWalk.i64_in _ (by omega)
      clear hz hcnc hcal0
      have HZ5 := Lib.hid hz0
      go_wp2_with fail
      refine (wimage1 HT7.out HK7.out).mono ?_
      rintro e W8 ⟨v, rfl, hf8, hb8⟩
      obtain ⟨a8, c8, rfl, _⟩ := hf8.shape
      rw [← hm7] at hf8 ⊢
      have hs8 : W7.heap.size ≤ W8.heap.size := hb8.size
      have HF8 := Lib.hid hf8
      have HB8 := Lib.hid hb8
      have HF78 : Hid (FilesAt W8 W5.heap.size (.slice a6 m2 c6) S2.image) := Lib.hid (HF7.out.below hb8)
      have HT8 := Lib.hid (HT7.out.boxed hb8)
      have HDR8 : Hid (Reads W8 W8.heap.size 1 D dn (bs.map B8)) := Lib.hid (by
        have hb := HEND7.out W8 (Touch.of_below hb8)
        exact (HD.out.below hb).more hb.size)
      clear hf8 hb8 hm7 hsub hz0
      obtain ⟨i7, hi7⟩ : ∃ i, i = atI S7.image nm := ⟨_, rfl⟩
      obtain ⟨i2, hi2⟩ : ∃ i, i = atI S2.image nm := ⟨_, rfl⟩
      have HI7 := Lib.hid hi7
      have HI2 := Lib.hid hi2
      have HA7 : Hid (∀ W, W = W8 → Calls Tryz.prog 27 #[.slice a8 m7 c8, .string ⟨nm.toArray⟩] W fun e w' => e = .returned (.int .i64 i7) ∧ W = w') := Lib.hid fun W hW => by
        subst hW
        rw [hi7]
        exact at_at S7.image W7.heap.size a8 c8 m7 HM7.out nm W HF8.out (by omega)
      have HA2 : Hid (∀ W, W = W8 → Calls Tryz.prog 27 #[.slice a6 m2 c6, .string ⟨nm.toArray⟩] W fun e w' => e = .returned (.int .i64 i2) ∧ W = w') := Lib.hid fun W hW => by
        subst hW
        rw [hi2]
        exact at_at S2.image W5.heap.size a6 c6 m2 HM2.out nm W HF78.out (by omega)
      have HTU : Hid (Calls Tryz.prog 15 #[.slice a6 m2 c6, .slice a8 m7 c8, .string ⟨nm.toArray⟩, .slice D dn dc0, .int .i64 x7] W8 fun e w' => e = .returned (.bool true) ∧ ∃ n, w' = W8.drewN n) := Lib.hid (turned_any S2.image S7.image W5.heap.size W7.heap.size a6 a8 m2 m7 c6 c8 HM2.out HM7.out W8 HF78.out HF8.out (by omega) (by omega) nm D dn dc0 bs HDN.out HDR8.out x7 (fun k f hk => image_own k f hk) (by
        by_cases h5 : cn = 5
        · exact .inr (.inl (HCN2.out h5))
        · have := HCN1.out (by omega)
          exact .inr (.inr this)) HOT.out)
      clear hi7 hi2
      go_wp2_with fail
      refine (HA7.out _ rfl).mono ?_
      rintro e w' ⟨rfl, rfl⟩
      go_wp2_with fail
      refine (HA2.out _ rfl).mono ?_
      rintro e w' ⟨rfl, rfl⟩
      go_upto_region 22 with fail
      go_cut [125] (fun s125 wx => s125 = .bool false ∧ Hid (∃ n, wx = W8.drewN n))
      case first =>
        as_aux_lemma =>
          by_cases hx : x7 = 0
          · have h5 := (HOK.out hx).1
            have hz5 : z = 5 := by rw [HZ.out, h5]; rfl
            subst hx hz5
            clear h5
            go_wp2_with fail
            refine HTU.out.mono ?_
            rintro e w' ⟨rfl, nd, hnd⟩
            have HW := Lib.hid hnd
            clear hnd
            go_wp2_with fail
            go_meet
            exact ⟨rfl, Lib.hid ⟨_, HW.out⟩⟩
          · have t5 : (x7 == 0) = false := by rw [beq_eq_false_iff_ne]; exact hx
            clear hx
            go_wp2_with fail
            refine HTU.out.mono ?_
            rintro e w' ⟨rfl, nd, hnd⟩
            have HW := Lib.hid hnd
            clear hnd
            go_wp2_with fail
            go_meet
            exact ⟨rfl, Lib.hid ⟨_, HW.out⟩⟩
      case rest =>
      obtain ⟨W9, rfl⟩ : ∃ x, x = wc := ⟨_, rfl⟩
      obtain ⟨rfl, HW9⟩ := hcut
      have HF9a : Hid (FilesAt W9 W5.heap.size (.slice a6 m2 c6) S2.image) := Lib.hid (by obtain ⟨q, e⟩ := HW9.out; rw [e]; exact HF78.out.drewN q)
      have HF9b : Hid (FilesAt W9 W7.heap.size (.slice a8 m7 c8) S7.image) := Lib.hid (by obtain ⟨q, e⟩ := HW9.out; rw [e]; exact HF8.out.drewN q)
      have HD9 : Hid (Reads W9 W9.heap.size 1 D dn (bs.map B8)) := Lib.hid (by obtain ⟨q, e⟩ := HW9.out; rw [e]; exact HDR8.out.drewN q)
      have HWD9 : Hid (∀ q, ∃ n, W9.drewN q = W8.drewN n) := Lib.hid fun q => by obtain ⟨r, e⟩ := HW9.out; exact ⟨r + q, by rw [e, World.drewN_drewN]⟩
      have HI7L : Hid (∀ k : Nat, i7 = k → k < m7) := Lib.hid fun k hk => by
        rcases atI_cases S7.image nm with ⟨h1, _⟩ | ⟨k2, f, h1, h2, _, _⟩
        · have := HI7.out.symm.trans hk; omega
        · have h3 := (List.getElem?_eq_some_iff.1 h2).1
          have := HI7.out.symm.trans hk
          rw [HM7.out]
          omega
      go_upto_region 24 with fail
      go_cut [165] (fun s165 wx => s165 = .bool false ∧ Hid (∃ n, wx = W8.drewN n))
      case first =>
        as_aux_lemma =>
          by_cases hx : x7 = 0
          · subst hx
            go_big_quiet (fail)
            go_wp2_with fail
            go_meet
            exact ⟨rfl, Lib.hid (HWD9.out _)⟩
          · have t5 : (x7 == 0) = false := by rw [beq_eq_false_iff_ne]; exact hx
            have t6 : (x7 != 0) = true := by rw [bne_iff_ne]; exact hx
            clear hx
            by_cases h4 : cn ≤ 4
            · have hsame := (HCN1.out h4).2
              have t7 : decide (z ≤ 4) = true := by rw [decide_eq_true_eq, HZ.out]; omega
              clear h4
              rcases atI_cases S7.image nm with ⟨h1, h2⟩ | ⟨k, f, h1, h2, h3, h5⟩
              · have hi := HI7.out.trans h1
                rcases atI_cases S2.image nm with ⟨g1, g2⟩ | ⟨k2, f2, g1, g2, g3, g4⟩
                · have hj := HI2.out.trans g1
                  subst hi hj
                  clear h1 h2 g1 g2 hsame
                  go_big_quiet (fail)
                  go_wp2_with fail
                  go_meet
                  exact ⟨rfl, Lib.hid (HWD9.out _)⟩
                · rw [h2, g4] at hsame; cases hsame
              · have hi := HI7.out.trans h1
                rcases atI_cases S2.image nm with ⟨g1, g2⟩ | ⟨k2, f2, g1, g2, g3, g4⟩
                · rw [h5, g2] at hsame; cases hsame
                · have hj := HI2.out.trans g1
                  subst hi hj
                  have hlt : k < m7 := by rw [HM7.out]; exact (List.getElem?_eq_some_iff.1 h2).1
                  have hlt2 : k2 < m2 := by rw [HM2.out]; exact (List.getElem?_eq_some_iff.1 g2).1
                  obtain ⟨g, xb, db, rfl, y0, y1, _, hrb⟩ := HF9b.out.at_ HM7.out h2
                  obtain ⟨g', xa, da, rfl, z0, z1, _, hra⟩ := HF9a.out.at_ HM2.out g2
                  have hvb : ∀ m, (convert 26 9 (.slice xb f.2.length db)).run Tryz.prog (W9.drewN m) = .ok (.string ⟨f.2.toArray⟩) (W9.drewN m) := fun m => conv_any _ W9.heap.size xb f.2 db ((Reads.of_own hrb).drewN m)
                  have hva : ∀ m, (convert 26 9 (.slice xa f2.2.length da)).run Tryz.prog (W9.drewN m) = .ok (.string ⟨f2.2.toArray⟩) (W9.drewN m) := fun m => conv_any _ W9.heap.size xa f2.2 da ((Reads.of_own hra).drewN m)
                  have hdd : f.2 = f2.2 := by rw [h5, g4] at hsame; exact Option.some.inj hsame
                  obtain ⟨f1, fd⟩ := f
                  obtain ⟨e1, ed⟩ := f2
                  simp only [strV] at y0 y1 hvb z0 z1 hva hdd
                  generalize fd.length = lf at y1 hvb
                  generalize ed.length = le at z1 hva
                  have e1 : (fd == ed) = true := by rw [beq_iff_eq]; exact hdd
                  have e2 : (fd != ed) = false := by rw [hdd]; simp
                  have u1 : decide ((k : Int) < 0) = false := by rw [decide_eq_false_iff_not]; omega
                  have u2 : decide ((0 : Int) ≤ (k : Int)) = true := by rw [decide_eq_true_eq]; omega
                  have u3 : decide ((k2 : Int) < 0) = false := by rw [decide_eq_false_iff_not]; omega
                  have u4 : decide ((0 : Int) ≤ (k2 : Int)) = true := by rw [decide_eq_true_eq]; omega
                  have l1 : decide ((k : Int) < (m7 : Int)) = true := by rw [decide_eq_true_eq]; omega
                  have l2 : decide ((k2 : Int) < (m2 : Int)) = true := by rw [decide_eq_true_eq]; omega
                  clear h1 h2 h3 h5 g1 g2 g3 g4 hsame hrb hra hdd
                  go_big_quiet (fail)
                  go_wp2_with fail
                  go_meet
                  exact ⟨rfl, Lib.hid (HWD9.out _)⟩
            · have hz5 : z = 5 := by rw [HZ.out]; omega
              subst hz5
              clear h4
              go_big_quiet (fail)
              go_wp2_with fail
              go_meet
              exact ⟨rfl, Lib.hid (HWD9.out _)⟩
      case rest =>
      obtain ⟨W10, rfl⟩ : ∃ x, x = wc := ⟨_, rfl⟩
      obtain ⟨rfl, HW10⟩ := hcut
      clear HF9a HF9b HD9 HWD9 HW9
      have HF10 : Hid (FilesAt W10 W7.heap.size (.slice a8 m7 c8) S7.image) := Lib.hid (by obtain ⟨q, e⟩ := HW10.out; rw [e]; exact HF8.out.drewN q)
      have HD10 : Hid (Reads W10 W10.heap.size 1 D dn (bs.map B8)) := Lib.hid (by obtain ⟨q, e⟩ := HW10.out; rw [e]; exact HDR8.out.drewN q)
      have HWD10 : Hid (∀ q, ∃ n, W10.drewN q = W8.drewN n) := Lib.hid fun q => by obtain ⟨r, e⟩ := HW10.out; exact ⟨r + q, by rw [e, World.drewN_drewN]⟩
      go_upto_region 26 with fail
      go_cut [182] (fun s182 wx => s182 = .bool false ∧ Hid (∃ n, wx = W8.drewN n))
      case first =>
        as_aux_lemma =>
          by_cases h5 : cn = 5
          · have hz5 : z = 5 := by rw [HZ.out, h5]; rfl
            have hbs := HCN2.out h5
            rcases atI_cases S7.image nm with ⟨h1, h2⟩ | ⟨k, f, h1, h2, h3, h4⟩
            · rw [h2] at hbs; cases hbs
            · have hi := HI7.out.trans h1
              subst hi hz5
              have hlt : k < m7 := by rw [HM7.out]; exact (List.getElem?_eq_some_iff.1 h2).1
              obtain ⟨g, xb, db, rfl, y0, y1, _, hrb⟩ := HF10.out.at_ HM7.out h2
              have hvb : ∀ m, (convert 26 9 (.slice xb f.2.length db)).run Tryz.prog (W10.drewN m) = .ok (.string ⟨f.2.toArray⟩) (W10.drewN m) := fun m => conv_any _ W10.heap.size xb f.2 db ((Reads.of_own hrb).drewN m)
              have hvd : ∀ m, (convert 26 9 (.slice D dn dc0)).run Tryz.prog (W10.drewN m) = .ok (.string ⟨bs.toArray⟩) (W10.drewN m) := fun m => by have hr := HD10.out.drewN m; rw [HDN.out] at hr ⊢; exact conv_any _ _ D bs dc0 hr
              have hdd : f.2 = bs := by rw [h4] at hbs; exact Option.some.inj hbs
              obtain ⟨f1, fd⟩ := f
              simp only [strV] at y0 y1 hvb hdd
              generalize fd.length = lf at y1 hvb
              have e1 : (fd == bs) = true := by rw [beq_iff_eq]; exact hdd
              have e2 : (fd != bs) = false := by rw [hdd]; simp
              have u1 : decide ((k : Int) < 0) = false := by rw [decide_eq_false_iff_not]; omega
              have u2 : decide ((0 : Int) ≤ (k : Int)) = true := by rw [decide_eq_true_eq]; omega
              have l1 : decide ((k : Int) < (m7 : Int)) = true := by rw [decide_eq_true_eq]; omega
              clear h1 h2 h3 h4 h5 hbs hrb hdd
              go_big_quiet (fail)
              go_wp2_with fail
              go_meet
              exact ⟨rfl, Lib.hid (HWD10.out _)⟩
          · have t5 : (z == 5) = false := by rw [beq_eq_false_iff_ne, HZ.out]; omega
            have t6 : (z != 5) = true := by rw [bne_iff_ne, HZ.out]; omega
            clear h5
            go_big_quiet (fail)
            go_wp2_with fail
            go_meet
            exact ⟨rfl, Lib.hid (HWD10.out _)⟩
      case rest =>
      obtain ⟨W11, rfl⟩ : ∃ x, x = wc := ⟨_, rfl⟩
      obtain ⟨rfl, HW11⟩ := hcut
      clear HF10 HD10 HWD10 HW10
      have hs11 : W11.heap.size = W8.heap.size := by obtain ⟨q, e⟩ := HW11.out; rw [e]; rfl
      have HF11 : Hid (FilesAt W11 W7.heap.size (.slice a8 m7 c8) S7.image) := Lib.hid (by obtain ⟨q, e⟩ := HW11.out; rw [e]; exact HF8.out.drewN q)
      have hb811 : Below W8.heap.size W8 W11 := by obtain ⟨q, e⟩ := HW11.out; rw [e]; exact below_drewN (Below.refl _ _) q
      have HT11 := Lib.hid (HT8.out.below hb811)
      have HTT11 : Hid (Touch (fr h (fun k => Av k ∨ (w1.heap.size ≤ k ∧ k < w1.heap.size + 1))) W7 W11) := Lib.hid ((Touch.of_below HB8.out).then_ (Touch.of_below hb811))
      obtain ⟨X9, S9, x9, hy⟩ : ∃ a b c, removeW X7 S7 nm = (a, b, c) := ⟨_, _, _, rfl⟩
      have hK9 : KeptM X9 S9 (5 * j + 5 + 2) (N + 5 * j + 5 + 2) r := by have := removeW_keptM HK7.out nm (by omega); rw [hy] at this; exact this
      have hRM := aremove_shows HK7.out.k (show aremove X7 S7 nm = (X9, S9, x9) by unfold removeW at hy; rw [if_pos HLK.out] at hy; exact hy)
      have HK9 := Lib.hid hK9
      have HR1 : Hid (∀ s, s ≠ nm → fileOf S9.image s = fileOf S7.image s) := Lib.hid fun s hs => by rw [image_shows HK9.out.k.drv, image_shows HK7.out.k.drv]; exact hRM.1 s hs
      have HR2 : Hid (fileOf S9.image nm = fileOf S7.image nm ∨ fileOf S9.image nm = none) := Lib.hid (by rw [image_shows HK9.out.k.drv, image_shows HK7.out.k.drv]; exact hRM.2.1)
      have HR3 : Hid (x9 = 0 → fileOf S9.image nm = none) := Lib.hid fun h => by rw [image_shows HK9.out.k.drv]; exact hRM.2.2 h
      have hh11 : h ≤ W11.heap.size := by omega
      have HRW : Hid (Calls Tryz.prog 16 #[.iface 40 (.pointer (some ⟨q, 0, none⟩)), .string ⟨nm.toArray⟩] W11 fun e w' => e = .returned (.int .i64 x9) ∧ World1 w' h (fun k => ((Av k ∨ (w1.heap.size ≤ k ∧ k < w1.heap.size + 1)) ∨ (W5.heap.size ≤ k ∧ k < W6.heap.size)) ∨ (W7.heap.size ≤ k ∧ k < W8.heap.size)) dg wg mg q p mq mp X9 S9 X2 S2 ∧ Touch (fr h (fun k => ((Av k ∨ (w1.heap.size ≤ k ∧ k < w1.heap.size + 1)) ∨ (W5.heap.size ≤ k ∧ k < W6.heap.size)) ∨ (W7.heap.size ≤ k ∧ k < W8.heap.size))) W11 w') := Lib.hid (by
        have j := remove1 HT11.out hh11 HK7.out (by omega) (by omega) nm HNM.out
        rw [hy] at j
        exact j)
      clear hb811 hK9 hRM hy
      go_wp2_with fail
      refine HRW.out.mono ?_
      rintro e W12 ⟨rfl, hT12, ht12⟩
      have hs12 : W11.heap.size ≤ W12.heap.size := ht12.size
      have HT12 := Lib.hid hT12
      have HF12 : Hid (FilesAt W12 W7.heap.size (.slice a8 m7 c8) S7.image) := Lib.hid (HF11.out.fr ht12 fun k h1 h2 => .inr ⟨h1, by omega⟩)
      have HTT12 : Hid (Touch (fr h (fun k => Av k ∨ (w1.heap.size ≤ k ∧ k < w1.heap.size + 1))) W7 W12) := Lib.hid (HTT11.out.then_ (fr_mono ht12 fun k hk => .inl (.inl hk)))
      obtain ⟨q12, q12l⟩ := hT12.qcell
      obtain ⟨m9, hm9⟩ : ∃ m, m = S9.image.length := ⟨_, rfl⟩
      have hI9 := HK9.out.k.drv
      have hm9l : m9 ≤ 1073741824 := by rw [hm9]; exact Nat.le_trans (image_len hI9) hI9.rooms
      have HM9 := Lib.hid hm9
      clear hT12 ht12 hI9 q7 q7l
      go_wp2_with fail
      refine (wimage1 HT12.out HK9.out).mono ?_
      rintro e W13 ⟨v, rfl, hf13, hb13⟩
      obtain ⟨a9, c9, rfl, _⟩ := hf13.shape
      rw [← hm9] at hf13 ⊢
      have hs13 : W12.heap.size ≤ W13.heap.size := hb13.size
      have HF13 := Lib.hid hf13
      have HF13b : Hid (FilesAt W13 W7.heap.size (.slice a8 m7 c8) S7.image) := Lib.hid (HF12.out.below hb13)
      have HTT13 : Hid (Touch (fr h (fun k => Av k ∨ (w1.heap.size ≤ k ∧ k < w1.heap.size + 1))) W7 W13) := Lib.hid (HTT12.out.then_ (Touch.of_below hb13))
      have HD13 : Hid (Reads W13 W13.heap.size 1 D dn (bs.map B8)) := Lib.hid (by
        have hb := HEND7.out W13 (HTT12.out.then_ (Touch.of_below hb13))
        exact (HD.out.below hb).more hb.size)
      clear hf13 hb13 hm9
      obtain ⟨i9, hi9⟩ : ∃ i, i = atI S9.image nm := ⟨_, rfl⟩
      have HI9 := Lib.hid hi9
      have HA9 : Hid (∀ n W, W = W13.drewN n → Calls Tryz.prog 27 #[.slice a9 m9 c9, .string ⟨nm.toArray⟩] W fun e w' => e = .returned (.int .i64 i9) ∧ W = w') := Lib.hid fun n W hW => by
        subst hW
        rw [hi9]
        exact at_at S9.image W12.heap.size a9 c9 m9 HM9.out nm _ (HF13.out.drewN n) (by omega)
      have H9N : Hid (fileOf S9.image nm = none → i9 = -1) := Lib.hid fun h0 => by
        rcases atI_cases S9.image nm with ⟨h1, _⟩ | ⟨k, f, h1, h2, h3, h4⟩
        · exact HI9.out.trans h1
        · rw [h0] at h4; cases h4
      clear hi9
      go_upto_region 30 with fail
      go_cut [199] (fun s199 wx => s199 = .bool false ∧ wx = W13)
      case first =>
        as_aux_lemma =>
          by_cases hx : x9 = 0
          · have hi := H9N.out (HR3.out hx)
            subst hx hi
            go_wp2_with fail
            have j14 := HA9.out 0 W13 rfl
            refine j14.mono ?_
            clear j14
            rintro e w' ⟨rfl, rfl⟩
            go_wp2_with fail
            go_meet
            exact ⟨rfl, rfl⟩
          · have t5 : (x9 == 0) = false := by rw [beq_eq_false_iff_ne]; exact hx
            clear hx
            go_wp2_with fail
            go_meet
            exact ⟨rfl, rfl⟩
      case rest =>
      obtain ⟨rfl, rfl⟩ := hcut
      obtain ⟨W13, rfl⟩ : ∃ x, x = wc := ⟨_, rfl⟩
      by_cases hsm : fileOf S9.image nm = fileOf S7.image nm
      · have HTU2 : Hid (Calls Tryz.prog 15 #[.slice a8 m7 c8, .slice a9 m9 c9, .string ⟨nm.toArray⟩, .slice D dn dc0, .int .i64 120] W13 fun e w' => e = .returned (.bool true) ∧ ∃ n, w' = W13.drewN n) := Lib.hid (turned_any S7.image S9.image W7.heap.size W12.heap.size a8 a9 m7 m9 c8 c9 HM7.out HM9.out W13 HF13b.out HF13.out (by omega) (by omega) nm D dn dc0 bs HDN.out HD13.out 120 (fun k f hk => image_own k f hk) (.inr (.inr ⟨by decide, hsm⟩)) (fun s _ h2 => HR1.out s h2))
        clear hsm
        go_wp2_with fail
        refine HTU2.out.mono ?_
        rintro e W14 ⟨rfl, n14, hn14⟩
        have HW14 := Lib.hid hn14
        clear hn14
        go_wp2_with fail
        go_ret
        exact ⟨rfl, HEND7.out _ (HTT13.out.then_ (by rw [HW14.out]; exact Touch.of_below (below_drewN (Below.refl _ _) _)))⟩
      · have hno : fileOf S9.image nm = none := HR2.out.resolve_left hsm
        have hi := H9N.out hno
        have HTU2 : Hid (Calls Tryz.prog 15 #[.slice a8 m7 c8, .slice a9 m9 c9, .string ⟨nm.toArray⟩, .slice D dn dc0, .int .i64 120] W13 fun e w' => e = .returned (.bool false) ∧ ∃ n, w' = W13.drewN n) := Lib.hid (turned_no S7.image S9.image W7.heap.size W12.heap.size a8 a9 m7 m9 c8 c9 HM7.out HM9.out W13 HF13b.out HF13.out (by omega) (by omega) nm D dn dc0 bs HDN.out HD13.out 120 HL3.out (by rw [hno]; exact fun e => by cases e) hsm)
        have HNO := Lib.hid hno
        subst hi
        clear hsm hno
        go_wp2_with fail
        refine HTU2.out.mono ?_
        rintro e W14 ⟨rfl, n14, hn14⟩
        have HW14 := Lib.hid hn14
        clear hn14
        go_wp2_with fail
        refine (HA9.out n14 W14 HW14.out).mono ?_
        rintro e w' ⟨rfl, rfl⟩
        have HF14 : Hid (FilesAt W14 W7.heap.size (.slice a8 m7 c8) S7.image) := Lib.hid (by rw [HW14.out]; exact HF13b.out.drewN _)
        have HF14b : Hid (FilesAt W14 W12.heap.size (.slice a9 m9 c9) S9.image) := Lib.hid (by rw [HW14.out]; exact HF13.out.drewN _)
        have hs14 : W14.heap.size = W13.heap.size := by rw [HW14.out]; rfl
        have HTT14 : Hid (Touch (fr h (fun k => Av k ∨ (w1.heap.size ≤ k ∧ k < w1.heap.size + 1))) W7 W14) := Lib.hid (HTT13.out.then_ (by rw [HW14.out]; exact Touch.of_below (below_drewN (Below.refl _ _) _)))
        go_wp2_with fail
        refine (without_any S7.image W7.heap.size a8 c8 m7 HM7.out nm W14 HF14.out (by omega) (by omega)).mono ?_
        rintro e W15 ⟨v15, rfl, hf15, hb15⟩
        obtain ⟨a15, c15, rfl, _⟩ := hf15.shape
        have HF15b : Hid (FilesAt W15 W12.heap.size (.slice a9 m9 c9) S9.image) := Lib.hid (HF14b.out.below hb15)
        have HTT15 : Hid (Touch (fr h (fun k => Av k ∨ (w1.heap.size ≤ k ∧ k < w1.heap.size + 1))) W7 W15) := Lib.hid (HTT14.out.then_ (Touch.of_below hb15))
        have HD15 : Hid (Reads W15 W15.heap.size 1 D dn (bs.map B8)) := Lib.hid (by
          have hb := HEND7.out W15 HTT15.out
          exact (HD.out.below hb).more hb.size)
        have hwl : (withoutK S7.image nm).length ≤ 1099511627776 := by have := without_le S7.image nm; rw [← HM7.out] at this; omega
        have HTU3 : Hid (Calls Tryz.prog 15 #[.slice a15 (withoutK S7.image nm).length c15, .slice a9 m9 c9, .string ⟨nm.toArray⟩, .slice D dn dc0, .int .i64 120] W15 fun e w' => e = .returned (.bool true) ∧ ∃ n, w' = W15.drewN n) := Lib.hid (turned_any (withoutK S7.image nm) S9.image W7.heap.size W12.heap.size a15 a9 _ m9 c15 c9 rfl HM9.out W15 hf15 HF15b.out hwl (by omega) nm D dn dc0 bs HDN.out HD15.out 120 (fun k f hk => image_own k f hk) (.inr (.inr ⟨by decide, by rw [HNO.out, fileOf_without, if_pos rfl]⟩)) (fun s _ h2 => by rw [fileOf_without, if_neg h2]; exact HR1.out s h2))
        clear hf15 hb15 hwl
        go_wp2_with fail
        refine HTU3.out.mono ?_
        rintro e W16 ⟨rfl, n16, hn16⟩
        have HW16 := Lib.hid hn16
        clear hn16
        go_wp2_with fail
        go_ret
        exact ⟨rfl, HEND7.out _ (HTT15.out.then_ (by rw [HW16.out]; exact Touch.of_below (below_drewN (Below.refl _ _) _)))⟩
end Go.Proofs.YtdmcjomcbhdcbaaGreat
namespace Go.Proofs.YtdmcjomcbhdcbaaGreat
open Go.RowKit Go.Maps

set_option maxRecDepth 100000 in
set_option maxHeartbeats 8000000 in
theorem alone_no (w : World) (x : PPlace) (L : PlLay) (hx : PlaceIn w x L) (hok : x.ok = false) (A : Option Addr) (n c : Nat) (nm : Nm) (D : Option Addr) (dn dc0 : Nat) :
    Calls Tryz.prog 5 #[.agg (placeCells x L).toArray, .slice A n c, .string ⟨nm.toArray⟩, .slice D dn dc0] w fun e w' => e = .returned (.bool true) ∧ Below w.heap.size w w' := by
  have HMK : Hid (∀ W1, Below w.heap.size w W1 → Calls Tryz.prog 9 #[.slice (some ⟨W1.heap.size, 0, none⟩) 1 1] (W1.alloc (.cells (placeCells x L).toArray 25)) fun e w' => ∃ dg dc wg wc mg mc, e = .returned (.tuple #[bothV dg dc wg wc mg mc, .bool true]) ∧ Rows0 w' dg wg mg ∧ Caps dc wc mc ∧ Below W1.heap.size W1 w') := Lib.hid fun W1 hb1 => make_behind0 w x L hx hok W1 hb1
  clear hx hok
  obtain ⟨there, room, fs, plan, off, fused, R, C, I⟩ := x
  obtain ⟨fa, fc, pa, plc⟩ := L
  obtain ⟨nf, hnf⟩ : ∃ nf, nf = fs.length := ⟨_, rfl⟩
  obtain ⟨np, hnp⟩ : ∃ np, np = plan.length := ⟨_, rfl⟩
  unfold placeCells bothV at HMK
  unfold placeCells
  simp only at HMK ⊢
  rw [← hnf, ← hnp] at HMK
  rw [← hnf, ← hnp]
  clear hnf hnp
  go_enter Tryz.func5, Tryz.ntmps5
  go_upto_region 1 with fail
  refine wp_world fun V0 hV0 => ?_
  have hb0 : Below w.heap.size w V0 := by rw [hV0]; exact (Below.refl _ _).alloc (Nat.le_refl _) _
  have HPB0 : Hid (Blk V0 w.heap.size 25 #[.bool there, .int .i64 room, .slice fa nf fc, .slice pa np plc, .bool off, .bool fused, .int .i64 R, .int .i64 C, .int .i64 I]) := Lib.hid (by rw [hV0]; exact Blk.new _ _ _)
  have hs0 : w.heap.size + 1 = V0.heap.size := by rw [hV0]; simp
  have HB0 := Lib.hid hb0
  clear hV0 hb0
  go_upto_region 3 with (go_at_call 8; refine (awake_any V0).mono ?_; rintro e W1 ⟨rfl, hb1⟩; have HB1 := Lib.hid hb1; have hpb1 := HPB0.out.below hb1 HPB0.out.lt; have p0 := hpb1.cell 0; have p1 := hpb1.cell 1; have p2 := hpb1.cell 2; have p3 := hpb1.cell 3; have p4 := hpb1.cell 4; have p5 := hpb1.cell 5; have p6 := hpb1.cell 6; have p7 := hpb1.cell 7; have p8 := hpb1.cell 8; simp at p0 p1 p2 p3 p4 p5 p6 p7 p8; clear hb1 hpb1)
  have hs1 : V0.heap.size ≤ W1.heap.size := HB1.out.size
  have HBW1 : Hid (Below w.heap.size w W1) := Lib.hid (HB0.out.trans (HB1.out.mono (by omega)))
  have hw1l : w.heap.size < W1.heap.size := by omega
  go_upto_region 4 with (first
    | (go_at_call 9; (refine (HMK.out _ HBW1.out).mono ?_); rintro e w1 ⟨dg, dc, wg, wc, mg, mc, rfl, hT1, hcap, hb1⟩; have HBM := Lib.hid hb1; have hwu := hT1.u; have hwl := hT1.ul; have hwc := hcap.u; clear hT1 hcap hb1)
    | fail)
  clear p0 p1 p2 p3 p4 p5 p6 p7 p8
  have hsm : W1.heap.size ≤ w1.heap.size := HBM.out.size
  have h01 : (0 : Int) < ((1 : Nat) : Int) := by omega
  go_wp2_with (go_at_call 10; refine (write_nil _ none 0 0 _).mono ?_; rintro e W4 ⟨rfl, hb4⟩; have HB4 := Lib.hid hb4; clear hb4)
  go_ret
  have h5 : Below w.heap.size w (w1.alloc (.cells #[.slice (some ⟨dg, 0, none⟩) 1 dc, .slice (some ⟨wg, 0, none⟩) 1 wc, .slice (some ⟨mg, 0, none⟩) 1 mc] 36)) := (HBW1.out.trans (HBM.out.mono (by omega))).alloc (by omega) _
  exact ⟨rfl, h5.trans (HB4.out.mono h5.size)⟩
end Go.Proofs.YtdmcjomcbhdcbaaGreat
