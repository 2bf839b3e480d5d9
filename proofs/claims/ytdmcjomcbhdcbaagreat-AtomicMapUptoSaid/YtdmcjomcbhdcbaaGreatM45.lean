/- AtomicMap, walked: over a place with a drive. (Printed by gen_Vk.py; its loop is R/XVk.part.); AtomicMap, walked: over a place without a drive; what a place's drive holds at the beginning. -/
import Derived.Test.YtdmcjomcbhdcbaaGreatM44
import Derived.Test.YtdmcjomcbhdcbaaGreatM40
import Derived.BigQuiet
import Derived.Deep.DeepCutAuto
import Derived.Test.YtdmcjomcbhdcbaaGreatM41
set_option linter.unusedVariables false
namespace Go.Proofs.YtdmcjomcbhdcbaaGreat
open Go.RowKit Go.Maps

set_option maxRecDepth 100000 in
set_option maxHeartbeats 8000000 in
theorem map_yes (w : World) (x : PPlace) (L : PlLay) (hx : PlaceIn w x L) (hok : x.ok = true) (A : Option Addr) (n c : Nat) (xs : List (PStp × SLay)) (hn : n = xs.length) (hnc : n ≤ c) (hst : StepsIn w w.heap.size A xs) (hn2 : n ≤ 1048576) (N r : Nat) (hK : KeptM x.wnd x.drv 0 N r) (hN : N ≤ 1048576)
    (hH0 : Holds x.drv (fun s y => y = x.drv.shows s)) :
    Calls Tryz.prog 4 #[.agg (placeCells x L).toArray, .slice A n c] w fun e w' => e = .returned (.bool true) ∧ Below w.heap.size w w' := by
  have HMK : Hid (∀ W1, Below w.heap.size w W1 → Calls Tryz.prog 9 #[.slice (some ⟨W1.heap.size, 0, none⟩) 1 1] (W1.alloc (.cells (placeCells x L).toArray 25)) fun e w' => ∃ dg dc wg wc mg mc q p mq mp Av, e = .returned (.tuple #[bothV dg dc wg wc mg mc, .bool true]) ∧ World1 w' (W1.heap.size + 1) Av dg wg mg q p mq mp x.wnd x.drv x.wnd x.drv ∧ Caps dc wc mc ∧ Below W1.heap.size W1 w' ∧ W1.heap.size + 1 ≤ w'.heap.size) := Lib.hid fun W1 hb1 => make_behind w x L hx hok W1 hb1
  have HN := Lib.hid hn
  have HST := Lib.hid hst
  have HKM := Lib.hid hK
  have HH0 := Lib.hid hH0
  generalize x.wnd = X0 at HMK HKM
  generalize x.drv = S0 at HMK HKM HH0
  clear hx hok hn hst hK hH0
  obtain ⟨there, room, fs, plan, off, fused, R, C, I⟩ := x
  obtain ⟨fa, fc, pa, plc⟩ := L
  obtain ⟨nf, hnf⟩ : ∃ nf, nf = fs.length := ⟨_, rfl⟩
  obtain ⟨np, hnp⟩ : ∃ np, np = plan.length := ⟨_, rfl⟩
  unfold placeCells bothV at HMK
  unfold placeCells
  simp only at HMK ⊢
  rw [← hnf, ← hnp] at HMK
  rw [← hnf, ← hnp]
  clear hnf hnp
  go_enter Tryz.func4, Tryz.ntmps4
  go_upto_region 1 with fail
  refine wp_world fun V0 hV0 => ?_
  have hb0 : Below w.heap.size w V0 := by rw [hV0]; exact (Below.refl _ _).alloc (Nat.le_refl _) _
  have HPB0 : Hid (Blk V0 w.heap.size 25 #[.bool there, .int .i64 room, .slice fa nf fc, .slice pa np plc, .bool off, .bool fused, .int .i64 R, .int .i64 C, .int .i64 I]) := Lib.hid (by rw [hV0]; exact Blk.new _ _ _)
  have hs0 : w.heap.size + 1 = V0.heap.size := by rw [hV0]; simp
  have HB0 := Lib.hid hb0
  clear hV0 hb0
  go_upto_region 3 with (go_at_call 8; refine (awake_any V0).mono ?_; rintro e W1 ⟨rfl, hb1⟩; have HB1 := Lib.hid hb1; have hpb1 := HPB0.out.below hb1 HPB0.out.lt; have p0 := hpb1.cell 0; have p1 := hpb1.cell 1; have p2 := hpb1.cell 2; have p3 := hpb1.cell 3; have p4 := hpb1.cell 4; have p5 := hpb1.cell 5; have p6 := hpb1.cell 6; have p7 := hpb1.cell 7; have p8 := hpb1.cell 8; simp at p0 p1 p2 p3 p4 p5 p6 p7 p8; clear hb1 hpb1)
  have hs1 : V0.heap.size ≤ W1.heap.size := HB1.out.size
  have HBW1 : Hid (Below w.heap.size w W1) := Lib.hid (HB0.out.trans (HB1.out.mono (by omega)))
  have hw1l : w.heap.size < W1.heap.size := by omega
  go_upto_region 4 with (first
    | (go_at_call 9; (refine (HMK.out _ HBW1.out).mono ?_); rintro e w1 ⟨dg, dc, wg, wc, mg, mc, q, p, mq, mp, Av, rfl, hT1, hcap, hb1, hsw⟩; have HT1 := Lib.hid hT1; have HCAP := Lib.hid hcap; have HBM := Lib.hid hb1; clear hT1 hcap hb1)
    | fail)
  clear p0 p1 p2 p3 p4 p5 p6 p7 p8
  refine wp_world fun W2 hW2 => ?_
  have hb12 : Below w1.heap.size w1 W2 := by rw [hW2]; exact (Below.refl _ w1).alloc (Nat.le_refl _) _
  have hs2 : W2.heap.size = w1.heap.size + 1 := by rw [hW2]; simp
  have hbk : Blk W2 w1.heap.size 36 #[.slice (some ⟨dg, 0, none⟩) 1 dc, .slice (some ⟨wg, 0, none⟩) 1 wc, .slice (some ⟨mg, 0, none⟩) 1 mc] := by rw [hW2]; exact blk_last _ _ _ _ rfl
  have HB2 : Hid (Below W1.heap.size W1 W2) := Lib.hid (HBM.out.trans (hb12.mono (by omega)))
  have hT2 := HT1.out.boxed hb12
  rw [hs2] at hT2
  have HT2 := Lib.hid hT2
  obtain ⟨h, hh⟩ : ∃ h, h = W1.heap.size + 1 := ⟨_, rfl⟩
  rw [← hh] at HT2
  have HHW : Hid (h ≤ W2.heap.size) := Lib.hid (by omega)
  have HBK : Hid (∀ Z, Touch (fr h (fun k => Av k ∨ (w1.heap.size ≤ k ∧ k < w1.heap.size + 1))) W2 Z → Z.cell? ⟨w1.heap.size, 0, none⟩ = some (.slice (some ⟨dg, 0, none⟩) 1 dc) ∧ Z.cell? ⟨w1.heap.size, 1, none⟩ = some (.slice (some ⟨wg, 0, none⟩) 1 wc) ∧ Z.cell? ⟨w1.heap.size, 2, none⟩ = some (.slice (some ⟨mg, 0, none⟩) 1 mc)) := Lib.hid fun Z hZ => by
    have e : Z.heap[w1.heap.size]? = W2.heap[w1.heap.size]? := fr_av hZ (.inr (by omega)) (by omega)
    have hb2 : Blk Z w1.heap.size 36 _ := e.trans hbk
    exact ⟨hb2.cell 0, hb2.cell 1, hb2.cell 2⟩
  have HBZ : Hid (∀ Z, Touch (fr h (fun k => Av k ∨ (w1.heap.size ≤ k ∧ k < w1.heap.size + 1))) W2 Z → Below w.heap.size w Z) := Lib.hid fun Z hZ => by
    have h1 : Below h W2 Z := fr_below hZ (by omega)
    exact (HBW1.out.trans (HB2.out.mono (by omega))).trans (h1.mono (by omega))
  obtain ⟨b0, b1, b2⟩ := HBK.out W2 (Touch.refl _ _)
  have hcap1 := HCAP.out.u
  have hwc : (0 : Int) < ((1 : Nat) : Int) := by omega
  have hrw := hT2.rows.u
  have hwl : wg < W2.heap.size := hT2.rows.ul
  have HHH := Lib.hid hh
  have hrl := hT2.rows
  have HDB : Hid (dg < W2.heap.size ∧ wg < W2.heap.size ∧ mg < W2.heap.size) := Lib.hid ⟨hrl.dl, hrl.ul, hrl.ml⟩
  obtain ⟨q2, q2l⟩ := hT2.qcell
  clear hW2 hb12 hbk hT2 hs2 hh hrl
  go_upto_region 9 with fail
  have hI0 := HKM.out.k.drv
  obtain ⟨m0, hm0⟩ : ∃ m, m = S0.image.length := ⟨_, rfl⟩
  have hm0l : m0 ≤ 1073741824 := by rw [hm0]; exact Nat.le_trans (image_len hI0) hI0.rooms
  have HM0 := Lib.hid hm0
  clear hI0
  go_wp2_with fail
  refine (wimage1 HT2.out HKM.out).mono ?_
  rintro e W3 ⟨v, rfl, hf3, hb3⟩
  obtain ⟨a3, c3, rfl, _⟩ := hf3.shape
  rw [← hm0] at hf3 ⊢
  have hs3 : W2.heap.size ≤ W3.heap.size := hb3.size
  clear hm0
  go_wp2_with fail
  refine (settled_any S0.image W2.heap.size a3 c3 m0 HM0.out W3 hf3 (by omega)).mono ?_
  rintro e W4 ⟨v4, rfl, hbk4, hb4⟩
  have hs4 : W3.heap.size ≤ W4.heap.size := hb4.size
  have hM4 : MapSt W4 h W2.heap.size (fun k => Av k ∨ (w1.heap.size ≤ k ∧ k < w1.heap.size + 1)) (fun k => (fun k => Av k ∨ (w1.heap.size ≤ k ∧ k < w1.heap.size + 1)) k ∨ (W2.heap.size ≤ k ∧ k < W4.heap.size)) dg wg mg q p mq mp X0 X0 S0 S0 (fun k => W3.heap.size ≤ k ∧ k < W4.heap.size) v4 (Book.settled S0.image) (5 * 0) 0 N r :=
    ⟨HKM.out, HKM.out, fun i hi => .inl hi, HT2.out.boxed (hb3.trans (hb4.mono hs3)), hbk4.base hs3, fun i hi => ⟨.inr ⟨by omega, hi.2⟩, by omega⟩, Book.settled_ok HKM.out.k.drv, by unfold Book.settled; rw [List.length_map, ← HM0.out]; omega, fun e he => by
      unfold Book.settled at he
      obtain ⟨f, _, rfl⟩ := List.mem_map.1 he
      exact Nat.le_refl _, HH0.out.mono fun s y _ hy => by subst hy; exact Book.settled_allows HKM.out.k.drv s⟩
  have HM4 := Lib.hid hM4
  have HTT4 : Hid (Touch (fr h (fun k => Av k ∨ (w1.heap.size ≤ k ∧ k < w1.heap.size + 1))) W2 W4) := Lib.hid (Touch.of_below (hb3.trans (hb4.mono hs3)))
  clear hf3 hb3 hbk4 hb4 hM4
  go_wp2
  go_loopw [8, 9] (fun s8 s9 wr => ∃ j : Nat, j ≤ n ∧ s9 = .int .i64 j ∧ Hid (∃ Av' X Y S T F bk, MapSt wr h W2.heap.size (fun k => Av k ∨ (w1.heap.size ≤ k ∧ k < w1.heap.size + 1)) Av' dg wg mg q p mq mp X Y S T F s8 bk (5 * j) j N r) ∧ Touch (fr h (fun k => Av k ∨ (w1.heap.size ≤ k ∧ k < w1.heap.size + 1))) W2 wr) (fun _ s9 _ => n - (intOf s9).toNat)
  case atStart => exact ⟨0, Nat.zero_le _, rfl, Lib.hid ⟨_, _, _, _, _, _, _, HM4.out⟩, HTT4.out⟩
  case round =>
    obtain ⟨j, hj, rfl, HMS, ht5⟩ := hrel
    have HTT5 := Lib.hid ht5
    have HBR := Lib.hid (HBZ.out wr ht5)
    have hwr : W2.heap.size ≤ wr.heap.size := ht5.size
    clear ht5
    by_cases hlt : j < n
    · obtain ⟨xl, hxl⟩ : ∃ xl, xs[j]? = some xl := ⟨_, List.getElem?_eq_getElem (by rw [← HN.out]; exact hlt)⟩
      obtain ⟨g, o, rfl, hg, hcl⟩ := HST.out.at_ j xl hxl
      have hmem := List.mem_of_getElem? hxl
      have hsi := HST.out.step xl hmem
      have hai := HST.out.act xl hmem
      have hfa := HST.out.fa xl hmem
      obtain ⟨⟨kind, nm, data, ⟨ak, ap, aa, an, adata, aplan, aR, aC, aI⟩⟩, ⟨da, dcc, ⟨ada, adc, apa, apc, afa, afn, afc⟩⟩⟩ := xl
      simp only at hsi hai hfa hcl
      obtain ⟨dl, hdl⟩ : ∃ dl, dl = data.length := ⟨_, rfl⟩
      obtain ⟨adl, hadl⟩ : ∃ adl, adl = adata.length := ⟨_, rfl⟩
      obtain ⟨apl, hapl⟩ : ∃ apl, apl = aplan.length := ⟨_, rfl⟩
      have hbZ : Below w.heap.size w wr := HBR.out
      have hc : ∀ i u, (stepCells ⟨kind, nm, data, ⟨ak, ap, aa, an, adata, aplan, aR, aC, aI⟩⟩ ⟨da, dcc, ⟨ada, adc, apa, apc, afa, afn, afc⟩⟩)[i]? = some u → wr.cell? ⟨g, o + j * 13 + i, none⟩ = some u := fun i u hu => (hbZ.cell (p := ⟨g, o + j * 13 + i, none⟩) hg).trans (hcl i u hu)
      have y3 : wr.cell? ⟨g, o + j * 13, none⟩ = some (.int .i64 kind) := by exact hc 0 _ rfl
      have y4 : wr.cell? ⟨g, o + j * 13 + 1, none⟩ = some (.string ⟨nm.toArray⟩) := by exact hc 1 _ rfl
      have y5 : wr.cell? ⟨g, o + j * 13 + 2, none⟩ = some (.slice da dl dcc) := by rw [hdl]; exact hc 2 _ rfl
      have y6 : wr.cell? ⟨g, o + j * 13 + 3, none⟩ = some (.int .i64 ak) := by exact hc 3 _ rfl
      have y7 : wr.cell? ⟨g, o + j * 13 + 4, none⟩ = some (.int .i64 ap) := by exact hc 4 _ rfl
      have y8 : wr.cell? ⟨g, o + j * 13 + 5, none⟩ = some (.int .i64 aa) := by exact hc 5 _ rfl
      have y9 : wr.cell? ⟨g, o + j * 13 + 6, none⟩ = some (.int .i64 an) := by exact hc 6 _ rfl
      have y10 : wr.cell? ⟨g, o + j * 13 + 7, none⟩ = some (.slice ada adl adc) := by rw [hadl]; exact hc 7 _ rfl
      have y11 : wr.cell? ⟨g, o + j * 13 + 8, none⟩ = some (.slice apa apl apc) := by rw [hapl]; exact hc 8 _ rfl
      have y12 : wr.cell? ⟨g, o + j * 13 + 9, none⟩ = some (.int .i64 aR) := by exact hc 9 _ rfl
      have y13 : wr.cell? ⟨g, o + j * 13 + 10, none⟩ = some (.int .i64 aC) := by exact hc 10 _ rfl
      have y14 : wr.cell? ⟨g, o + j * 13 + 11, none⟩ = some (.int .i64 aI) := by exact hc 11 _ rfl
      have y15 : wr.cell? ⟨g, o + j * 13 + 12, none⟩ = some (.slice afa afn afc) := by exact hc 12 _ rfl
      have i0 : (0 : Int) ≤ (j : Int) := by omega
      have i1 : (j : Int) < (n : Int) := by omega
      have HDL := Lib.hid hdl
      have HSI := Lib.hid hsi
      have HAI := Lib.hid hai
      have HFA := Lib.hid hfa
      have HADL := Lib.hid (And.intro hadl hapl)
      clear hxl hg hcl hmem hsi hai hfa hdl hadl hapl hbZ hc
      go_upto_region 14 with fail
      refine wp_world fun W5 hW5 => ?_
      have hb5 : Below wr.heap.size wr W5 := by rw [hW5]; exact (Below.refl _ _).alloc (Nat.le_refl _) _
      have hs5 : W5.heap.size = wr.heap.size + 1 := by rw [hW5]; simp
      have hblk : Blk W5 wr.heap.size 61 #[.int .i64 kind, .string ⟨nm.toArray⟩, .slice da dl dcc, .int .i64 ak, .int .i64 ap, .int .i64 aa, .int .i64 an, .slice ada adl adc, .slice apa apl apc, .int .i64 aR, .int .i64 aC, .int .i64 aI, .slice afa afn afc] := by rw [hW5]; exact blk_last _ _ _ _ rfl
      clear hW5 y3 y4 y5 y6 y7 y8 y9 y10 y11 y12 y13 y14 y15
      obtain ⟨Av', X, Y, S, T, F, bk, hM⟩ := HMS.out
      obtain ⟨ab, cb, hv8, _⟩ := hM.bk.shape
      subst hv8
      obtain ⟨nb, hnb⟩ : ∃ nb, nb = bk.length := ⟨_, rfl⟩
      rw [← hnb] at hM ⊢
      have HNB := Lib.hid hnb
      clear hnb
      have HM5 := Lib.hid (hM.boxed hb5)
      have hh5 : h ≤ W5.heap.size := by have := HHW.out; omega
      have HTT := Lib.hid (HTT5.out.then_ (Touch.of_below hb5))
      have HSB : Hid (∀ Z, Touch (fr h (fun i => Av' i ∨ (wr.heap.size ≤ i ∧ i < W5.heap.size))) W5 Z → Z.cell? ⟨wr.heap.size, 0, none⟩ = some (.int .i64 kind) ∧ Z.cell? ⟨wr.heap.size, 1, none⟩ = some (.string ⟨nm.toArray⟩) ∧ Z.cell? ⟨wr.heap.size, 2, none⟩ = some (.slice da dl dcc) ∧ Z.cell? ⟨wr.heap.size, 3, none⟩ = some (.int .i64 ak) ∧ Z.cell? ⟨wr.heap.size, 4, none⟩ = some (.int .i64 ap) ∧ Z.cell? ⟨wr.heap.size, 5, none⟩ = some (.int .i64 aa) ∧ Z.cell? ⟨wr.heap.size, 6, none⟩ = some (.int .i64 an) ∧ Z.cell? ⟨wr.heap.size, 7, none⟩ = some (.slice ada adl adc) ∧ Z.cell? ⟨wr.heap.size, 8, none⟩ = some (.slice apa apl apc) ∧ Z.cell? ⟨wr.heap.size, 9, none⟩ = some (.int .i64 aR) ∧ Z.cell? ⟨wr.heap.size, 10, none⟩ = some (.int .i64 aC) ∧ Z.cell? ⟨wr.heap.size, 11, none⟩ = some (.int .i64 aI) ∧ Z.cell? ⟨wr.heap.size, 12, none⟩ = some (.slice afa afn afc)) := Lib.hid fun Z hZ => by
        have e : Z.heap[wr.heap.size]? = W5.heap[wr.heap.size]? := fr_av hZ (.inr (by omega)) (by omega)
        have hb2 : Blk Z wr.heap.size 61 _ := e.trans hblk
        exact ⟨hb2.cell 0, hb2.cell 1, hb2.cell 2, hb2.cell 3, hb2.cell 4, hb2.cell 5, hb2.cell 6, hb2.cell 7, hb2.cell 8, hb2.cell 9, hb2.cell 10, hb2.cell 11, hb2.cell 12⟩
      obtain ⟨v0, v1, v2, v3, v4, v5, v6, v7, v8, v9, v10, v11, v12⟩ := HSB.out W5 (Touch.refl _ _)
      have hsbl : wr.heap.size < W5.heap.size := by omega
      have HB5 := Lib.hid hb5
      clear hM hb5 hblk hs5
      obtain ⟨rt, hrt⟩ : ∃ rt, rt = decide (lookE nm = 0) := ⟨_, rfl⟩
      have HRT := Lib.hid hrt
      clear hrt
      go_cut [11] (fun s11 wx => s11 = .bool rt ∧ wx = W5)
      case first =>
        as_aux_lemma =>
          have hlk : nm = [] ∨ 1024 < nm.length ∨ nm = [116] ∨ (1 ≤ nm.length ∧ nm.length ≤ 1024 ∧ nm ≠ [116]) := by
            by_cases h1 : nm = []
            · exact .inl h1
            by_cases h2 : 1024 < nm.length
            · exact .inr (.inl h2)
            by_cases h3 : nm = [116]
            · exact .inr (.inr (.inl h3))
            · refine .inr (.inr (.inr ⟨?_, by omega, h3⟩))
              cases nm with
              | nil => exact absurd rfl h1
              | cons a l => simp only [List.length_cons]; omega
          rcases hlk with rfl | hlk | rfl | ⟨hl1, hl2, hl3⟩
          · have hr : rt = false := by rw [HRT.out]; decide
            subst hr
            go_wp2_with fail
            go_meet
            exact ⟨rfl, rfl⟩
          · have hr : rt = false := by
              rw [HRT.out, decide_eq_false_iff_not]
              unfold lookE
              rw [if_neg (fun hh => by have := ((named_iff nm).1 hh.1).2; omega)]
              decide
            subst hr
            have t1 : decide ((1 : Int) ≤ (nm.length : Int)) = true := by rw [decide_eq_true_eq]; omega
            have t2 : decide ((nm.length : Int) ≤ 1024) = false := by rw [decide_eq_false_iff_not]; omega
            have t3 : nm.isEmpty = false := by
              cases nm with
              | nil => simp at hlk
              | cons a l => rfl
            clear hlk
            go_wp2_with fail
            go_meet
            exact ⟨rfl, rfl⟩
          · have hr : rt = false := by rw [HRT.out]; decide
            subst hr
            go_wp2_with fail
            go_meet
            exact ⟨rfl, rfl⟩
          · have hr : rt = true := by
              rw [HRT.out, decide_eq_true_eq]
              exact if_pos ⟨(named_iff nm).2 ⟨hl1, hl2⟩, hl3⟩
            subst hr
            have t1 : decide ((1 : Int) ≤ (nm.length : Int)) = true := by rw [decide_eq_true_eq]; omega
            have t2 : decide ((nm.length : Int) ≤ 1024) = true := by rw [decide_eq_true_eq]; omega
            have t3 : nm.isEmpty = false := by
              cases nm with
              | nil => simp at hl1
              | cons a l => rfl
            have t4 : (nm == [116]) = false := by rw [beq_eq_false_iff_ne]; exact hl3
            have t5 : (nm != [116]) = true := by rw [bne_iff_ne]; exact hl3
            clear hl1 hl2 hl3
            go_wp2_with fail
            go_meet
            exact ⟨rfl, rfl⟩
      case rest =>
      obtain ⟨W5, rfl⟩ : ∃ x, x = wc := ⟨_, rfl⟩
      obtain ⟨rfl, rfl⟩ := hcut
      have HLKT : Hid (rt = true → lookE nm = 0) := Lib.hid fun h => by have := HRT.out; rw [h] at this; exact of_decide_eq_true this.symm
      have HLKF : Hid (rt = false → lookE nm ≠ 0) := Lib.hid fun h => by have := HRT.out; rw [h] at this; exact of_decide_eq_false this.symm
      have HBW5 : Hid (Below w.heap.size w W5) := Lib.hid (HBZ.out W5 HTT.out)
      have HHB : Hid (W2.heap.size ≤ W5.heap.size) := Lib.hid HTT.out.size
      have HHWX : Hid (W2.heap.size ≤ W5.heap.size ∧ h ≤ W2.heap.size) := Lib.hid ⟨HTT.out.size, HHW.out⟩
      obtain ⟨b0, b1, b2⟩ := HBK.out W5 HTT.out
      obtain ⟨q5, q5l⟩ := HM5.out.wd.qcell
      have HNBL : Hid (nb ≤ 1073741824 + j) := Lib.hid (by rw [HNB.out]; exact HM5.out.len)
      have hn40 : nb ≤ 4294967296 := by have := HNBL.out; omega
      by_cases k1 : kind = 1
      · as_aux_lemma =>
          subst k1
          obtain ⟨X6, S6, x6, hy⟩ : ∃ a b c, turnW X S nm data = (a, b, c) := ⟨_, _, _, rfl⟩
          have hK6 : KeptM X6 S6 (5 * (j + 1)) (N + 5 * (j + 1)) r := by
            have := turnW_keptM HM5.out.kx nm data (by omega)
            rw [hy] at this
            rw [show 5 * (j + 1) = 5 * j + 5 by omega, show N + (5 * j + 5) = N + 5 * j + 5 by omega]; exact this
          have HK6 := Lib.hid hK6
          have HWR : Hid (Calls Tryz.prog 18 #[.iface 40 (.pointer (some ⟨q, 0, none⟩)), .string ⟨nm.toArray⟩, .slice da dl dcc] W5 fun e w' => e = .returned (.tuple #[.int .i64 x6, .bool true]) ∧ World1 w' h (fun i => Av' i ∨ (wr.heap.size ≤ i ∧ i < W5.heap.size)) dg wg mg q p mq mp X6 S6 Y T ∧ Touch (fr h (fun i => Av' i ∨ (wr.heap.size ≤ i ∧ i < W5.heap.size))) W5 w') := Lib.hid (by
            have hr := HSI.out.r
            have ha := HSI.out.a
            have hn := HSI.out.n
            simp only at hr ha hn
            rw [← HDL.out] at hr ha hn
            exact lwrite_any W5 h dg wg mg q p mq mp _ X Y S T HM5.out.wd hh5 _ _ _ HM5.out.kx (by omega) (by omega) nm HSI.out.nm da dl dcc data HDL.out hn ((hr.below HBW5.out).more HBW5.out.size) (fun ad e h0 => .inl (by have h1 := (ha ad e h0).resolve_right id; have h2 := HHH.out; omega)) X6 S6 x6 hy)
          have hcd := turnW_code X S nm data
          rw [hy] at hcd
          have HCD : Hid (x6 = 91 ↔ lookE nm ≠ 0) := Lib.hid hcd
          have HY := Lib.hid hy
          clear hy hK6 hcd
          cases rt with
          | true =>
            have e91 : (x6 == 91) = false := by rw [beq_eq_false_iff_ne]; exact fun e => absurd (HLKT.out rfl) (HCD.out.1 e)
            have HHO : Hid (Holds S6 (fun s y => Book.allows (Book.wrote bk nm data (x6 == 0)) s y)) := Lib.hid (wrote_holds (HLKT.out rfl) HM5.out.kx.k (by omega) HM5.out.ok HM5.out.holds HY.out)
            obtain ⟨dn, hdn⟩ : ∃ dn, dn = (x6 == 0) := ⟨_, rfl⟩
            have edn : (x6 == 0) = dn := hdn.symm
            rw [← hdn] at HHO
            clear hdn
            go_upto_region 27 with (go_at_call 18; refine HWR.out.mono ?_; rintro e W6 ⟨rfl, hT6, ht6⟩; have HT6 := Lib.hid hT6; have HTS := Lib.hid ht6; clear v0 v1 v2 v3 v4 v5 v6 v7 v8 v9 v10 v11 v12; obtain ⟨v0, v1, v2, _⟩ := HSB.out W6 ht6; clear hT6 ht6)
            clear b0 b1 b2 q5 q5l
            have hs6 : W5.heap.size ≤ W6.heap.size := HTS.out.size
            have HTT0 : Hid (Touch (fr h (fun k => Av k ∨ (w1.heap.size ≤ k ∧ k < w1.heap.size + 1))) W2 W6) := Lib.hid (HTT.out.then_ (fr_mono HTS.out HM5.out.av))
            have hcv : (convert 26 9 (.slice da dl dcc)).run Tryz.prog W6 = .ok (.string ⟨data.toArray⟩) W6 := by
              have hb6 := HBZ.out W6 HTT0.out
              have hr := (HSI.out.r.below hb6).more hb6.size
              have hdl := HDL.out
              simp only at hr
              rw [hdl]
              exact conv_any _ _ da data dcc hr
            have HBC : Hid (Calls Tryz.prog 19 #[.slice ab nb cb, .string ⟨nm.toArray⟩, .string ⟨data.toArray⟩, .bool dn] W6 fun e w' => ∃ v', e = .returned v' ∧ BookAt w' W2.heap.size (grow F W6 w') v' (Book.wrote bk nm data dn) ∧ Touch F W6 w') := Lib.hid (wrote_any bk W2.heap.size F ab nb cb HNB.out nm data dn W6 (HM5.out.bk.keep HTS.out fun i hi hf => hf.2 (HM5.out.fav i hi).1) (by have := HHB.out; omega) hn40 (fun m hm => by have := HM5.out.vals m hm; omega))
            go_wp2_with (go_at_call 19; refine HBC.out.mono ?_; rintro e W7 ⟨v7, rfl, hB7, ht7⟩; obtain ⟨a7, c7, rfl, _⟩ := hB7.shape; have HB7 := Lib.hid hB7; have HT7 := Lib.hid ht7; obtain ⟨qb, qbl⟩ := (HT6.out.kept ht7 fun i hi => ⟨(HM5.out.fav i hi).1, by have h1 := (HM5.out.fav i hi).2; have h2 := HDB.out; omega, by have h1 := (HM5.out.fav i hi).2; have h2 := HDB.out; omega, by have h1 := (HM5.out.fav i hi).2; have h2 := HDB.out; omega⟩).qcell; clear hB7 ht7)
            obtain ⟨n7, hn7⟩ : ∃ n, n = (Book.wrote bk nm data dn).length := ⟨_, rfl⟩
            have HMT := Lib.hid (MapSt.turn (j := j + 1) (k := 5 * (j + 1)) HDB.out HK6.out HM5.out.ky HM5.out.av HT6.out HM5.out.fav (by have := HHB.out; omega) HB7.out HT7.out (Book.wrote_ok HM5.out.ok nm data dn) (by have := (wrote_len bk nm data dn HM5.out.len HM5.out.vals).1; omega) (fun e he => by have := (wrote_len bk nm data dn HM5.out.len HM5.out.vals).2 e he; omega) HHO.out)
            have HTT6 := Lib.hid (touch_high HTT0.out HT7.out fun i hi => (HM5.out.fav i hi).2)
            have HN7 := Lib.hid hn7
            rw [← hn7] at HMT ⊢
            clear hn7 qb qbl
            obtain ⟨qc, ql⟩ := HMT.out.wd.qcell
            obtain ⟨mi, hmi⟩ : ∃ m, m = S6.image.length := ⟨_, rfl⟩
            have hmil : mi ≤ 1073741824 := by rw [hmi]; exact Nat.le_trans (image_len HMT.out.kx.k.drv) HMT.out.kx.k.drv.rooms
            have HMI := Lib.hid hmi
            clear hmi
            go_wp2_with fail
            refine (wimage1 HMT.out.wd HMT.out.kx).mono ?_
            rintro e Wi ⟨vi, rfl, hfi, hbi⟩
            obtain ⟨ai, ci, rfl, _⟩ := hfi.shape
            rw [← HMI.out] at hfi ⊢
            have HFI := Lib.hid hfi
            have HMU := Lib.hid (HMT.out.below hbi)
            have HTU := Lib.hid (HTT6.out.then_ (Touch.of_below hbi))
            clear hfi hbi qc ql
            go_wp2_with fail
            refine (holds_any _ S6.image W2.heap.size _ _ _ ai n7 mi _ ci HN7.out HMI.out Wi HMU.out.bk HFI.out (by have := HMU.out.len; rw [← HN7.out] at this; omega) (by omega) (fun e he => by have := HMU.out.vals e he; omega) (holds_image HMU.out.kx.k.drv HMU.out.holds)).mono ?_
            rintro e Wj ⟨rfl, nj, hnj⟩
            have HWJ := Lib.hid hnj
            clear hnj
            go_wp2
            exact ⟨⟨j + 1, by omega, by go_num, Lib.hid ⟨_, _, _, _, _, _, _, HMU.out.below (by rw [HWJ.out]; exact below_drewN (Below.refl _ _) _)⟩, HTU.out.then_ (by rw [HWJ.out]; exact Touch.of_below (below_drewN (Below.refl _ _) _))⟩, by simp only [intOf]; omega⟩
          | false =>
            have hbad := HLKF.out rfl
            have hx6 := HCD.out.2 hbad
            have HST : Hid (S6 = S) := Lib.hid (by have h := HY.out; unfold turnW at h; rw [if_neg hbad] at h; injection h with _ h; injection h with h _; exact h.symm)
            subst hx6
            clear hbad
            go_upto_region 40 with (go_at_call 18; refine HWR.out.mono ?_; rintro e W6 ⟨rfl, hT6, ht6⟩; have HT6 := Lib.hid hT6; have HTS := Lib.hid ht6; clear hT6 ht6)
            clear b0 b1 b2 q5 q5l v0 v1 v2 v3 v4 v5 v6 v7 v8 v9 v10 v11 v12
            have hM6 := HM5.out.step (k' := 5 * (j + 1)) HT6.out HTS.out HK6.out HM5.out.ky (by rw [HST.out]; exact HM5.out.holds)
            have HMT := Lib.hid hM6.next
            have HTT6 := Lib.hid (HTT.out.then_ (fr_mono HTS.out HM5.out.av))
            clear hM6
            obtain ⟨qc, ql⟩ := HMT.out.wd.qcell
            obtain ⟨mi, hmi⟩ : ∃ m, m = S6.image.length := ⟨_, rfl⟩
            have hmil : mi ≤ 1073741824 := by rw [hmi]; exact Nat.le_trans (image_len HMT.out.kx.k.drv) HMT.out.kx.k.drv.rooms
            have HMI := Lib.hid hmi
            clear hmi
            go_wp2_with fail
            refine (wimage1 HMT.out.wd HMT.out.kx).mono ?_
            rintro e Wi ⟨vi, rfl, hfi, hbi⟩
            obtain ⟨ai, ci, rfl, _⟩ := hfi.shape
            rw [← HMI.out] at hfi ⊢
            have HFI := Lib.hid hfi
            have HMU := Lib.hid (HMT.out.below hbi)
            have HTU := Lib.hid (HTT6.out.then_ (Touch.of_below hbi))
            clear hfi hbi qc ql
            go_wp2_with fail
            refine (holds_any _ S6.image W2.heap.size _ _ _ ai nb mi _ ci HNB.out HMI.out Wi HMU.out.bk HFI.out (by have := HMU.out.len; rw [← HNB.out] at this; omega) (by omega) (fun e he => by have := HMU.out.vals e he; omega) (holds_image HMU.out.kx.k.drv HMU.out.holds)).mono ?_
            rintro e Wj ⟨rfl, nj, hnj⟩
            have HWJ := Lib.hid hnj
            clear hnj
            go_wp2
            exact ⟨⟨j + 1, by omega, by go_num, Lib.hid ⟨_, _, _, _, _, _, _, HMU.out.below (by rw [HWJ.out]; exact below_drewN (Below.refl _ _) _)⟩, HTU.out.then_ (by rw [HWJ.out]; exact Touch.of_below (below_drewN (Below.refl _ _) _))⟩, by simp only [intOf]; omega⟩
      by_cases k2 : kind = 2
      · as_aux_lemma =>
          subst k2
          obtain ⟨X6, S6, x6, hy⟩ : ∃ a b c, removeW X S nm = (a, b, c) := ⟨_, _, _, rfl⟩
          have hK6 : KeptM X6 S6 (5 * (j + 1)) (N + 5 * (j + 1)) r := by
            have := (removeW_keptM HM5.out.kx nm (by omega)).mono (k' := 5 * (j + 1)) (N' := N + 5 * (j + 1)) (by omega) (by omega) (by omega)
            rw [hy] at this
            exact this
          have HK6 := Lib.hid hK6
          have HWR : Hid (Calls Tryz.prog 16 #[.iface 40 (.pointer (some ⟨q, 0, none⟩)), .string ⟨nm.toArray⟩] W5 fun e w' => e = .returned (.int .i64 x6) ∧ World1 w' h (fun i => Av' i ∨ (wr.heap.size ≤ i ∧ i < W5.heap.size)) dg wg mg q p mq mp X6 S6 Y T ∧ Touch (fr h (fun i => Av' i ∨ (wr.heap.size ≤ i ∧ i < W5.heap.size))) W5 w') := Lib.hid (by
            have j := remove1 HM5.out.wd hh5 HM5.out.kx (by omega) (by omega) nm HSI.out.nm
            rw [hy] at j
            exact j)
          have hcd := removeW_code X S nm
          rw [hy] at hcd
          have HCD : Hid ((x6 = 91 ↔ lookE nm ≠ 0) ∧ x6 ≠ 110) := Lib.hid hcd
          have e110 : (x6 == 110) = false := by rw [beq_eq_false_iff_ne]; exact hcd.2
          have HY := Lib.hid hy
          clear hy hK6 hcd
          cases rt with
          | true =>
            have e91 : (x6 == 91) = false := by rw [beq_eq_false_iff_ne]; exact fun e => absurd (HLKT.out rfl) (HCD.out.1.1 e)
            have HHO : Hid (Holds S6 (fun s y => Book.allows (Book.took bk nm (x6 == 0)) s y)) := Lib.hid (took_holds (HLKT.out rfl) HM5.out.kx.k HM5.out.ok HM5.out.holds HY.out)
            obtain ⟨dn, hdn⟩ : ∃ dn, dn = (x6 == 0) := ⟨_, rfl⟩
            have edn : (x6 == 0) = dn := hdn.symm
            rw [← hdn] at HHO
            clear hdn
            go_upto_region 33 with (go_at_call 16; refine HWR.out.mono ?_; rintro e W6 ⟨rfl, hT6, ht6⟩; have HT6 := Lib.hid hT6; have HTS := Lib.hid ht6; clear v0 v1 v2 v3 v4 v5 v6 v7 v8 v9 v10 v11 v12; obtain ⟨v0, v1, v2, _⟩ := HSB.out W6 ht6; clear hT6 ht6)
            clear b0 b1 b2 q5 q5l
            have hs6 : W5.heap.size ≤ W6.heap.size := HTS.out.size
            have HTT0 : Hid (Touch (fr h (fun k => Av k ∨ (w1.heap.size ≤ k ∧ k < w1.heap.size + 1))) W2 W6) := Lib.hid (HTT.out.then_ (fr_mono HTS.out HM5.out.av))
            have HBC : Hid (Calls Tryz.prog 20 #[.slice ab nb cb, .string ⟨nm.toArray⟩, .bool dn] W6 fun e w' => ∃ v', e = .returned v' ∧ BookAt w' W2.heap.size (grow F W6 w') v' (Book.took bk nm dn) ∧ Touch F W6 w') := Lib.hid (took_any bk W2.heap.size F ab nb cb HNB.out nm dn W6 (HM5.out.bk.keep HTS.out fun i hi hf => hf.2 (HM5.out.fav i hi).1) (by have := HHB.out; omega) hn40)
            go_wp2_with (go_at_call 20; refine HBC.out.mono ?_; rintro e W7 ⟨v7, rfl, hB7, ht7⟩; obtain ⟨a7, c7, rfl, _⟩ := hB7.shape; have HB7 := Lib.hid hB7; have HT7 := Lib.hid ht7; obtain ⟨qb, qbl⟩ := (HT6.out.kept ht7 fun i hi => ⟨(HM5.out.fav i hi).1, by have h1 := (HM5.out.fav i hi).2; have h2 := HDB.out; omega, by have h1 := (HM5.out.fav i hi).2; have h2 := HDB.out; omega, by have h1 := (HM5.out.fav i hi).2; have h2 := HDB.out; omega⟩).qcell; clear hB7 ht7)
            obtain ⟨n7, hn7⟩ : ∃ n, n = (Book.took bk nm dn).length := ⟨_, rfl⟩
            have HMT := Lib.hid (MapSt.turn (j := j + 1) (k := 5 * (j + 1)) HDB.out HK6.out HM5.out.ky HM5.out.av HT6.out HM5.out.fav (by have := HHB.out; omega) HB7.out HT7.out (Book.took_ok HM5.out.ok nm dn) (by have := (took_len bk nm dn HM5.out.len HM5.out.vals).1; omega) (fun e he => by have := (took_len bk nm dn HM5.out.len HM5.out.vals).2 e he; omega) HHO.out)
            have HTT6 := Lib.hid (touch_high HTT0.out HT7.out fun i hi => (HM5.out.fav i hi).2)
            have HN7 := Lib.hid hn7
            rw [← hn7] at HMT ⊢
            clear hn7 qb qbl
            obtain ⟨qc, ql⟩ := HMT.out.wd.qcell
            obtain ⟨mi, hmi⟩ : ∃ m, m = S6.image.length := ⟨_, rfl⟩
            have hmil : mi ≤ 1073741824 := by rw [hmi]; exact Nat.le_trans (image_len HMT.out.kx.k.drv) HMT.out.kx.k.drv.rooms
            have HMI := Lib.hid hmi
            clear hmi
            go_wp2_with fail
            refine (wimage1 HMT.out.wd HMT.out.kx).mono ?_
            rintro e Wi ⟨vi, rfl, hfi, hbi⟩
            obtain ⟨ai, ci, rfl, _⟩ := hfi.shape
            rw [← HMI.out] at hfi ⊢
            have HFI := Lib.hid hfi
            have HMU := Lib.hid (HMT.out.below hbi)
            have HTU := Lib.hid (HTT6.out.then_ (Touch.of_below hbi))
            clear hfi hbi qc ql
            go_wp2_with fail
            refine (holds_any _ S6.image W2.heap.size _ _ _ ai n7 mi _ ci HN7.out HMI.out Wi HMU.out.bk HFI.out (by have := HMU.out.len; rw [← HN7.out] at this; omega) (by omega) (fun e he => by have := HMU.out.vals e he; omega) (holds_image HMU.out.kx.k.drv HMU.out.holds)).mono ?_
            rintro e Wj ⟨rfl, nj, hnj⟩
            have HWJ := Lib.hid hnj
            clear hnj
            go_wp2
            exact ⟨⟨j + 1, by omega, by go_num, Lib.hid ⟨_, _, _, _, _, _, _, HMU.out.below (by rw [HWJ.out]; exact below_drewN (Below.refl _ _) _)⟩, HTU.out.then_ (by rw [HWJ.out]; exact Touch.of_below (below_drewN (Below.refl _ _) _))⟩, by simp only [intOf]; omega⟩
          | false =>
            have hbad := HLKF.out rfl
            have hx6 := HCD.out.1.2 hbad
            have HST : Hid (S6 = S) := Lib.hid (by have h := HY.out; unfold removeW at h; rw [if_neg hbad] at h; injection h with _ h; injection h with h _; exact h.symm)
            subst hx6
            clear hbad
            go_upto_region 40 with (go_at_call 16; refine HWR.out.mono ?_; rintro e W6 ⟨rfl, hT6, ht6⟩; have HT6 := Lib.hid hT6; have HTS := Lib.hid ht6; clear hT6 ht6)
            clear b0 b1 b2 q5 q5l v0 v1 v2 v3 v4 v5 v6 v7 v8 v9 v10 v11 v12
            have hM6 := HM5.out.step (k' := 5 * (j + 1)) HT6.out HTS.out HK6.out HM5.out.ky (by rw [HST.out]; exact HM5.out.holds)
            have HMT := Lib.hid hM6.next
            have HTT6 := Lib.hid (HTT.out.then_ (fr_mono HTS.out HM5.out.av))
            clear hM6
            obtain ⟨qc, ql⟩ := HMT.out.wd.qcell
            obtain ⟨mi, hmi⟩ : ∃ m, m = S6.image.length := ⟨_, rfl⟩
            have hmil : mi ≤ 1073741824 := by rw [hmi]; exact Nat.le_trans (image_len HMT.out.kx.k.drv) HMT.out.kx.k.drv.rooms
            have HMI := Lib.hid hmi
            clear hmi
            go_wp2_with fail
            refine (wimage1 HMT.out.wd HMT.out.kx).mono ?_
            rintro e Wi ⟨vi, rfl, hfi, hbi⟩
            obtain ⟨ai, ci, rfl, _⟩ := hfi.shape
            rw [← HMI.out] at hfi ⊢
            have HFI := Lib.hid hfi
            have HMU := Lib.hid (HMT.out.below hbi)
            have HTU := Lib.hid (HTT6.out.then_ (Touch.of_below hbi))
            clear hfi hbi qc ql
            go_wp2_with fail
            refine (holds_any _ S6.image W2.heap.size _ _ _ ai nb mi _ ci HNB.out HMI.out Wi HMU.out.bk HFI.out (by have := HMU.out.len; rw [← HNB.out] at this; omega) (by omega) (fun e he => by have := HMU.out.vals e he; omega) (holds_image HMU.out.kx.k.drv HMU.out.holds)).mono ?_
            rintro e Wj ⟨rfl, nj, hnj⟩
            have HWJ := Lib.hid hnj
            clear hnj
            go_wp2
            exact ⟨⟨j + 1, by omega, by go_num, Lib.hid ⟨_, _, _, _, _, _, _, HMU.out.below (by rw [HWJ.out]; exact below_drewN (Below.refl _ _) _)⟩, HTU.out.then_ (by rw [HWJ.out]; exact Touch.of_below (below_drewN (Below.refl _ _) _))⟩, by simp only [intOf]; omega⟩
      by_cases k3 : kind = 3
      · as_aux_lemma =>
          subst k3
          obtain ⟨X6, S6, n6, x6, hy⟩ : ∃ a b c d, asweep X S = (a, b, c, d) := ⟨_, _, _, _, rfl⟩
          have hK6 : KeptM X6 S6 (5 * (j + 1)) (N + 5 * (j + 1)) r := by
            have := (asweep_keptM HM5.out.kx (by omega)).mono (k' := 5 * (j + 1)) (N' := N + 5 * (j + 1)) (by omega) (by omega) (by omega)
            rw [hy] at this
            exact this
          have HK6 := Lib.hid hK6
          have HHO := Lib.hid (asweep_holds HM5.out.kx HM5.out.holds hy)
          have HWR : Hid (Calls Tryz.prog 21 #[.iface 40 (.pointer (some ⟨q, 0, none⟩))] W5 fun e w' => e = .returned (.tuple #[.int .i64 n6, .int .i64 x6]) ∧ World1 w' h (fun i => Av' i ∨ (wr.heap.size ≤ i ∧ i < W5.heap.size)) dg wg mg q p mq mp X6 S6 Y T ∧ Touch (fr h (fun i => Av' i ∨ (wr.heap.size ≤ i ∧ i < W5.heap.size))) W5 w') := Lib.hid (by
            have j := sweep1 HM5.out.wd hh5 HM5.out.kx (by omega) (by omega)
            rw [hy] at j
            exact j)
          clear hy hK6
          go_upto_region 40 with (go_at_call 21; refine HWR.out.mono ?_; rintro e W6 ⟨rfl, hT6, ht6⟩; have HT6 := Lib.hid hT6; have HTS := Lib.hid ht6; clear hT6 ht6)
          clear b0 b1 b2 q5 q5l v0 v1 v2 v3 v4 v5 v6 v7 v8 v9 v10 v11 v12
          have hM6 := HM5.out.step (k' := 5 * (j + 1)) HT6.out HTS.out HK6.out HM5.out.ky HHO.out
          have HMT := Lib.hid hM6.next
          have HTT6 := Lib.hid (HTT.out.then_ (fr_mono HTS.out HM5.out.av))
          clear hM6
          obtain ⟨qc, ql⟩ := HMT.out.wd.qcell
          obtain ⟨mi, hmi⟩ : ∃ m, m = S6.image.length := ⟨_, rfl⟩
          have hmil : mi ≤ 1073741824 := by rw [hmi]; exact Nat.le_trans (image_len HMT.out.kx.k.drv) HMT.out.kx.k.drv.rooms
          have HMI := Lib.hid hmi
          clear hmi
          go_wp2_with fail
          refine (wimage1 HMT.out.wd HMT.out.kx).mono ?_
          rintro e Wi ⟨vi, rfl, hfi, hbi⟩
          obtain ⟨ai, ci, rfl, _⟩ := hfi.shape
          rw [← HMI.out] at hfi ⊢
          have HFI := Lib.hid hfi
          have HMU := Lib.hid (HMT.out.below hbi)
          have HTU := Lib.hid (HTT6.out.then_ (Touch.of_below hbi))
          clear hfi hbi qc ql
          go_wp2_with fail
          refine (holds_any _ S6.image W2.heap.size _ _ _ ai nb mi _ ci HNB.out HMI.out Wi HMU.out.bk HFI.out (by have := HMU.out.len; rw [← HNB.out] at this; omega) (by omega) (fun e he => by have := HMU.out.vals e he; omega) (holds_image HMU.out.kx.k.drv HMU.out.holds)).mono ?_
          rintro e Wj ⟨rfl, nj, hnj⟩
          have HWJ := Lib.hid hnj
          clear hnj
          go_wp2
          exact ⟨⟨j + 1, by omega, by go_num, Lib.hid ⟨_, _, _, _, _, _, _, HMU.out.below (by rw [HWJ.out]; exact below_drewN (Below.refl _ _) _)⟩, HTU.out.then_ (by rw [HWJ.out]; exact Touch.of_below (below_drewN (Below.refl _ _) _))⟩, by simp only [intOf]; omega⟩
      by_cases k4 : kind = 4
      · as_aux_lemma =>
          subst k4
          have HMT := Lib.hid (HM5.out.stay (k' := 5 * (j + 1)) (by omega) (by omega))
          have HTT6 := Lib.hid HTT.out
          go_upto_region 40 with fail
          clear b0 b1 b2 q5 q5l v0 v1 v2 v3 v4 v5 v6 v7 v8 v9 v10 v11 v12
          obtain ⟨qc, ql⟩ := HMT.out.wd.qcell
          obtain ⟨mi, hmi⟩ : ∃ m, m = S.image.length := ⟨_, rfl⟩
          have hmil : mi ≤ 1073741824 := by rw [hmi]; exact Nat.le_trans (image_len HMT.out.kx.k.drv) HMT.out.kx.k.drv.rooms
          have HMI := Lib.hid hmi
          clear hmi
          go_wp2_with fail
          refine (wimage1 HMT.out.wd HMT.out.kx).mono ?_
          rintro e Wi ⟨vi, rfl, hfi, hbi⟩
          obtain ⟨ai, ci, rfl, _⟩ := hfi.shape
          rw [← HMI.out] at hfi ⊢
          have HFI := Lib.hid hfi
          have HMU := Lib.hid (HMT.out.below hbi)
          have HTU := Lib.hid (HTT6.out.then_ (Touch.of_below hbi))
          clear hfi hbi qc ql
          go_wp2_with fail
          refine (holds_any _ S.image W2.heap.size _ _ _ ai nb mi _ ci HNB.out HMI.out Wi HMU.out.bk HFI.out (by have := HMU.out.len; rw [← HNB.out] at this; omega) (by omega) (fun e he => by have := HMU.out.vals e he; omega) (holds_image HMU.out.kx.k.drv HMU.out.holds)).mono ?_
          rintro e Wj ⟨rfl, nj, hnj⟩
          have HWJ := Lib.hid hnj
          clear hnj
          go_wp2
          exact ⟨⟨j + 1, by omega, by go_num, Lib.hid ⟨_, _, _, _, _, _, _, HMU.out.below (by rw [HWJ.out]; exact below_drewN (Below.refl _ _) _)⟩, HTU.out.then_ (by rw [HWJ.out]; exact Touch.of_below (below_drewN (Below.refl _ _) _))⟩, by simp only [intOf]; omega⟩
      by_cases k5 : kind = 5
      · as_aux_lemma =>
          subst k5
          have HMT := Lib.hid (HM5.out.stay (k' := 5 * (j + 1)) (by omega) (by omega))
          have HTT6 := Lib.hid HTT.out
          go_upto_region 40 with fail
          clear b0 b1 b2 q5 q5l v0 v1 v2 v3 v4 v5 v6 v7 v8 v9 v10 v11 v12
          obtain ⟨qc, ql⟩ := HMT.out.wd.qcell
          obtain ⟨mi, hmi⟩ : ∃ m, m = S.image.length := ⟨_, rfl⟩
          have hmil : mi ≤ 1073741824 := by rw [hmi]; exact Nat.le_trans (image_len HMT.out.kx.k.drv) HMT.out.kx.k.drv.rooms
          have HMI := Lib.hid hmi
          clear hmi
          go_wp2_with fail
          refine (wimage1 HMT.out.wd HMT.out.kx).mono ?_
          rintro e Wi ⟨vi, rfl, hfi, hbi⟩
          obtain ⟨ai, ci, rfl, _⟩ := hfi.shape
          rw [← HMI.out] at hfi ⊢
          have HFI := Lib.hid hfi
          have HMU := Lib.hid (HMT.out.below hbi)
          have HTU := Lib.hid (HTT6.out.then_ (Touch.of_below hbi))
          clear hfi hbi qc ql
          go_wp2_with fail
          refine (holds_any _ S.image W2.heap.size _ _ _ ai nb mi _ ci HNB.out HMI.out Wi HMU.out.bk HFI.out (by have := HMU.out.len; rw [← HNB.out] at this; omega) (by omega) (fun e he => by have := HMU.out.vals e he; omega) (holds_image HMU.out.kx.k.drv HMU.out.holds)).mono ?_
          rintro e Wj ⟨rfl, nj, hnj⟩
          have HWJ := Lib.hid hnj
          clear hnj
          go_wp2
          exact ⟨⟨j + 1, by omega, by go_num, Lib.hid ⟨_, _, _, _, _, _, _, HMU.out.below (by rw [HWJ.out]; exact below_drewN (Below.refl _ _) _)⟩, HTU.out.then_ (by rw [HWJ.out]; exact Touch.of_below (below_drewN (Below.refl _ _) _))⟩, by simp only [intOf]; omega⟩
      by_cases k6 : kind = 6
      · as_aux_lemma =>
          subst k6
          have HWR : Hid (Calls Tryz.prog 22 #[.agg #[.slice (some ⟨dg, 0, none⟩) 1 dc, .slice (some ⟨wg, 0, none⟩) 1 wc, .slice (some ⟨mg, 0, none⟩) 1 mc]] W5 fun e w' => e = .returned (.tuple #[]) ∧ World1 w' h (fun i => Av' i ∨ (wr.heap.size ≤ i ∧ i < W5.heap.size)) dg wg mg q p mq mp (X.rest Y.lit) S (Y.rest Y.lit) T ∧ Touch (fr h (fun i => Av' i ∨ (wr.heap.size ≤ i ∧ i < W5.heap.size))) W5 w') := Lib.hid (brest2 W5 h dg dc wg wc mg mc q p mq mp _ X Y S T HM5.out.wd hh5 (HM5.out.kx.k.wnd.ok (by omega)) (HM5.out.ky.k.wnd.ok (by omega)) HCAP.out)
          have HK6 : Hid (KeptM (X.rest Y.lit) S (5 * (j + 1)) (N + 5 * (j + 1)) r) := Lib.hid ((HM5.out.kx.wnd (HM5.out.kx.k.wnd.rest _)).mono (by omega) (by omega) (by omega))
          go_upto_region 40 with (go_at_call 22; refine HWR.out.mono ?_; rintro e W6 ⟨rfl, hT6, ht6⟩; have HT6 := Lib.hid hT6; have HTS := Lib.hid ht6; clear hT6 ht6)
          clear b0 b1 b2 q5 q5l v0 v1 v2 v3 v4 v5 v6 v7 v8 v9 v10 v11 v12
          have hM6 := HM5.out.step (k' := 5 * (j + 1)) HT6.out HTS.out HK6.out (HM5.out.ky.wnd (HM5.out.ky.k.wnd.rest _)) HM5.out.holds
          have HMT := Lib.hid hM6.next
          have HTT6 := Lib.hid (HTT.out.then_ (fr_mono HTS.out HM5.out.av))
          clear hM6
          obtain ⟨qc, ql⟩ := HMT.out.wd.qcell
          obtain ⟨mi, hmi⟩ : ∃ m, m = S.image.length := ⟨_, rfl⟩
          have hmil : mi ≤ 1073741824 := by rw [hmi]; exact Nat.le_trans (image_len HMT.out.kx.k.drv) HMT.out.kx.k.drv.rooms
          have HMI := Lib.hid hmi
          clear hmi
          go_wp2_with fail
          refine (wimage1 HMT.out.wd HMT.out.kx).mono ?_
          rintro e Wi ⟨vi, rfl, hfi, hbi⟩
          obtain ⟨ai, ci, rfl, _⟩ := hfi.shape
          rw [← HMI.out] at hfi ⊢
          have HFI := Lib.hid hfi
          have HMU := Lib.hid (HMT.out.below hbi)
          have HTU := Lib.hid (HTT6.out.then_ (Touch.of_below hbi))
          clear hfi hbi qc ql
          go_wp2_with fail
          refine (holds_any _ S.image W2.heap.size _ _ _ ai nb mi _ ci HNB.out HMI.out Wi HMU.out.bk HFI.out (by have := HMU.out.len; rw [← HNB.out] at this; omega) (by omega) (fun e he => by have := HMU.out.vals e he; omega) (holds_image HMU.out.kx.k.drv HMU.out.holds)).mono ?_
          rintro e Wj ⟨rfl, nj, hnj⟩
          have HWJ := Lib.hid hnj
          clear hnj
          go_wp2
          exact ⟨⟨j + 1, by omega, by go_num, Lib.hid ⟨_, _, _, _, _, _, _, HMU.out.below (by rw [HWJ.out]; exact below_drewN (Below.refl _ _) _)⟩, HTU.out.then_ (by rw [HWJ.out]; exact Touch.of_below (below_drewN (Below.refl _ _) _))⟩, by simp only [intOf]; omega⟩
      have n1 : (kind == 1) = false := by rw [beq_eq_false_iff_ne]; exact k1
      have n2 : (kind == 2) = false := by rw [beq_eq_false_iff_ne]; exact k2
      have n3 : (kind == 3) = false := by rw [beq_eq_false_iff_ne]; exact k3
      have n4 : (kind == 4) = false := by rw [beq_eq_false_iff_ne]; exact k4
      have n5 : (kind == 5) = false := by rw [beq_eq_false_iff_ne]; exact k5
      have n6 : (kind == 6) = false := by rw [beq_eq_false_iff_ne]; exact k6
      clear k1 k2 k3 k4 k5 k6
      by_cases k7 : ak = 7 ∨ ak = 8 ∨ ak = 9
      · as_aux_lemma =>
          have HMT := Lib.hid (HM5.out.stay (k' := 5 * (j + 1)) (by omega) (by omega))
          have HTT6 := Lib.hid HTT.out
          rcases k7 with rfl | rfl | rfl
          all_goals
            go_upto_region 40 with fail
            clear b0 b1 b2 q5 q5l v0 v1 v2 v3 v4 v5 v6 v7 v8 v9 v10 v11 v12
            obtain ⟨qc, ql⟩ := HMT.out.wd.qcell
            obtain ⟨mi, hmi⟩ : ∃ m, m = S.image.length := ⟨_, rfl⟩
            have hmil : mi ≤ 1073741824 := by rw [hmi]; exact Nat.le_trans (image_len HMT.out.kx.k.drv) HMT.out.kx.k.drv.rooms
            have HMI := Lib.hid hmi
            clear hmi
            go_wp2_with fail
            refine (wimage1 HMT.out.wd HMT.out.kx).mono ?_
            rintro e Wi ⟨vi, rfl, hfi, hbi⟩
            obtain ⟨ai, ci, rfl, _⟩ := hfi.shape
            rw [← HMI.out] at hfi ⊢
            have HFI := Lib.hid hfi
            have HMU := Lib.hid (HMT.out.below hbi)
            have HTU := Lib.hid (HTT6.out.then_ (Touch.of_below hbi))
            clear hfi hbi qc ql
            go_wp2_with fail
            refine (holds_any _ S.image W2.heap.size _ _ _ ai nb mi _ ci HNB.out HMI.out Wi HMU.out.bk HFI.out (by have := HMU.out.len; rw [← HNB.out] at this; omega) (by omega) (fun e he => by have := HMU.out.vals e he; omega) (holds_image HMU.out.kx.k.drv HMU.out.holds)).mono ?_
            rintro e Wj ⟨rfl, nj, hnj⟩
            have HWJ := Lib.hid hnj
            clear hnj
            go_wp2
            exact ⟨⟨j + 1, by omega, by go_num, Lib.hid ⟨_, _, _, _, _, _, _, HMU.out.below (by rw [HWJ.out]; exact below_drewN (Below.refl _ _) _)⟩, HTU.out.then_ (by rw [HWJ.out]; exact Touch.of_below (below_drewN (Below.refl _ _) _))⟩, by simp only [intOf]; omega⟩
      have k70 : ak ≠ 7 ∧ ak ≠ 8 ∧ ak ≠ 9 := ⟨fun e => k7 (.inl e), fun e => k7 (.inr (.inl e)), fun e => k7 (.inr (.inr e))⟩
      have a7 : (ak == 7) = false := by rw [beq_eq_false_iff_ne]; exact k70.1
      have a8 : (ak == 8) = false := by rw [beq_eq_false_iff_ne]; exact k70.2.1
      have a9 : (ak == 9) = false := by rw [beq_eq_false_iff_ne]; exact k70.2.2
      have a7n : (ak != 7) = true := by rw [bne_iff_ne]; exact k70.1
      have a8n : (ak != 8) = true := by rw [bne_iff_ne]; exact k70.2.1
      have a9n : (ak != 9) = true := by rw [bne_iff_ne]; exact k70.2.2
      have HDO : Hid (Calls Tryz.prog 23 #[.agg #[.slice (some ⟨dg, 0, none⟩) 1 dc, .slice (some ⟨wg, 0, none⟩) 1 wc, .slice (some ⟨mg, 0, none⟩) 1 mc], .agg #[.int .i64 ak, .int .i64 ap, .int .i64 aa, .int .i64 an, .slice ada adl adc, .slice apa apl apc, .int .i64 aR, .int .i64 aC, .int .i64 aI, .slice afa afn afc]] W5 fun e w' => e = .returned (.tuple #[]) ∧ (∃ X' S' Y' T', KeptM X' S' (5 * j) (N + 5 * j) r ∧ KeptM Y' T' 0 N r ∧ World1 w' h (fun i => Av' i ∨ (wr.heap.size ≤ i ∧ i < W5.heap.size)) dg wg mg q p mq mp X' S' Y' T' ∧ ((ak ≠ 6 ∧ S' = S) ∨ (ak = 6 ∧ ∃ dirs cuts, S' = S.crash dirs cuts))) ∧ Touch (fr h (fun i => Av' i ∨ (wr.heap.size ≤ i ∧ i < W5.heap.size))) W5 w') := Lib.hid (by
        have h2 := HHH.out
        have hin := ActIn.placed (x := ⟨ak, ap, aa, an, adata, aplan, aR, aC, aI⟩) (L := ⟨ada, adc, apa, apc, afa, afn, afc⟩) (HAI.out.far HFA.out HBW5.out (h' := h) (Av := (fun i => Av' i ∨ (wr.heap.size ≤ i ∧ i < W5.heap.size))) (by omega) (Nat.le_refl _))
        have j2 := do_map W5 h dg dc wg wc mg mc q p mq mp _ X Y S T HM5.out.wd hh5 HCAP.out ⟨ak, ap, aa, an, adata, aplan, aR, aC, aI⟩ ⟨ada, adc, apa, apc, afa, afn, afc⟩ hin k70 HM5.out.kx HM5.out.ky
        unfold bothV actCells at j2
        rw [HADL.out.1, HADL.out.2]
        exact j2)
      clear k7 k70
      by_cases k8 : ak = 6
      · as_aux_lemma =>
          subst k8
          go_upto_region 19 with (go_at_call 23; refine HDO.out.mono ?_; rintro e W6 ⟨rfl, ⟨X6, S6, Y6, T6, hK6, hK26, hT6, hS6⟩, ht6⟩; have HT6 := Lib.hid hT6; have HTS := Lib.hid ht6; have HK6 := Lib.hid hK6; have HK26 := Lib.hid hK26; have HS6 := Lib.hid hS6; clear v0 v1 v2 v3 v4 v5 v6 v7 v8 v9 v10 v11 v12; obtain ⟨v0, v1, v2, v3, _⟩ := HSB.out W6 ht6; clear hT6 ht6 hK6 hK26 hS6)
          clear b0 b1 b2 q5 q5l v0 v1 v2 v3
          have HCR : Hid (∃ dirs cuts, S6 = S.crash dirs cuts) := Lib.hid (by rcases HS6.out with ⟨h, _⟩ | ⟨_, h⟩; exact absurd rfl h; exact h)
          have hH6 : Holds S6 (fun s y => Book.allows bk s y) := by
            obtain ⟨dirs, cuts, e⟩ := HCR.out
            rw [e]
            exact HM5.out.holds.crash HM5.out.kx.k.drv dirs cuts
          have hM6 := HM5.out.step (k' := 5 * j) HT6.out HTS.out HK6.out HK26.out hH6
          have HM6 := Lib.hid hM6
          have HTT0 := Lib.hid (HTT.out.then_ (fr_mono HTS.out HM5.out.av))
          obtain ⟨m6, hm6⟩ : ∃ m, m = S6.image.length := ⟨_, rfl⟩
          have hm6l : m6 ≤ 1073741824 := by rw [hm6]; exact Nat.le_trans (image_len HM6.out.kx.k.drv) HM6.out.kx.k.drv.rooms
          have HMX := Lib.hid hm6
          obtain ⟨qd, qdl⟩ := hM6.wd.qcell
          clear hm6 hM6 hH6
          go_wp2_with fail
          refine (wimage1 HM6.out.wd HM6.out.kx).mono ?_
          rintro e W7 ⟨v7, rfl, hf7, hb7⟩
          obtain ⟨a7', c7', rfl, _⟩ := hf7.shape
          rw [← HMX.out] at hf7 ⊢
          have HF7 := Lib.hid hf7
          have HM7 := Lib.hid (HM6.out.below hb7)
          have HT7 := Lib.hid (HTT0.out.then_ (Touch.of_below hb7))
          clear hf7 hb7 qd qdl
          go_wp2_with fail
          refine (holds_any _ S6.image W2.heap.size _ _ _ a7' nb m6 _ c7' HNB.out HMX.out W7 HM7.out.bk HF7.out hn40 (by omega) (fun e he => by have := HM7.out.vals e he; omega) (holds_image HM7.out.kx.k.drv HM7.out.holds)).mono ?_
          rintro e W8 ⟨rfl, n8, hn8⟩
          have hb8 : Below W7.heap.size W7 W8 := by rw [hn8]; exact below_drewN (Below.refl _ _) _
          have HM8 := Lib.hid (HM7.out.below hb8)
          have HT8 := Lib.hid (HT7.out.then_ (Touch.of_below hb8))
          obtain ⟨qe, qel⟩ := HM8.out.wd.qcell
          clear hn8 hb8
          go_wp2_with fail
          refine (wimage1 HM8.out.wd HM8.out.kx).mono ?_
          rintro e W9 ⟨v9, rfl, hf9, hb9⟩
          obtain ⟨a9', c9', rfl, _⟩ := hf9.shape
          rw [← HMX.out] at hf9 ⊢
          have hs9 : W8.heap.size ≤ W9.heap.size := hb9.size
          have HF9 := Lib.hid hf9
          have HB9 := Lib.hid hb9
          clear hf9 hb9
          go_wp2_with fail
          refine (settled_any S6.image W8.heap.size a9' c9' m6 HMX.out W9 HF9.out (by omega)).mono ?_
          rintro e W10 ⟨v10, rfl, hbk10, hb10⟩
          have hs10 : W9.heap.size ≤ W10.heap.size := hb10.size
          have h28 : W2.heap.size ≤ W8.heap.size := HT8.out.size
          have hM10 : MapSt W10 h W2.heap.size (fun k => Av k ∨ (w1.heap.size ≤ k ∧ k < w1.heap.size + 1)) (fun k => (fun i => Av' i ∨ (wr.heap.size ≤ i ∧ i < W5.heap.size)) k ∨ (W8.heap.size ≤ k ∧ k < W10.heap.size)) dg wg mg q p mq mp X6 Y6 S6 T6 (fun k => W9.heap.size ≤ k ∧ k < W10.heap.size) v10 (Book.settled S6.image) (5 * (j + 1)) (j + 1) N r :=
            ⟨HK6.out.mono (by omega) (by omega) (by omega), HK26.out, fun i hi => .inl (HM8.out.av i hi), HM8.out.wd.boxed (HB9.out.trans (hb10.mono hs9)), hbk10.base (by omega), fun i hi => ⟨.inr ⟨by omega, hi.2⟩, by omega⟩, Book.settled_ok HK6.out.k.drv, by unfold Book.settled; rw [List.length_map, ← HMX.out]; omega, fun e he => by
              unfold Book.settled at he
              obtain ⟨f, _, rfl⟩ := List.mem_map.1 he
              show 1 ≤ _
              omega, by
              obtain ⟨dirs, cuts, e⟩ := HCR.out
              have hc := crash_settled HM5.out.kx.k.drv dirs cuts
              rw [← e] at hc
              exact hc.mono fun s y _ hy => by subst hy; exact Book.settled_allows HK6.out.k.drv s⟩
          obtain ⟨ab6, cb6, rfl, _⟩ := hM10.bk.shape
          obtain ⟨n7, hn7⟩ : ∃ n, n = (Book.settled S6.image).length := ⟨_, rfl⟩
          have HN7 := Lib.hid hn7
          rw [← hn7] at hM10 ⊢
          have HMT := Lib.hid hM10
          have HTT6 := Lib.hid (HT8.out.then_ (Touch.of_below (HB9.out.trans (hb10.mono hs9))))
          clear hM10 hn7 hbk10 hb10 qe qel
          obtain ⟨qc, ql⟩ := HMT.out.wd.qcell
          obtain ⟨mi, hmi⟩ : ∃ m, m = S6.image.length := ⟨_, rfl⟩
          have hmil : mi ≤ 1073741824 := by rw [hmi]; exact Nat.le_trans (image_len HMT.out.kx.k.drv) HMT.out.kx.k.drv.rooms
          have HMI := Lib.hid hmi
          clear hmi
          go_wp2_with fail
          refine (wimage1 HMT.out.wd HMT.out.kx).mono ?_
          rintro e Wi ⟨vi, rfl, hfi, hbi⟩
          obtain ⟨ai, ci, rfl, _⟩ := hfi.shape
          rw [← HMI.out] at hfi ⊢
          have HFI := Lib.hid hfi
          have HMU := Lib.hid (HMT.out.below hbi)
          have HTU := Lib.hid (HTT6.out.then_ (Touch.of_below hbi))
          clear hfi hbi qc ql
          go_wp2_with fail
          refine (holds_any _ S6.image W2.heap.size _ _ _ ai n7 mi _ ci HN7.out HMI.out Wi HMU.out.bk HFI.out (by have := HMU.out.len; rw [← HN7.out] at this; omega) (by omega) (fun e he => by have := HMU.out.vals e he; omega) (holds_image HMU.out.kx.k.drv HMU.out.holds)).mono ?_
          rintro e Wj ⟨rfl, nj, hnj⟩
          have HWJ := Lib.hid hnj
          clear hnj
          go_wp2
          exact ⟨⟨j + 1, by omega, by go_num, Lib.hid ⟨_, _, _, _, _, _, _, HMU.out.below (by rw [HWJ.out]; exact below_drewN (Below.refl _ _) _)⟩, HTU.out.then_ (by rw [HWJ.out]; exact Touch.of_below (below_drewN (Below.refl _ _) _))⟩, by simp only [intOf]; omega⟩
      · as_aux_lemma =>
          have a6 : (ak == 6) = false := by rw [beq_eq_false_iff_ne]; exact k8
          go_upto_region 40 with (go_at_call 23; refine HDO.out.mono ?_; rintro e W6 ⟨rfl, ⟨X6, S6, Y6, T6, hK6, hK26, hT6, hS6⟩, ht6⟩; have HT6 := Lib.hid hT6; have HTS := Lib.hid ht6; have HK6 := Lib.hid hK6; have HK26 := Lib.hid hK26; have HS6 := Lib.hid hS6; clear v0 v1 v2 v3 v4 v5 v6 v7 v8 v9 v10 v11 v12; obtain ⟨v0, v1, v2, v3, _⟩ := HSB.out W6 ht6; clear hT6 ht6 hK6 hK26 hS6)
          clear b0 b1 b2 q5 q5l v0 v1 v2 v3
          have hS : S6 = S := by rcases HS6.out with ⟨_, h⟩ | ⟨h, _⟩; exact h; exact absurd h k8
          have hM6 := HM5.out.step (k' := 5 * (j + 1)) HT6.out HTS.out (HK6.out.mono (by omega) (by omega) (by omega)) HK26.out (by rw [hS]; exact HM5.out.holds)
          have HMT := Lib.hid hM6.next
          have HTT6 := Lib.hid (HTT.out.then_ (fr_mono HTS.out HM5.out.av))
          clear hM6 hS k8
          obtain ⟨qc, ql⟩ := HMT.out.wd.qcell
          obtain ⟨mi, hmi⟩ : ∃ m, m = S6.image.length := ⟨_, rfl⟩
          have hmil : mi ≤ 1073741824 := by rw [hmi]; exact Nat.le_trans (image_len HMT.out.kx.k.drv) HMT.out.kx.k.drv.rooms
          have HMI := Lib.hid hmi
          clear hmi
          go_wp2_with fail
          refine (wimage1 HMT.out.wd HMT.out.kx).mono ?_
          rintro e Wi ⟨vi, rfl, hfi, hbi⟩
          obtain ⟨ai, ci, rfl, _⟩ := hfi.shape
          rw [← HMI.out] at hfi ⊢
          have HFI := Lib.hid hfi
          have HMU := Lib.hid (HMT.out.below hbi)
          have HTU := Lib.hid (HTT6.out.then_ (Touch.of_below hbi))
          clear hfi hbi qc ql
          go_wp2_with fail
          refine (holds_any _ S6.image W2.heap.size _ _ _ ai nb mi _ ci HNB.out HMI.out Wi HMU.out.bk HFI.out (by have := HMU.out.len; rw [← HNB.out] at this; omega) (by omega) (fun e he => by have := HMU.out.vals e he; omega) (holds_image HMU.out.kx.k.drv HMU.out.holds)).mono ?_
          rintro e Wj ⟨rfl, nj, hnj⟩
          have HWJ := Lib.hid hnj
          clear hnj
          go_wp2
          exact ⟨⟨j + 1, by omega, by go_num, Lib.hid ⟨_, _, _, _, _, _, _, HMU.out.below (by rw [HWJ.out]; exact below_drewN (Below.refl _ _) _)⟩, HTU.out.then_ (by rw [HWJ.out]; exact Touch.of_below (below_drewN (Below.refl _ _) _))⟩, by simp only [intOf]; omega⟩
    · go_wp2
      go_ret
      exact ⟨rfl, HBR.out⟩
end Go.Proofs.YtdmcjomcbhdcbaaGreat
namespace Go.Proofs.YtdmcjomcbhdcbaaGreat
open Go.RowKit Go.Maps

set_option maxRecDepth 100000 in
set_option maxHeartbeats 8000000 in
theorem map_no (w : World) (x : PPlace) (L : PlLay) (hx : PlaceIn w x L) (hok : x.ok = false) (A : Option Addr) (n c : Nat) :
    Calls Tryz.prog 4 #[.agg (placeCells x L).toArray, .slice A n c] w fun e w' => e = .returned (.bool true) ∧ Below w.heap.size w w' := by
  have HMK : Hid (∀ W1, Below w.heap.size w W1 → Calls Tryz.prog 9 #[.slice (some ⟨W1.heap.size, 0, none⟩) 1 1] (W1.alloc (.cells (placeCells x L).toArray 25)) fun e w' => ∃ dg dc wg wc mg mc, e = .returned (.tuple #[bothV dg dc wg wc mg mc, .bool true]) ∧ Rows0 w' dg wg mg ∧ Caps dc wc mc ∧ Below W1.heap.size W1 w') := Lib.hid fun W1 hb1 => make_behind0 w x L hx hok W1 hb1
  clear hx hok
  obtain ⟨there, room, fs, plan, off, fused, R, C, I⟩ := x
  obtain ⟨fa, fc, pa, plc⟩ := L
  obtain ⟨nf, hnf⟩ : ∃ nf, nf = fs.length := ⟨_, rfl⟩
  obtain ⟨np, hnp⟩ : ∃ np, np = plan.length := ⟨_, rfl⟩
  unfold placeCells bothV at HMK
  unfold placeCells
  simp only at HMK ⊢
  rw [← hnf, ← hnp] at HMK
  rw [← hnf, ← hnp]
  clear hnf hnp
  go_enter Tryz.func4, Tryz.ntmps4
  go_upto_region 1 with fail
  refine wp_world fun V0 hV0 => ?_
  have hb0 : Below w.heap.size w V0 := by rw [hV0]; exact (Below.refl _ _).alloc (Nat.le_refl _) _
  have HPB0 : Hid (Blk V0 w.heap.size 25 #[.bool there, .int .i64 room, .slice fa nf fc, .slice pa np plc, .bool off, .bool fused, .int .i64 R, .int .i64 C, .int .i64 I]) := Lib.hid (by rw [hV0]; exact Blk.new _ _ _)
  have hs0 : w.heap.size + 1 = V0.heap.size := by rw [hV0]; simp
  have HB0 := Lib.hid hb0
  clear hV0 hb0
  go_upto_region 3 with (go_at_call 8; refine (awake_any V0).mono ?_; rintro e W1 ⟨rfl, hb1⟩; have HB1 := Lib.hid hb1; have hpb1 := HPB0.out.below hb1 HPB0.out.lt; have p0 := hpb1.cell 0; have p1 := hpb1.cell 1; have p2 := hpb1.cell 2; have p3 := hpb1.cell 3; have p4 := hpb1.cell 4; have p5 := hpb1.cell 5; have p6 := hpb1.cell 6; have p7 := hpb1.cell 7; have p8 := hpb1.cell 8; simp at p0 p1 p2 p3 p4 p5 p6 p7 p8; clear hb1 hpb1)
  have hs1 : V0.heap.size ≤ W1.heap.size := HB1.out.size
  have HBW1 : Hid (Below w.heap.size w W1) := Lib.hid (HB0.out.trans (HB1.out.mono (by omega)))
  have hw1l : w.heap.size < W1.heap.size := by omega
  go_upto_region 4 with (first
    | (go_at_call 9; (refine (HMK.out _ HBW1.out).mono ?_); rintro e w1 ⟨dg, dc, wg, wc, mg, mc, rfl, hT1, hcap, hb1⟩; have HBM := Lib.hid hb1; have hwu := hT1.u; have hwl := hT1.ul; have hwc := hcap.u; clear hT1 hcap hb1)
    | fail)
  clear p0 p1 p2 p3 p4 p5 p6 p7 p8
  have hsm : W1.heap.size ≤ w1.heap.size := HBM.out.size
  have h01 : (0 : Int) < ((1 : Nat) : Int) := by omega
  go_wp2_with (go_at_call 16; refine (remove_nil ⟨#[97]⟩ _).mono ?_; rintro e W4 ⟨rfl, hb4⟩; have HB4 := Lib.hid hb4; clear hb4)
  go_ret
  have h5 : Below w.heap.size w (w1.alloc (.cells #[.slice (some ⟨dg, 0, none⟩) 1 dc, .slice (some ⟨wg, 0, none⟩) 1 wc, .slice (some ⟨mg, 0, none⟩) 1 mc] 36)) := (HBW1.out.trans (HBM.out.mono (by omega))).alloc (by omega) _
  exact ⟨rfl, h5.trans (HB4.out.mono h5.size)⟩

/-- All that a place's drive shows at the beginning is safe. -/
theorem place_holds (x : PPlace) (hok : x.ok = true) (hf : x.files.length + 5 ≤ 1073741824) (hb : ∀ f ∈ x.files, f.2.length ≤ 1073741824) : Holds x.drv (fun s y => y = x.drv.shows s) := by
  have hlo : loadOk x.room x.files = true := by
    unfold PPlace.ok at hok
    simp only [Bool.and_eq_true] at hok
    exact hok.2
  unfold loadOk at hlo
  simp only [Bool.and_eq_true, decide_eq_true_eq] at hlo
  obtain ⟨⟨h0, h1⟩, hl⟩ := hlo
  have h := loadK_facts x.files (Drv.new x.room.toNat) 0 (Drv.new_inv _ 0 (by omega) (by omega)) rfl rfl (fun i hi => absurd hi (by simp [Drv.new])) hl hb (by omega)
  exact holds_plain h.1 h.2.1 h.2.2.1 h.2.2.2.1
end Go.Proofs.YtdmcjomcbhdcbaaGreat
