/- WoundReasons: the walk. -/
import Derived.Test.YtdmcjomcbhdcbaaRe
import Derived.Test.YtdmcjomcbhdcbaaFw
namespace Go.Proofs.Ytdmcjomcbhdcbaa
open Go.RowKit Go.Maps

/-- What stands at the head of a round. -/
structure ReasAt (w : World) (h q p k : Nat) (away : Bool) : Prop where
  ex : ∃ X S, WDb w h q p X S ∧ X.OkN k ∧ X.away = away ∧ S.Inv k ∧ S.room ≤ 400

set_option maxRecDepth 100000 in
set_option maxHeartbeats 8000000 in
theorem woundReasons_walk (n : Int) (aA : Option Addr) (nA cA : Nat) (xs : List PStep) (w : World) (hx : ScriptAt w w.heap.size aA nA xs) (hlA : nA * 168 ≤ 140737488351232) :
    Calls Try.prog 8 #[.int .i64 n, .slice aA nA cA] w fun e w' => e = .returned (.bool true) ∧ Below w.heap.size w w' := by
  have HX := Lib.hid hx
  clear hx
  have hr := roomI_bd n
  obtain ⟨r, hrr⟩ : ∃ r, r = roomI n := ⟨_, rfl⟩
  rw [← hrr] at hr
  have HRR := Lib.hid hrr
  clear hrr
  go_enter Try.func8, Try.ntmps8
  go_wp2_with fail
  refine (room_any n w).mono ?_
  rintro e w' ⟨rfl, rfl⟩
  rw [← HRR.out]
  go_wp2_with fail
  refine (newb_any r _ (by omega) (by omega)).mono ?_
  rintro e w1 ⟨p, rfl, hd1, hb1⟩
  have HD1 := Lib.hid hd1
  have HB1 := Lib.hid hb1
  clear hd1 hb1
  go_wp2_with fail
  refine (wnewb_any w.heap.size p _ w1 HB1.out.size HD1.out).mono ?_
  rintro e w2 ⟨q, rfl, hw2, hb2⟩
  have HW2 := Lib.hid hw2
  have HB2 : Hid (Below w.heap.size w w2) := Lib.hid (HB1.out.trans (hb2.mono HB1.out.size))
  clear hw2 hb2
  go_wp2_with fail
  refine (known_any w2).mono ?_
  rintro e w4 ⟨rfl, hb4⟩
  have HB4 : Hid (Below w.heap.size w w4) := Lib.hid (HB2.out.trans (hb4.mono HB2.out.size))
  have HI : Hid (ReasAt w4 w.heap.size q p 0 false) := Lib.hid ⟨_, _, WDb.below HW2.out hb4, Wnd.OkN.new, rfl, Drv.new_inv _ _ (by omega) (by omega), by show r.toNat ≤ 400; omega⟩
  clear hb4
  go_wp2
  go_loopw [7, 8] (fun v s wr => ∃ (k : Nat) (away : Bool), k ≤ nA ∧ s = .int .i64 k ∧ v = .bool away ∧ ReasAt wr w.heap.size q p k away ∧ Below w.heap.size w wr) (fun _ s _ => nA - (intOf s).toNat)
  case atStart => exact ⟨0, false, Nat.zero_le _, rfl, rfl, HI.out, HB4.out⟩
  case round =>
    obtain ⟨k, away, hk, rfl, rfl, ⟨X, S, hwd, hX, hXa, hSi, hSr⟩, hbr⟩ := hrel
    have HWD := Lib.hid hwd
    have HXN := Lib.hid hX
    have HXA := Lib.hid hXa
    have HSI := Lib.hid hSi
    have HSR := Lib.hid hSr
    have HBR := Lib.hid hbr
    have hszr := hbr.size
    clear hwd hX hXa hSi hSr hbr
    by_cases hlt : k < nA
    · obtain ⟨x, hxk⟩ : ∃ x, xs[k]? = some x := ⟨_, List.getElem?_eq_getElem (by rw [HX.out.len]; exact hlt)⟩
      obtain ⟨b, off, L, rfl, hbl, hra0, hsa, hfi⟩ := HX.out.get k x hxk
      have HSA := Lib.hid hsa
      have HFC := Lib.hid hfi
      obtain ⟨y0, y1, y2, y3, y4, y5, y6, y7, y8, y9, y10⟩ := script_cells (rangeAt_far hra0 (HBR.out.block b hbl))
      have hkn : k ≤ 2199023254000 := by omega
      have HSM := Lib.hid (HSI.out.small hkn)
      have HOK := Lib.hid (HXN.out.ok (by omega))
      have HCV : Hid (stepCells x L = #[.int .i64 x.kind, .string x.name, .string x.to, .slice L.pd x.data.length L.cd, .int .i64 x.a, .int .i64 x.b, .int .i64 x.c, .bool x.yes, .slice L.pp x.plan.length L.cp, .slice L.pr x.dirs.length L.cr, .slice L.pc x.cuts.length L.cc]) := Lib.hid rfl
      clear hra0 hsa hfi hxk
      go_wp2_with fail
      rw [← HCV.out]
      obtain ⟨W8, hW8⟩ : ∃ W8, W8 = wr.alloc (.cells (stepCells x L) 69) := ⟨_, rfl⟩
      obtain ⟨g8, hg8⟩ : ∃ g8, g8 = wr.heap.size := ⟨_, rfl⟩
      rw [← hW8, ← hg8]
      have hb8 : Below wr.heap.size wr W8 := by rw [hW8]; exact (Below.refl _ _).alloc (Nat.le_refl _) _
      have HB8 : Hid (Below w.heap.size w W8) := Lib.hid (HBR.out.trans (hb8.mono hszr))
      have HWD8 : Hid (WD W8 q p X S fun i => w.heap.size ≤ i ∧ i < wr.heap.size) := Lib.hid (WD.below HWD.out hb8)
      have HG8 : Hid (Blk W8 g8 69 (stepCells x L)) := Lib.hid (by rw [hW8, hg8]; exact Blk.new _ _ _)
      have HGW := Lib.hid hg8
      clear hW8 hg8 hb8
      refine (on_any q _ _ _ W8 HWD8.out.wn).mono ?_
      rintro e w' ⟨rfl, rfl⟩
      obtain ⟨on, hon⟩ : ∃ on, on = !X.down := ⟨_, rfl⟩
      rw [← hon]
      have HON := Lib.hid hon
      clear hon
      go_wp2_with fail
      refine (calls_any q _ _ _ W8 HWD8.out.wn).mono ?_
      rintro e w' ⟨rfl, rfl⟩
      obtain ⟨c0, hc0⟩ : ∃ c, c = X.calls := ⟨_, rfl⟩
      rw [← hc0]
      have hc0l : 0 ≤ c0 := by rw [hc0]; exact HXN.out.calls.1
      have hc0u : c0 ≤ 2199023254000 := by have := HXN.out.calls.2; omega
      have HC0 := Lib.hid hc0
      clear hc0
      go_wp2_with fail
      refine (wlit_any q p _ _ _ W8 HWD8.out).mono ?_
      rintro e w' ⟨rfl, rfl⟩
      obtain ⟨lit, hlit⟩ : ∃ l, l = X.lit := ⟨_, rfl⟩
      rw [← hlit]
      have HLIT := Lib.hid hlit
      clear hlit
      obtain ⟨ad8, hd8⟩ := HWD8.out.dr
      have HD8 := Lib.hid hd8
      clear hd8
      go_wp2_with fail
      refine (image_any p S ad8 _ W8 HD8.out HSM.out HSI.out.fnow).mono ?_
      rintro e w9 ⟨v9, rfl, hf9, hb9⟩
      have HWD9 := Lib.hid (WD.below HWD8.out hb9)
      have HB89 := Lib.hid hb9
      have HB9 : Hid (Below w.heap.size w w9) := Lib.hid (HB8.out.trans (hb9.mono HB8.out.size))
      have HF9 := Lib.hid hf9
      have HG9 := Lib.hid (HG8.out.below hb9 HG8.out.lt)
      obtain ⟨ad9, hd9⟩ := HWD9.out.dr
      have HD9 := Lib.hid hd9
      clear hf9 hb9 hd9
      go_wp2_with fail
      refine (safe_any p S ad9 _ w9 HD9.out HSM.out HSI.out.fkept HSI.out.safe).mono ?_
      rintro e w10 ⟨v10, rfl, hf10, hb10⟩
      have HWD10 := Lib.hid (WD.below HWD9.out hb10)
      have HB910 : Hid (Below W8.heap.size W8 w10) := Lib.hid (HB89.out.trans (hb10.mono HB89.out.size))
      have HB10 : Hid (Below w.heap.size w w10) := Lib.hid (HB9.out.trans (hb10.mono HB9.out.size))
      have HF9' := Lib.hid (HF9.out.below hb10)
      have HF10 := Lib.hid hf10
      have HG10 := Lib.hid (HG9.out.below hb10 HG9.out.lt)
      obtain ⟨ad10, hd10⟩ := HWD10.out.dr
      have HD10 := Lib.hid hd10
      clear hf10 hb10 hd10
      go_wp2_with fail
      refine (pending_any p S ad10 _ w10 HD10.out).mono ?_
      rintro e w' ⟨rfl, rfl⟩
      obtain ⟨d0, d1, d2, d3, d4, d5, d6, d7, d8, d9, d10⟩ := step_cells HG10.out
      go_wp2_with fail
      rw [← HCV.out]
      have hap : 0 < x.plan.length → ∀ ad, L.pp = some ad → ¬((fun i => w.heap.size ≤ i ∧ i < wr.heap.size) ad.block) := fun h0 ad e hf => by
        obtain ⟨ad', e', hb', _⟩ := HSA.out.plan.2 h0
        rw [e] at e'; injection e' with e'; subst e'
        exact absurd hf.1 (by omega)
      have HAP := Lib.hid hap
      clear hap d0 d1 d2 d3 d4 d5 d6 d7 d8 d9 d10 y0 y1 y2 y3 y4 y5 y6 y7 y8 y9 y10
      have HFW : Hid (∀ i, (fun i => w.heap.size ≤ i ∧ i < wr.heap.size) i → i < W8.heap.size) := Lib.hid fun i hi => by have := HG8.out.lt; have h2 := hi.2; rw [← HGW.out] at h2; omega
      have hs10 : W8.heap.size ≤ w10.heap.size := (HB910.out).size
      refine (hurt25_any q p X S k (fun i => w.heap.size ≤ i ∧ i < wr.heap.size) x L w10 w.heap.size HFC.out HWD10.out (fun i hi => Nat.lt_of_lt_of_le (HFW.out i hi) hs10) HOK.out HSI.out hkn HB10.out.size (HSA.out.far fun i hi => HB10.out.block i hi) HAP.out).mono ?_
      rintro e w11 ⟨u, rfl, hs, hd, ht⟩
      obtain ⟨Y, hY⟩ : ∃ Y, Y = (hurt25 X S x).1 := ⟨_, rfl⟩
      obtain ⟨T, hT⟩ : ∃ T, T = (hurt25 X S x).2.1 := ⟨_, rfl⟩
      obtain ⟨sd, hsd⟩ : ∃ sd, sd = (hurt25 X S x).2.2 := ⟨_, rfl⟩
      rw [← hY, ← hT] at hd
      rw [← hsd] at hs
      have HYN : Hid (Y.OkN (k + 1)) := Lib.hid (by rw [hY]; exact hurt25_okN HXN.out S HFC.out)
      have HTI : Hid (T.Inv (k + 1) ∧ T.room ≤ 400) := Lib.hid (by
        have hr4 := HSR.out
        have hm := Nat.mul_le_mul (show k + 1 ≤ 2199023254001 by omega) hr4
        rw [hT]; exact ⟨hurt25_inv HSI.out x (by omega), by rw [hurt25_room]; exact hr4⟩)
      have HYA : Hid (Y.away = if x.kind = 11 then x.yes else X.away) := Lib.hid (by rw [hY]; exact hurt25_away X S x)
      have HANS : Hid (1 ≤ x.kind ∧ x.kind ≤ 8 → Answers X S x.kind Y T sd.e) := Lib.hid fun h8 => by rw [hY, hT, hsd, hurt25_call h8]; exact hurt8_answers X S x h8
      have hst := WDb.stepF (h := w.heap.size) (F := fun i => w.heap.size ≤ i ∧ i < wr.heap.size) (fun i hi => ⟨hi.1, Nat.lt_of_lt_of_le (HFW.out i hi) hs10⟩) HB10.out.size hd ht
      have HWD11 := Lib.hid hst.1
      have HB11 : Hid (Below w.heap.size w w11) := Lib.hid (HB10.out.trans hst.2)
      have HG11 : Hid (Blk w11 g8 69 (stepCells x L)) := Lib.hid ((ht.block _ HG10.out.lt (fun hf => by have h2 := hf.2; rw [← HGW.out] at h2; omega)).trans HG10.out)
      have HF911 := Lib.hid (HF9'.out.touch ht HFW.out)
      have HF1011 := Lib.hid (HF10.out.touch ht fun i hi => Nat.lt_of_lt_of_le (HFW.out i hi) HB89.out.size)
      obtain ⟨dv, mv, fv, rfl, r1, r2, r3⟩ := hs
      obtain ⟨da, dc, rfl, _⟩ := own_shape r1
      obtain ⟨ma, mc, rfl, _⟩ := own_shape r2
      obtain ⟨fa, fc, rfl, _⟩ := r3.shape
      obtain ⟨E, hE⟩ : ∃ E, E = sd.e := ⟨_, rfl⟩
      obtain ⟨NN, hNN⟩ : ∃ E, E = sd.n := ⟨_, rfl⟩
      obtain ⟨YY, hYY⟩ : ∃ E, E = sd.yes := ⟨_, rfl⟩
      obtain ⟨dn, hdn⟩ : ∃ E, E = sd.data.length := ⟨_, rfl⟩
      obtain ⟨mn, hmn⟩ : ∃ E, E = sd.names.length := ⟨_, rfl⟩
      obtain ⟨fn, hfn⟩ : ∃ E, E = sd.files.length := ⟨_, rfl⟩
      rw [← hE, ← hNN, ← hYY, ← hdn, ← hmn, ← hfn]
      rw [← hE] at HANS
      obtain ⟨g9, hg9⟩ : ∃ g9, g9 = w11.heap.size := ⟨_, rfl⟩
      obtain ⟨V, hV⟩ : ∃ V, V = w11.alloc (.cells #[.int .i64 E, .slice da dn dc, .slice ma mn mc, .slice fa fn fc, .int .i64 NN, .bool YY] 41) := ⟨_, rfl⟩
      have hb11V : Below w11.heap.size w11 V := by rw [hV]; exact (Below.refl _ _).alloc (Nat.le_refl _) _
      have HBV : Hid (Below w.heap.size w V) := Lib.hid (HB11.out.trans (hb11V.mono HB11.out.size))
      have HWDV := Lib.hid (HWD11.out.below hb11V)
      have HG8V := Lib.hid (HG11.out.below hb11V HG11.out.lt)
      have HG9V : Hid (Blk V g9 41 #[.int .i64 E, .slice da dn dc, .slice ma mn mc, .slice fa fn fc, .int .i64 NN, .bool YY]) := Lib.hid (by rw [hV, hg9]; exact Blk.new _ _ _)
      have HF9V := Lib.hid (HF911.out.below hb11V)
      have HF10V := Lib.hid (HF1011.out.below hb11V)
      have HVV := Lib.hid hV
      have HG9 := Lib.hid hg9
      have a0 : V.cell? ⟨g8, 0, none⟩ = some (.int .i64 x.kind) := HG8V.out.cell 0
      have a7 : V.cell? ⟨g8, 7, none⟩ = some (.bool x.yes) := HG8V.out.cell 7
      have b0 : V.cell? ⟨g9, 0, none⟩ = some (.int .i64 E) := HG9V.out.cell 0
      rw [hV] at a0 a7 b0
      rw [hg9] at b0
      clear hd ht hst hY hT hsd r1 r2 r3 hE hNN hYY hdn hmn hfn hg9 hV hb11V
      by_cases h11 : x.kind = 11
      · have HAW : Hid (Y.away = x.yes) := Lib.hid (by rw [HYA.out, if_pos h11])
        have t1 : (x.kind == 11) = true := by simp [h11]
        have t2 : decide (x.kind < 1) = false := by simp; omega
        have t3 : decide (8 < x.kind) = true := by simp; omega
        have T1 : ¬x.kind < 1 := by omega
        have T3 : 8 < x.kind := by omega
        have H11 := Lib.hid h11
        clear h11
        go_wp2
        rw [← HVV.out]
        go_roundw
        case rel => exact ⟨k + 1, x.yes, by omega, by go_num, rfl, ⟨Y, T, HWDV.out, HYN.out, HAW.out, HTI.out.1, HTI.out.2⟩, HBV.out⟩
        case measure => simp [intOf]; omega
      · have HAW : Hid (Y.away = away) := Lib.hid (by rw [HYA.out, if_neg h11]; exact HXA.out)
        have t1 : (x.kind == 11) = false := by simp [h11]
        have H11 := Lib.hid h11
        clear h11
        by_cases hlo : x.kind < 1
        · go_wp2
          rw [← HVV.out]
          go_roundw
          case rel => exact ⟨k + 1, away, by omega, by go_num, rfl, ⟨Y, T, HWDV.out, HYN.out, HAW.out, HTI.out.1, HTI.out.2⟩, HBV.out⟩
          case measure => simp [intOf]; omega
        · by_cases hhi : 8 < x.kind
          · go_wp2
            rw [← HVV.out]
            go_roundw
            case rel => exact ⟨k + 1, away, by omega, by go_num, rfl, ⟨Y, T, HWDV.out, HYN.out, HAW.out, HTI.out.1, HTI.out.2⟩, HBV.out⟩
            case measure => simp [intOf]; omega
          · have HA := Lib.hid (HANS.out ⟨by omega, by omega⟩)
            cases hdn : X.down with
            | true =>
              obtain ⟨hYX, hTS, hE⟩ := HA.out.down hdn
              obtain rfl : on = false := by rw [HON.out, hdn]; rfl
              have HYD : Hid ((!Y.down) = false) := Lib.hid (by rw [hYX, hdn]; rfl)
              have HYC : Hid (Y.calls = c0) := Lib.hid (by rw [hYX]; exact HC0.out.symm)
              subst hE
              obtain rfl : S = T := hTS.symm
              clear hYX hdn
              obtain ⟨adV, hdV⟩ := HWDV.out.dr
              have HDV := Lib.hid hdV
              clear hdV
              have b0V : V.cell? ⟨w11.heap.size, 0, none⟩ = some (.int .i64 122) := by rw [← HG9.out]; exact HG9V.out.cell 0
              have a0V : V.cell? ⟨g8, 0, none⟩ = some (.int .i64 x.kind) := HG8V.out.cell 0
              go_wp2_with (first
                | (go_at_call 29; (try rw [← HVV.out]); refine (on_any q _ _ _ V HWDV.out.wn).mono ?_; rintro e w' ⟨rfl, rfl⟩; rw [HYD.out])
                | (go_at_call 27; (try rw [← HVV.out]); refine (calls_any q _ _ _ V HWDV.out.wn).mono ?_; rintro e w' ⟨rfl, rfl⟩; rw [HYC.out]))
              try rw [← HVV.out]
              refine (image_any p S adV _ V HDV.out HSM.out HSI.out.fnow).mono ?_
              rintro e w12 ⟨v12, rfl, hf12, hb12⟩
              have HF12 := Lib.hid hf12
              have HF9W := Lib.hid (HF9V.out.below hb12)
              have HF10W := Lib.hid (HF10V.out.below hb12)
              have HWDW := Lib.hid (HWDV.out.below hb12)
              have HBW : Hid (Below w.heap.size w w12) := Lib.hid (HBV.out.trans (hb12.mono HBV.out.size))
              clear hf12 hb12
              go_wp2_with fail
              refine (files_any v12 v9 S.image S.image _ _ w12 HF12.out HF9W.out (image_length (w := w12) (p := p) (F := fun _ => True) HSM.out).1).mono ?_
              rintro e w13 ⟨rfl, n13, hw13⟩
              rw [show decide (S.image = S.image) = true from decide_eq_true rfl]
              have hb13 : Below w12.heap.size w12 w13 := by rw [hw13]; exact below_drewN (Below.refl _ _) n13
              have HF10X := Lib.hid (HF10W.out.below hb13)
              have HWDX := Lib.hid (HWDW.out.below hb13)
              have HBX : Hid (Below w.heap.size w w13) := Lib.hid (HBW.out.trans (hb13.mono HBW.out.size))
              clear hw13 hb13
              obtain ⟨adX, hdX⟩ := HWDX.out.dr
              have HDX := Lib.hid hdX
              clear hdX
              go_wp2_with fail
              refine (safe_any p S adX _ w13 HDX.out HSM.out HSI.out.fkept HSI.out.safe).mono ?_
              rintro e w14 ⟨v14, rfl, hf14, hb14⟩
              have HF14 := Lib.hid hf14
              have HF10Y := Lib.hid (HF10X.out.below hb14)
              have HWDY := Lib.hid (HWDX.out.below hb14)
              have HBY : Hid (Below w.heap.size w w14) := Lib.hid (HBX.out.trans (hb14.mono HBX.out.size))
              clear hf14 hb14
              go_wp2_with fail
              refine (files_any v14 v10 S.safes S.safes _ _ w14 HF14.out HF10Y.out (image_length (w := w14) (p := p) (F := fun _ => True) HSM.out).2).mono ?_
              rintro e w15 ⟨rfl, n15, hw15⟩
              rw [show decide (S.safes = S.safes) = true from decide_eq_true rfl]
              have hb15 : Below w14.heap.size w14 w15 := by rw [hw15]; exact below_drewN (Below.refl _ _) n15
              have HWDZ := Lib.hid (HWDY.out.below hb15)
              have HBZ : Hid (Below w.heap.size w w15) := Lib.hid (HBY.out.trans (hb15.mono HBY.out.size))
              clear hw15 hb15
              obtain ⟨adZ, hdZ⟩ := HWDZ.out.dr
              have HDZ := Lib.hid hdZ
              clear hdZ
              go_wp2_with fail
              refine (pending_any p S adZ _ w15 HDZ.out).mono ?_
              rintro e w' ⟨rfl, rfl⟩
              go_wp2
              go_roundw
              case rel => exact ⟨k + 1, away, by omega, by go_num, rfl, ⟨Y, S, HWDZ.out, HYN.out, HAW.out, HTI.out.1, HTI.out.2⟩, HBZ.out⟩
              case measure => simp [intOf]; omega
            | false =>
              obtain rfl : on = true := by rw [HON.out, hdn]; rfl
              cases haw : X.away with
              | true =>
                obtain ⟨hYX, hTS, hE⟩ := HA.out.away hdn haw
                obtain rfl : away = true := by rw [← HXA.out, haw]
                have HYD : Hid ((!Y.down) = true) := Lib.hid (by rw [hYX, hdn]; rfl)
                have HYC : Hid (Y.calls = c0) := Lib.hid (by rw [hYX]; exact HC0.out.symm)
                subst hE
                obtain rfl : S = T := hTS.symm
                clear hYX hdn haw
                obtain ⟨adV, hdV⟩ := HWDV.out.dr
                have HDV := Lib.hid hdV
                clear hdV
                have b0V : V.cell? ⟨w11.heap.size, 0, none⟩ = some (.int .i64 121) := by rw [← HG9.out]; exact HG9V.out.cell 0
                have a0V : V.cell? ⟨g8, 0, none⟩ = some (.int .i64 x.kind) := HG8V.out.cell 0
                go_wp2_with (first
                  | (go_at_call 29; (try rw [← HVV.out]); refine (on_any q _ _ _ V HWDV.out.wn).mono ?_; rintro e w' ⟨rfl, rfl⟩; rw [HYD.out])
                  | (go_at_call 27; (try rw [← HVV.out]); refine (calls_any q _ _ _ V HWDV.out.wn).mono ?_; rintro e w' ⟨rfl, rfl⟩; rw [HYC.out]))
                try rw [← HVV.out]
                refine (image_any p S adV _ V HDV.out HSM.out HSI.out.fnow).mono ?_
                rintro e w12 ⟨v12, rfl, hf12, hb12⟩
                have HF12 := Lib.hid hf12
                have HF9W := Lib.hid (HF9V.out.below hb12)
                have HF10W := Lib.hid (HF10V.out.below hb12)
                have HWDW := Lib.hid (HWDV.out.below hb12)
                have HBW : Hid (Below w.heap.size w w12) := Lib.hid (HBV.out.trans (hb12.mono HBV.out.size))
                clear hf12 hb12
                go_wp2_with fail
                refine (files_any v12 v9 S.image S.image _ _ w12 HF12.out HF9W.out (image_length (w := w12) (p := p) (F := fun _ => True) HSM.out).1).mono ?_
                rintro e w13 ⟨rfl, n13, hw13⟩
                rw [show decide (S.image = S.image) = true from decide_eq_true rfl]
                have hb13 : Below w12.heap.size w12 w13 := by rw [hw13]; exact below_drewN (Below.refl _ _) n13
                have HF10X := Lib.hid (HF10W.out.below hb13)
                have HWDX := Lib.hid (HWDW.out.below hb13)
                have HBX : Hid (Below w.heap.size w w13) := Lib.hid (HBW.out.trans (hb13.mono HBW.out.size))
                clear hw13 hb13
                obtain ⟨adX, hdX⟩ := HWDX.out.dr
                have HDX := Lib.hid hdX
                clear hdX
                go_wp2_with fail
                refine (safe_any p S adX _ w13 HDX.out HSM.out HSI.out.fkept HSI.out.safe).mono ?_
                rintro e w14 ⟨v14, rfl, hf14, hb14⟩
                have HF14 := Lib.hid hf14
                have HF10Y := Lib.hid (HF10X.out.below hb14)
                have HWDY := Lib.hid (HWDX.out.below hb14)
                have HBY : Hid (Below w.heap.size w w14) := Lib.hid (HBX.out.trans (hb14.mono HBX.out.size))
                clear hf14 hb14
                go_wp2_with fail
                refine (files_any v14 v10 S.safes S.safes _ _ w14 HF14.out HF10Y.out (image_length (w := w14) (p := p) (F := fun _ => True) HSM.out).2).mono ?_
                rintro e w15 ⟨rfl, n15, hw15⟩
                rw [show decide (S.safes = S.safes) = true from decide_eq_true rfl]
                have hb15 : Below w14.heap.size w14 w15 := by rw [hw15]; exact below_drewN (Below.refl _ _) n15
                have HWDZ := Lib.hid (HWDY.out.below hb15)
                have HBZ : Hid (Below w.heap.size w w15) := Lib.hid (HBY.out.trans (hb15.mono HBY.out.size))
                clear hw15 hb15
                obtain ⟨adZ, hdZ⟩ := HWDZ.out.dr
                have HDZ := Lib.hid hdZ
                clear hdZ
                go_wp2_with fail
                refine (pending_any p S adZ _ w15 HDZ.out).mono ?_
                rintro e w' ⟨rfl, rfl⟩
                go_wp2
                go_roundw
                case rel => exact ⟨k + 1, true, by omega, by go_num, rfl, ⟨Y, S, HWDZ.out, HYN.out, HAW.out, HTI.out.1, HTI.out.2⟩, HBZ.out⟩
                case measure => simp [intOf]; omega
              | false =>
                obtain rfl : away = false := by rw [← HXA.out, haw]
                cases hh : X.hits with
                | true =>
                  obtain ⟨hYX, hE, hTS⟩ := HA.out.hit hdn haw hh
                  obtain rfl : lit = true := by rw [HLIT.out]; exact hits_lit hh
                  have HYD : Hid ((!Y.down) = false) := Lib.hid (by rw [hYX]; rfl)
                  have HYC : Hid (Y.calls = c0 + 1) := Lib.hid (by rw [hYX, HC0.out]; rfl)
                  have HTS := Lib.hid hTS
                  subst hE
                  clear hYX hdn haw hTS hh
                  by_cases h2 : x.kind = 2
                  · have t2 : (x.kind == 2) = true := by simp [h2]
                    have HH2 := Lib.hid h2
                    clear h2
                    have b0V : V.cell? ⟨w11.heap.size, 0, none⟩ = some (.int .i64 122) := by rw [← HG9.out]; exact HG9V.out.cell 0
                    have a0V : V.cell? ⟨g8, 0, none⟩ = some (.int .i64 x.kind) := HG8V.out.cell 0
                    go_wp2_with (first
                      | (go_at_call 29; (try rw [← HVV.out]); refine (on_any q _ _ _ V HWDV.out.wn).mono ?_; rintro e w' ⟨rfl, rfl⟩; rw [HYD.out])
                      | (go_at_call 27; (try rw [← HVV.out]); refine (calls_any q _ _ _ V HWDV.out.wn).mono ?_; rintro e w' ⟨rfl, rfl⟩; rw [HYC.out]))
                    try rw [← HVV.out]
                    go_roundw
                    case rel => exact ⟨k + 1, false, by omega, by go_num, rfl, ⟨Y, T, HWDV.out, HYN.out, HAW.out, HTI.out.1, HTI.out.2⟩, HBV.out⟩
                    case measure => simp [intOf]; omega
                  · have hTS := HTS.out h2
                    have t2 : (x.kind == 2) = false := by simp [h2]
                    obtain rfl : S = T := hTS.symm
                    have HH2 := Lib.hid h2
                    clear h2
                    obtain ⟨adV, hdV⟩ := HWDV.out.dr
                    have HDV := Lib.hid hdV
                    clear hdV
                    have b0V : V.cell? ⟨w11.heap.size, 0, none⟩ = some (.int .i64 122) := by rw [← HG9.out]; exact HG9V.out.cell 0
                    have a0V : V.cell? ⟨g8, 0, none⟩ = some (.int .i64 x.kind) := HG8V.out.cell 0
                    go_wp2_with (first
                      | (go_at_call 29; (try rw [← HVV.out]); refine (on_any q _ _ _ V HWDV.out.wn).mono ?_; rintro e w' ⟨rfl, rfl⟩; rw [HYD.out])
                      | (go_at_call 27; (try rw [← HVV.out]); refine (calls_any q _ _ _ V HWDV.out.wn).mono ?_; rintro e w' ⟨rfl, rfl⟩; rw [HYC.out]))
                    try rw [← HVV.out]
                    refine (image_any p S adV _ V HDV.out HSM.out HSI.out.fnow).mono ?_
                    rintro e w12 ⟨v12, rfl, hf12, hb12⟩
                    have HF12 := Lib.hid hf12
                    have HF9W := Lib.hid (HF9V.out.below hb12)
                    have HF10W := Lib.hid (HF10V.out.below hb12)
                    have HWDW := Lib.hid (HWDV.out.below hb12)
                    have HBW : Hid (Below w.heap.size w w12) := Lib.hid (HBV.out.trans (hb12.mono HBV.out.size))
                    clear hf12 hb12
                    go_wp2_with fail
                    refine (files_any v12 v9 S.image S.image _ _ w12 HF12.out HF9W.out (image_length (w := w12) (p := p) (F := fun _ => True) HSM.out).1).mono ?_
                    rintro e w13 ⟨rfl, n13, hw13⟩
                    rw [show decide (S.image = S.image) = true from decide_eq_true rfl]
                    have hb13 : Below w12.heap.size w12 w13 := by rw [hw13]; exact below_drewN (Below.refl _ _) n13
                    have HF10X := Lib.hid (HF10W.out.below hb13)
                    have HWDX := Lib.hid (HWDW.out.below hb13)
                    have HBX : Hid (Below w.heap.size w w13) := Lib.hid (HBW.out.trans (hb13.mono HBW.out.size))
                    clear hw13 hb13
                    obtain ⟨adX, hdX⟩ := HWDX.out.dr
                    have HDX := Lib.hid hdX
                    clear hdX
                    go_wp2_with fail
                    refine (safe_any p S adX _ w13 HDX.out HSM.out HSI.out.fkept HSI.out.safe).mono ?_
                    rintro e w14 ⟨v14, rfl, hf14, hb14⟩
                    have HF14 := Lib.hid hf14
                    have HF10Y := Lib.hid (HF10X.out.below hb14)
                    have HWDY := Lib.hid (HWDX.out.below hb14)
                    have HBY : Hid (Below w.heap.size w w14) := Lib.hid (HBX.out.trans (hb14.mono HBX.out.size))
                    clear hf14 hb14
                    go_wp2_with fail
                    refine (files_any v14 v10 S.safes S.safes _ _ w14 HF14.out HF10Y.out (image_length (w := w14) (p := p) (F := fun _ => True) HSM.out).2).mono ?_
                    rintro e w15 ⟨rfl, n15, hw15⟩
                    rw [show decide (S.safes = S.safes) = true from decide_eq_true rfl]
                    have hb15 : Below w14.heap.size w14 w15 := by rw [hw15]; exact below_drewN (Below.refl _ _) n15
                    have HWDZ := Lib.hid (HWDY.out.below hb15)
                    have HBZ : Hid (Below w.heap.size w w15) := Lib.hid (HBY.out.trans (hb15.mono HBY.out.size))
                    clear hw15 hb15
                    obtain ⟨adZ, hdZ⟩ := HWDZ.out.dr
                    have HDZ := Lib.hid hdZ
                    clear hdZ
                    go_wp2_with fail
                    refine (pending_any p S adZ _ w15 HDZ.out).mono ?_
                    rintro e w' ⟨rfl, rfl⟩
                    go_wp2
                    go_roundw
                    case rel => exact ⟨k + 1, false, by omega, by go_num, rfl, ⟨Y, S, HWDZ.out, HYN.out, HAW.out, HTI.out.1, HTI.out.2⟩, HBZ.out⟩
                    case measure => simp [intOf]; omega
                | false =>
                  obtain ⟨hYX, he1, he2, hTS⟩ := HA.out.goes hdn haw hh
                  have HYD : Hid ((!Y.down) = true) := Lib.hid (by rw [hYX]; show (!X.down) = true; rw [hdn]; rfl)
                  have HYC : Hid (Y.calls = c0 + 1) := Lib.hid (by rw [hYX, HC0.out]; rfl)
                  have t2 : (E == 121) = false := by simp [he1]
                  have t3 : (E == 122) = false := by simp [he2]
                  have t4 : (E != 122) = true := by simp [he2]
                  have HTS := Lib.hid hTS
                  clear hYX hdn haw hTS hh he1 he2
                  by_cases h0 : E = 0
                  · subst h0
                    have b0V : V.cell? ⟨w11.heap.size, 0, none⟩ = some (.int .i64 0) := by rw [← HG9.out]; exact HG9V.out.cell 0
                    have a0V : V.cell? ⟨g8, 0, none⟩ = some (.int .i64 x.kind) := HG8V.out.cell 0
                    go_wp2_with (first
                      | (go_at_call 29; (try rw [← HVV.out]); refine (on_any q _ _ _ V HWDV.out.wn).mono ?_; rintro e w' ⟨rfl, rfl⟩; rw [HYD.out])
                      | (go_at_call 27; (try rw [← HVV.out]); refine (calls_any q _ _ _ V HWDV.out.wn).mono ?_; rintro e w' ⟨rfl, rfl⟩; rw [HYC.out]))
                    try rw [← HVV.out]
                    go_roundw
                    case rel => exact ⟨k + 1, false, by omega, by go_num, rfl, ⟨Y, T, HWDV.out, HYN.out, HAW.out, HTI.out.1, HTI.out.2⟩, HBV.out⟩
                    case measure => simp [intOf]; omega
                  · have hTS := HTS.out h0
                    have t5 : (E != 0) = true := by simp [h0]
                    obtain rfl : S = T := hTS.symm
                    have HH0 := Lib.hid h0
                    clear h0
                    obtain ⟨adV, hdV⟩ := HWDV.out.dr
                    have HDV := Lib.hid hdV
                    clear hdV
                    have b0V : V.cell? ⟨w11.heap.size, 0, none⟩ = some (.int .i64 E) := by rw [← HG9.out]; exact HG9V.out.cell 0
                    have a0V : V.cell? ⟨g8, 0, none⟩ = some (.int .i64 x.kind) := HG8V.out.cell 0
                    go_wp2_with (first
                      | (go_at_call 29; (try rw [← HVV.out]); refine (on_any q _ _ _ V HWDV.out.wn).mono ?_; rintro e w' ⟨rfl, rfl⟩; rw [HYD.out])
                      | (go_at_call 27; (try rw [← HVV.out]); refine (calls_any q _ _ _ V HWDV.out.wn).mono ?_; rintro e w' ⟨rfl, rfl⟩; rw [HYC.out]))
                    try rw [← HVV.out]
                    refine (image_any p S adV _ V HDV.out HSM.out HSI.out.fnow).mono ?_
                    rintro e w12 ⟨v12, rfl, hf12, hb12⟩
                    have HF12 := Lib.hid hf12
                    have HF9W := Lib.hid (HF9V.out.below hb12)
                    have HF10W := Lib.hid (HF10V.out.below hb12)
                    have HWDW := Lib.hid (HWDV.out.below hb12)
                    have HBW : Hid (Below w.heap.size w w12) := Lib.hid (HBV.out.trans (hb12.mono HBV.out.size))
                    clear hf12 hb12
                    go_wp2_with fail
                    refine (files_any v12 v9 S.image S.image _ _ w12 HF12.out HF9W.out (image_length (w := w12) (p := p) (F := fun _ => True) HSM.out).1).mono ?_
                    rintro e w13 ⟨rfl, n13, hw13⟩
                    rw [show decide (S.image = S.image) = true from decide_eq_true rfl]
                    have hb13 : Below w12.heap.size w12 w13 := by rw [hw13]; exact below_drewN (Below.refl _ _) n13
                    have HF10X := Lib.hid (HF10W.out.below hb13)
                    have HWDX := Lib.hid (HWDW.out.below hb13)
                    have HBX : Hid (Below w.heap.size w w13) := Lib.hid (HBW.out.trans (hb13.mono HBW.out.size))
                    clear hw13 hb13
                    obtain ⟨adX, hdX⟩ := HWDX.out.dr
                    have HDX := Lib.hid hdX
                    clear hdX
                    go_wp2_with fail
                    refine (safe_any p S adX _ w13 HDX.out HSM.out HSI.out.fkept HSI.out.safe).mono ?_
                    rintro e w14 ⟨v14, rfl, hf14, hb14⟩
                    have HF14 := Lib.hid hf14
                    have HF10Y := Lib.hid (HF10X.out.below hb14)
                    have HWDY := Lib.hid (HWDX.out.below hb14)
                    have HBY : Hid (Below w.heap.size w w14) := Lib.hid (HBX.out.trans (hb14.mono HBX.out.size))
                    clear hf14 hb14
                    go_wp2_with fail
                    refine (files_any v14 v10 S.safes S.safes _ _ w14 HF14.out HF10Y.out (image_length (w := w14) (p := p) (F := fun _ => True) HSM.out).2).mono ?_
                    rintro e w15 ⟨rfl, n15, hw15⟩
                    rw [show decide (S.safes = S.safes) = true from decide_eq_true rfl]
                    have hb15 : Below w14.heap.size w14 w15 := by rw [hw15]; exact below_drewN (Below.refl _ _) n15
                    have HWDZ := Lib.hid (HWDY.out.below hb15)
                    have HBZ : Hid (Below w.heap.size w w15) := Lib.hid (HBY.out.trans (hb15.mono HBY.out.size))
                    clear hw15 hb15
                    obtain ⟨adZ, hdZ⟩ := HWDZ.out.dr
                    have HDZ := Lib.hid hdZ
                    clear hdZ
                    go_wp2_with fail
                    refine (pending_any p S adZ _ w15 HDZ.out).mono ?_
                    rintro e w' ⟨rfl, rfl⟩
                    go_wp2
                    go_roundw
                    case rel => exact ⟨k + 1, false, by omega, by go_num, rfl, ⟨Y, S, HWDZ.out, HYN.out, HAW.out, HTI.out.1, HTI.out.2⟩, HBZ.out⟩
                    case measure => simp [intOf]; omega
    · go_wp2
      go_ret
      exact ⟨rfl, HBR.out⟩
end Go.Proofs.Ytdmcjomcbhdcbaa
