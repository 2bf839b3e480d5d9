/- BayWalks, walked: over no drive; over a drive that is offline. (Printed by gen_Ei.py.); What the bound of an upto statement gives; arguments opened by their bulk. No condition. -/
import Derived.Test.YtcbebefdbdppdaaGreatM47
import Derived.Test.YtcbebefdbdppdaaGreatRows
import Derived.Test.YtcbebefdbdppdaaGreatM36
import Derived.Deep.Slices
import Derived.Deep.Fields
import Derived.ChangeArms
import Derived.SizedLaws
namespace Go.Proofs.YtcbebefdbdppdaaGreat
open Go.RowKit Go.Maps
theorem cell_lt {w : World} {p : Addr} {u : Value} (h : w.cell? p = some u) : p.block < w.heap.size := by
  unfold World.cell? at h
  cases e : w.heap[p.block]? with
  | none => rw [e] at h; cases h
  | some o => exact (Array.getElem?_eq_some_iff.1 e).1
set_option maxRecDepth 100000 in
set_option maxHeartbeats 20000000 in
theorem walks_no (w : World) (x : PPlace) (L : PlLay) (hx : PlaceIn w x L) (hok : x.ok = false) (want : Hd) (hst : want.st.length = 8) (most : Int) (hm : -9223372036854775808 ≤ most ∧ most ≤ 9223372036854775807) :
    Calls Tryz.prog 4 #[.agg (placeCells x L).toArray, hdV want, .int .i64 most] w fun e w' => e = .returned (.bool true) ∧ Below w.heap.size w w' := by
  have HMK : Hid (∀ (V : World) (g : Nat), Below w.heap.size w V → Blk V g 62 (placeCells x.bare { L with pa := none, pc := 0 }).toArray → Calls Tryz.prog 22 #[.slice (some ⟨g, 0, none⟩) 1 1] V fun e w' =>
      ∃ dg dc wg wc mg mc, e = .returned (.tuple #[bothV dg dc wg wc mg mc, .bool true]) ∧ w'.cell? ⟨dg, 0, none⟩ = some .nilIface ∧ dg < w'.heap.size ∧ 1 ≤ dc ∧ Below V.heap.size V w') := Lib.hid fun V g hb hg => by
    have hpi : PlaceIn V x.bare { L with pa := none, pc := 0 } := by
      obtain ⟨⟨vals, hf⟩, h2, h3, h4, h5, h6, h7, h8, h9⟩ := hx
      exact ⟨⟨vals, hf.keep hb⟩, h2, Reads.none_, h4, h5, h6, (by show (0 : Nat) * 16 ≤ _; decide), (fun ad e _ => by cases e), Nat.le_refl _⟩
    refine (make_no V x.bare _ hpi hok g 0 1 hg.lt (Nat.le_refl _) fun j u hu => ?_).mono ?_
    · rw [Nat.zero_add, hg.cell j]; simpa using hu
    · rintro e w' ⟨dg, dc, wg, wc, mg, mc, he, h1, h2, h3, hc, hb'⟩
      exact ⟨dg, dc, wg, wc, mg, mc, he, h1, cell_lt h1, hc.d, hb'⟩
  have HST := Lib.hid hst
  have HMO := Lib.hid hm
  have HCW : Hid ((hdCells want).size = 16) := Lib.hid (hdCells_size hst)
  clear hx hok hst hm
  obtain ⟨there, room, fs, plan, off, fused, R, C, I⟩ := x
  obtain ⟨fa, fc, pa, plc⟩ := L
  unfold PPlace.bare placeCells bothV at HMK
  unfold placeCells hdV
  simp only [List.length_nil] at HMK ⊢
  obtain ⟨nf, hnf⟩ : ∃ nf, nf = fs.length := ⟨_, rfl⟩
  obtain ⟨np, hnp⟩ : ∃ np, np = plan.length := ⟨_, rfl⟩
  rw [← hnf] at HMK ⊢
  rw [← hnp]
  clear hnf hnp
  obtain ⟨CW, hCW⟩ : ∃ CW, CW = hdCells want := ⟨_, rfl⟩
  rw [← hCW] at HCW ⊢
  have HCE := Lib.hid hCW
  clear hCW
  go_enter Tryz.func4, Tryz.ntmps4
  obtain ⟨W0, hW0⟩ : ∃ W0, W0 = ((w.alloc (.cells #[.bool there, .int .i64 room, .slice fa nf fc, .slice pa np plc, .bool off, .bool fused, .int .i64 R, .int .i64 C, .int .i64 I] 62)).alloc (.cells CW 28)).alloc (.cells #[.bool false] 4) := ⟨_, rfl⟩
  have HB0 : Hid (Below w.heap.size w W0) := Lib.hid (by rw [hW0]; exact (((Below.refl _ w).alloc (Nat.le_refl _) _).alloc (by simp only [alloc_size]; omega) _).alloc (by simp only [alloc_size]; omega) _)
  have HP0 : Hid (Blk W0 w.heap.size 62 #[.bool there, .int .i64 room, .slice fa nf fc, .slice pa np plc, .bool off, .bool fused, .int .i64 R, .int .i64 C, .int .i64 I]) := Lib.hid (by rw [hW0]; exact ((Blk.new w _ _).alloc _).alloc _)
  have HH0 : Hid (Blk W0 (w.heap.size + 1) 28 CW) := Lib.hid (by rw [hW0]; exact (blk_last _ _ _ _ (by simp only [alloc_size])).alloc _)
  have HO0 : Hid (Blk W0 (w.heap.size + 1 + 1) 4 #[.bool false]) := Lib.hid (by rw [hW0]; exact blk_last _ _ _ _ (by simp only [alloc_size]))
  have hz0 : W0.heap.size = w.heap.size + 3 := by rw [hW0]; simp only [alloc_size]
  have HZ0 := Lib.hid hz0
  have HEQ := Lib.hid hW0
  clear hW0 hz0
  go_wp2_with fail
  rw [← HEQ.out]
  refine (awake_any _).mono ?_
  rintro e w1 ⟨rfl, hb1⟩
  have HB1 : Hid (Below w.heap.size w w1) := Lib.hid (HB0.out.trans (hb1.mono HB0.out.size))
  have HP1 := Lib.hid (HP0.out.below hb1 HP0.out.lt)
  have HH1 := Lib.hid (HH0.out.below hb1 HH0.out.lt)
  have HO1 := Lib.hid (HO0.out.below hb1 HO0.out.lt)
  have HZ1 : Hid (w.heap.size + 3 ≤ w1.heap.size) := Lib.hid (by have := hb1.size; have := HZ0.out; omega)
  clear hb1
  have z5 := HP1.out.cell 5
  have f5 := HP1.out.frozen 5
  have z3 := HP1.out.cell 3
  have f3 := HP1.out.frozen 3
  have HP2 : Hid (Blk ((w1.setCell ⟨w.heap.size, 5, none⟩ (.bool false)).setCell ⟨w.heap.size, 3, none⟩ (.slice none 0 0)) w.heap.size 62 #[.bool there, .int .i64 room, .slice fa nf fc, .slice none 0 0, .bool off, .bool false, .int .i64 R, .int .i64 C, .int .i64 I]) := Lib.hid (by
    have h9 := (HP1.out.set_ 5 (.bool false)).set_ 3 (.slice none 0 0)
    exact h9)
  have hL : (loadVar 62 ⟨w.heap.size, 0, none⟩).run Tryz.prog ((w1.setCell ⟨w.heap.size, 5, none⟩ (.bool false)).setCell ⟨w.heap.size, 3, none⟩ (.slice none 0 0)) = .ok (.agg #[.bool there, .int .i64 room, .slice fa nf fc, .slice none 0 0, .bool off, .bool false, .int .i64 R, .int .i64 C, .int .i64 I]) _ := run_loadVar_all 62 HP2.out Tryz.underlying62 (by kernel_rfl) rfl
  go_wp2_with (first
    | (refine wpList_load_at rfl 62 _ rfl ⟨w.heap.size, 0, none⟩ rfl _ hL ?_)
    | fail)
  have hs2 : ((w1.setCell ⟨w.heap.size, 5, none⟩ (.bool false)).setCell ⟨w.heap.size, 3, none⟩ (.slice none 0 0)).heap.size = w1.heap.size := by simp
  obtain ⟨W2, hW2⟩ : ∃ W2, W2 = ((w1.setCell ⟨w.heap.size, 5, none⟩ (.bool false)).setCell ⟨w.heap.size, 3, none⟩ (.slice none 0 0)).alloc (.cells #[.bool there, .int .i64 room, .slice fa nf fc, .slice none 0 0, .bool off, .bool false, .int .i64 R, .int .i64 C, .int .i64 I] 62) := ⟨_, rfl⟩
  have hg2 : Blk W2 w1.heap.size 62 #[.bool there, .int .i64 room, .slice fa nf fc, .slice none 0 0, .bool off, .bool false, .int .i64 R, .int .i64 C, .int .i64 I] := by rw [hW2]; exact blk_last _ _ _ _ hs2.symm
  have hz2 : W2.heap.size = w1.heap.size + 1 := by rw [hW2, alloc_size, hs2]
  have hb2 : Below w.heap.size w W2 := by
    rw [hW2]
    exact ((HB1.out.setCell (Nat.le_refl _) _).setCell (Nat.le_refl _) _).alloc (by rw [hs2]; have := HZ1.out; omega) _
  have HP3' : Hid (Blk W2 w.heap.size 62 #[.bool there, .int .i64 room, .slice fa nf fc, .slice none 0 0, .bool off, .bool false, .int .i64 R, .int .i64 C, .int .i64 I]) := Lib.hid (by rw [hW2]; exact HP2.out.alloc _)
  have HH2 : Hid (Blk W2 (w.heap.size + 1) 28 CW) := Lib.hid (by rw [hW2]; exact ((HH1.out.far (p := ⟨w.heap.size, 5, none⟩) (by show w.heap.size + 1 ≠ w.heap.size; omega) _).far (p := ⟨w.heap.size, 3, none⟩) (by show w.heap.size + 1 ≠ w.heap.size; omega) _).alloc _)
  have HO2 : Hid (Blk W2 (w.heap.size + 1 + 1) 4 #[.bool false]) := Lib.hid (by rw [hW2]; exact ((HO1.out.far (p := ⟨w.heap.size, 5, none⟩) (by show w.heap.size + 1 + 1 ≠ w.heap.size; omega) _).far (p := ⟨w.heap.size, 3, none⟩) (by show w.heap.size + 1 + 1 ≠ w.heap.size; omega) _).alloc _)
  rw [← hW2]
  clear hW2 hs2 hL z3 z5 f3 f5
  refine (HMK.out W2 w1.heap.size hb2 hg2).mono ?_
  rintro e w3 ⟨dg, dc, wg, wc, mg, mc, rfl, hdg, hdl, hdc, hb3⟩
  have HB3 : Hid (Below w.heap.size w w3) := Lib.hid (hb2.trans (hb3.mono hb2.size))
  have HP3 := Lib.hid (HP3'.out.below hb3 HP3'.out.lt)
  have HH3 := Lib.hid (HH2.out.below hb3 HH2.out.lt)
  have HO3 := Lib.hid (HO2.out.below hb3 HO2.out.lt)
  clear hb3 hb2 hg2 hz2 HMK HP3' HH2 HO2 HP2 HP1 HP0 HH1 HH0 HO0 HO1 HEQ HZ0 HB0 HB1
  have hd0 : (0 : Int) < ((1 : Nat) : Int) := by decide
  go_wp2_with fail
  have HW3L : Hid (w.heap.size + 1 + 1 < w3.heap.size) := Lib.hid HO3.out.lt
  refine (keys_nil _).mono ?_
  rintro e w5 ⟨rfl, rfl⟩
  obtain ⟨W4, hW4⟩ : ∃ W4, W4 = w3.alloc (.cells #[.slice (some ⟨dg, 0, none⟩) 1 dc, .slice (some ⟨wg, 0, none⟩) 1 wc, .slice (some ⟨mg, 0, none⟩) 1 mc] 67) := ⟨_, rfl⟩
  have hb4 : Below w3.heap.size w3 W4 := by rw [hW4]; exact (Below.refl _ w3).alloc (Nat.le_refl _) _
  rw [← hW4]
  have HB4 : Hid (Below w.heap.size w W4) := Lib.hid (HB3.out.trans (hb4.mono HB3.out.size))
  have HP4 := Lib.hid (HP3.out.below hb4 HP3.out.lt)
  have HH4 := Lib.hid (HH3.out.below hb4 HH3.out.lt)
  have HO4 := Lib.hid (HO3.out.below hb4 HO3.out.lt)
  have z2 := HP4.out.cell 2
  have hL4 := load_head HH4.out HCW.out
  have hWK := fun W (l : Int) => walked_nil W want HST.out (-1) l
  unfold hdV at hWK
  rw [← HCE.out] at hWK
  have HWK := Lib.hid hWK
  clear hWK hW4 hb4 hdg hdl hdc hd0
  go_wp2_with (first
    | (refine wpList_load_at rfl 28 _ rfl ⟨w.heap.size + 1, 0, none⟩ rfl (.agg CW) hL4 ?_)
    | fail)
  refine (HWK.out _ _).mono ?_
  rintro e w6 ⟨rfl, hb6⟩
  have HB6 : Hid (Below w.heap.size w w6) := Lib.hid (HB4.out.trans (hb6.mono HB4.out.size))
  have HO6 := Lib.hid (HO4.out.below hb6 HO4.out.lt)
  have c6 := HO6.out.cell 0
  have f6 := HO6.out.frozen 0
  have hl6 : w.heap.size + 1 + 1 < w6.heap.size := HO6.out.lt
  clear hb6 z2 hL4
  go_wp2_with (first
    | (go_at_call 13; refine (num_any _ _).mono ?_; rintro e w' ⟨rfl, rfl⟩)
    | fail)
  have hbz : Below w.heap.size w ((w6.setCell ⟨w.heap.size + 1 + 1, 0, none⟩ (.bool true)).alloc (.cells #[.slice none 0 0] 76)) := (HB6.out.setCell (p := ⟨w.heap.size + 1 + 1, 0, none⟩) (by show w.heap.size ≤ w.heap.size + 1 + 1; omega) _).alloc (by rw [size_set']; exact HB6.out.size) _
  have hzz : ((w6.setCell ⟨w.heap.size + 1 + 1, 0, none⟩ (.bool true)).alloc (.cells #[.slice none 0 0] 76)).cell? ⟨w.heap.size + 1 + 1, 0, none⟩ = some (.bool true) := ((HO6.out.set_ 0 (.bool true)).alloc _).cell 0
  generalize (w6.setCell ⟨w.heap.size + 1 + 1, 0, none⟩ (.bool true)).alloc (.cells #[.slice none 0 0] 76) = Wz at hbz hzz ⊢
  exact bodyPost_ret (v := .bool true) (by simp only [results, Tryz.results4]; go_simp) rfl ⟨rfl, hbz⟩
set_option maxRecDepth 100000 in
set_option maxHeartbeats 20000000 in
theorem walks_off (w : World) (x : PPlace) (L : PlLay) (hx : PlaceIn w x L) (hok : x.ok = true) (hoff : x.off = true) (X1 : Wnd) (hR : Rd X1 x.drv x.files.length) (want : Hd) (hst : want.st.length = 8) (most : Int) (hm : -9223372036854775808 ≤ most ∧ most ≤ 9223372036854775807) :
    Calls Tryz.prog 4 #[.agg (placeCells x L).toArray, hdV want, .int .i64 most] w fun e w' => e = .returned (.bool true) ∧ Below w.heap.size w w' := by
  have HMK : Hid (∀ (V : World) (g : Nat), Below w.heap.size w V → Blk V g 62 (placeCells x.bare { L with pa := none, pc := 0 }).toArray → Calls Tryz.prog 22 #[.slice (some ⟨g, 0, none⟩) 1 1] V fun e w' =>
      ∃ dg dc wg wc mg mc q p F, e = .returned (.tuple #[bothV dg dc wg wc mg mc, .bool true]) ∧ w'.cell? ⟨dg, 0, none⟩ = some (.iface 36 (.pointer (some ⟨q, 0, none⟩))) ∧ dg < w'.heap.size ∧ 1 ≤ dc ∧ WD w' q p x.bare.wnd x.drv F ∧ (∀ k, F k → V.heap.size ≤ k ∧ k < w'.heap.size ∧ k ≠ dg) ∧ Below V.heap.size V w') := Lib.hid fun V g hb hg => by
    have hpi : PlaceIn V x.bare { L with pa := none, pc := 0 } := by
      obtain ⟨⟨vals, hf⟩, h2, h3, h4, h5, h6, h7, h8, h9⟩ := hx
      exact ⟨⟨vals, hf.keep hb⟩, h2, Reads.none_, h4, h5, h6, (by show (0 : Nat) * 16 ≤ _; decide), (fun ad e _ => by cases e), Nat.le_refl _⟩
    refine (make_yes V x.bare _ hpi hok g 0 1 hg.lt (Nat.le_refl _) fun j u hu => ?_).mono ?_
    · rw [Nat.zero_add, hg.cell j]; simpa using hu
    · rintro e w' ⟨dg, dc, wg, wc, mg, mc, q, p, mq, mp, Av, he, ⟨F1, F2, a, b, r, h1, h2, hno, hr, hd, hl⟩, hc, hb'⟩
      exact ⟨dg, dc, wg, wc, mg, mc, q, p, F1, he, r.d, r.dl, hc.d, a, fun k hk => ⟨(h1 k hk).1, (h1 k hk).2, fun e => (hr dg (hd dg (.inl rfl))).1 (by rw [← e]; exact hk)⟩, hb'⟩
  have hX0 : x.bare.wnd.Okn 0 := (Wnd.Okn.new.arm [] (Nat.zero_le _)).away x.off
  obtain ⟨Y1, x1, hy1, hx1, Y2, x2, hy2, hx2⟩ : ∃ Y1 x1, wread x.bare.wnd (dnames x.drv.now, (0 : Int)) = (Y1, [], x1) ∧ x1 ≠ 0 ∧ ∃ Y2 x2, wread Y1 (dnames x.drv.now, (0 : Int)) = (Y2, [], x2) ∧ x2 ≠ 0 := by
    rw [bare_wnd, hoff]
    exact ⟨_, _, rfl, by decide, _, _, rfl, by decide⟩
  have hY1 : Y1.Okn 1 := by
    have h9 := wread_fst x.bare.wnd (dnames x.drv.now, (0 : Int))
    rw [hy1] at h9
    rw [show Y1 = (x.bare.wnd.struck false).1 from h9]
    exact struck_okn hX0 false
  have HYY := Lib.hid (And.intro hX0 (And.intro hy1 (And.intro hy2 (And.intro hY1 hx2))))
  have hx1' : (x1 != 0) = true := by rw [bne_iff_ne]; exact hx1
  have HX1 := Lib.hid hx1
  have HOFF := Lib.hid hoff
  have HR := Lib.hid hR
  have HNF : Hid (x.files.length ≤ 1048576) := Lib.hid hR.nn
  have HST := Lib.hid hst
  have HMO := Lib.hid hm
  have HCW : Hid ((hdCells want).size = 16) := Lib.hid (hdCells_size hst)
  generalize x.bare.wnd = X0 at HMK HYY
  generalize x.drv = S0 at HMK HR HYY
  clear hx hok hR hst hm hoff hX0 hy1 hx1 hy2 hx2 hY1
  obtain ⟨there, room, fs, plan, off, fused, R, C, I⟩ := x
  obtain ⟨fa, fc, pa, plc⟩ := L
  unfold PPlace.bare placeCells bothV at HMK
  unfold placeCells hdV
  simp only [List.length_nil] at HMK HR HNF HOFF ⊢
  obtain ⟨nf, hnf⟩ : ∃ nf, nf = fs.length := ⟨_, rfl⟩
  obtain ⟨np, hnp⟩ : ∃ np, np = plan.length := ⟨_, rfl⟩
  rw [← hnf] at HMK HR HNF ⊢
  rw [← hnp]
  clear hnf hnp
  obtain ⟨CW, hCW⟩ : ∃ CW, CW = hdCells want := ⟨_, rfl⟩
  rw [← hCW] at HCW ⊢
  have HCE := Lib.hid hCW
  clear hCW
  go_enter Tryz.func4, Tryz.ntmps4
  obtain ⟨W0, hW0⟩ : ∃ W0, W0 = ((w.alloc (.cells #[.bool there, .int .i64 room, .slice fa nf fc, .slice pa np plc, .bool off, .bool fused, .int .i64 R, .int .i64 C, .int .i64 I] 62)).alloc (.cells CW 28)).alloc (.cells #[.bool false] 4) := ⟨_, rfl⟩
  have HB0 : Hid (Below w.heap.size w W0) := Lib.hid (by rw [hW0]; exact (((Below.refl _ w).alloc (Nat.le_refl _) _).alloc (by simp only [alloc_size]; omega) _).alloc (by simp only [alloc_size]; omega) _)
  have HP0 : Hid (Blk W0 w.heap.size 62 #[.bool there, .int .i64 room, .slice fa nf fc, .slice pa np plc, .bool off, .bool fused, .int .i64 R, .int .i64 C, .int .i64 I]) := Lib.hid (by rw [hW0]; exact ((Blk.new w _ _).alloc _).alloc _)
  have HH0 : Hid (Blk W0 (w.heap.size + 1) 28 CW) := Lib.hid (by rw [hW0]; exact (blk_last _ _ _ _ (by simp only [alloc_size])).alloc _)
  have HO0 : Hid (Blk W0 (w.heap.size + 1 + 1) 4 #[.bool false]) := Lib.hid (by rw [hW0]; exact blk_last _ _ _ _ (by simp only [alloc_size]))
  have hz0 : W0.heap.size = w.heap.size + 3 := by rw [hW0]; simp only [alloc_size]
  have HZ0 := Lib.hid hz0
  have HEQ := Lib.hid hW0
  clear hW0 hz0
  go_wp2_with fail
  rw [← HEQ.out]
  refine (awake_any _).mono ?_
  rintro e w1 ⟨rfl, hb1⟩
  have HB1 : Hid (Below w.heap.size w w1) := Lib.hid (HB0.out.trans (hb1.mono HB0.out.size))
  have HP1 := Lib.hid (HP0.out.below hb1 HP0.out.lt)
  have HH1 := Lib.hid (HH0.out.below hb1 HH0.out.lt)
  have HO1 := Lib.hid (HO0.out.below hb1 HO0.out.lt)
  have HZ1 : Hid (w.heap.size + 3 ≤ w1.heap.size) := Lib.hid (by have := hb1.size; have := HZ0.out; omega)
  clear hb1
  have z5 := HP1.out.cell 5
  have f5 := HP1.out.frozen 5
  have z3 := HP1.out.cell 3
  have f3 := HP1.out.frozen 3
  have HP2 : Hid (Blk ((w1.setCell ⟨w.heap.size, 5, none⟩ (.bool false)).setCell ⟨w.heap.size, 3, none⟩ (.slice none 0 0)) w.heap.size 62 #[.bool there, .int .i64 room, .slice fa nf fc, .slice none 0 0, .bool off, .bool false, .int .i64 R, .int .i64 C, .int .i64 I]) := Lib.hid (by
    have h9 := (HP1.out.set_ 5 (.bool false)).set_ 3 (.slice none 0 0)
    exact h9)
  have hL : (loadVar 62 ⟨w.heap.size, 0, none⟩).run Tryz.prog ((w1.setCell ⟨w.heap.size, 5, none⟩ (.bool false)).setCell ⟨w.heap.size, 3, none⟩ (.slice none 0 0)) = .ok (.agg #[.bool there, .int .i64 room, .slice fa nf fc, .slice none 0 0, .bool off, .bool false, .int .i64 R, .int .i64 C, .int .i64 I]) _ := run_loadVar_all 62 HP2.out Tryz.underlying62 (by kernel_rfl) rfl
  go_wp2_with (first
    | (refine wpList_load_at rfl 62 _ rfl ⟨w.heap.size, 0, none⟩ rfl _ hL ?_)
    | fail)
  have hs2 : ((w1.setCell ⟨w.heap.size, 5, none⟩ (.bool false)).setCell ⟨w.heap.size, 3, none⟩ (.slice none 0 0)).heap.size = w1.heap.size := by simp
  obtain ⟨W2, hW2⟩ : ∃ W2, W2 = ((w1.setCell ⟨w.heap.size, 5, none⟩ (.bool false)).setCell ⟨w.heap.size, 3, none⟩ (.slice none 0 0)).alloc (.cells #[.bool there, .int .i64 room, .slice fa nf fc, .slice none 0 0, .bool off, .bool false, .int .i64 R, .int .i64 C, .int .i64 I] 62) := ⟨_, rfl⟩
  have hg2 : Blk W2 w1.heap.size 62 #[.bool there, .int .i64 room, .slice fa nf fc, .slice none 0 0, .bool off, .bool false, .int .i64 R, .int .i64 C, .int .i64 I] := by rw [hW2]; exact blk_last _ _ _ _ hs2.symm
  have hz2 : W2.heap.size = w1.heap.size + 1 := by rw [hW2, alloc_size, hs2]
  have hb2 : Below w.heap.size w W2 := by
    rw [hW2]
    exact ((HB1.out.setCell (Nat.le_refl _) _).setCell (Nat.le_refl _) _).alloc (by rw [hs2]; have := HZ1.out; omega) _
  have HP3' : Hid (Blk W2 w.heap.size 62 #[.bool there, .int .i64 room, .slice fa nf fc, .slice none 0 0, .bool off, .bool false, .int .i64 R, .int .i64 C, .int .i64 I]) := Lib.hid (by rw [hW2]; exact HP2.out.alloc _)
  have HH2 : Hid (Blk W2 (w.heap.size + 1) 28 CW) := Lib.hid (by rw [hW2]; exact ((HH1.out.far (p := ⟨w.heap.size, 5, none⟩) (by show w.heap.size + 1 ≠ w.heap.size; omega) _).far (p := ⟨w.heap.size, 3, none⟩) (by show w.heap.size + 1 ≠ w.heap.size; omega) _).alloc _)
  have HO2 : Hid (Blk W2 (w.heap.size + 1 + 1) 4 #[.bool false]) := Lib.hid (by rw [hW2]; exact ((HO1.out.far (p := ⟨w.heap.size, 5, none⟩) (by show w.heap.size + 1 + 1 ≠ w.heap.size; omega) _).far (p := ⟨w.heap.size, 3, none⟩) (by show w.heap.size + 1 + 1 ≠ w.heap.size; omega) _).alloc _)
  rw [← hW2]
  clear hW2 hs2 hL z3 z5 f3 f5
  refine (HMK.out W2 w1.heap.size hb2 hg2).mono ?_
  rintro e w3 ⟨dg, dc, wg, wc, mg, mc, q, p, F, rfl, hdg, hdl, hdc, hwd, hF, hb3⟩
  have HB3 : Hid (Below w.heap.size w w3) := Lib.hid (hb2.trans (hb3.mono hb2.size))
  have HP3 := Lib.hid (HP3'.out.below hb3 HP3'.out.lt)
  have HH3 := Lib.hid (HH2.out.below hb3 HH2.out.lt)
  have HO3 := Lib.hid (HO2.out.below hb3 HO2.out.lt)
  have HWD := Lib.hid hwd
  have HF : Hid (∀ k, F k → w.heap.size + 4 ≤ k ∧ k < w3.heap.size ∧ k ≠ dg) := Lib.hid fun k hk => by have := hF k hk; have := HZ1.out; omega
  clear hb3 hb2 hg2 hz2 hwd hF HMK HP3' HH2 HO2 HP2 HP1 HP0 HH1 HH0 HO0 HO1 HEQ HZ0 HB0 HB1
  have hd0 : (0 : Int) < ((1 : Nat) : Int) := by decide
  go_wp2_with fail
  obtain ⟨W4, hW4⟩ : ∃ W4, W4 = w3.alloc (.cells #[.slice (some ⟨dg, 0, none⟩) 1 dc, .slice (some ⟨wg, 0, none⟩) 1 wc, .slice (some ⟨mg, 0, none⟩) 1 mc] 67) := ⟨_, rfl⟩
  have hb4 : Below w3.heap.size w3 W4 := by rw [hW4]; exact (Below.refl _ w3).alloc (Nat.le_refl _) _
  rw [← hW4]
  clear hW4 hdg hdl hdc hd0
  have hKY := bkeys_any q p X0 S0 F W4 HR.out.now HR.out.names (Nat.le_trans HR.out.dlen (by decide)) (HWD.out.below hb4) (fun k hk => by have := HF.out k hk; have := hb4.size; omega) (HYY.out.1.ok (by decide)) HR.out.small Y1 [] x1 HYY.out.2.1
  have HK1 : Hid (keysL [] x1 = []) := Lib.hid (by unfold keysL; rw [if_neg HX1.out])
  rw [HK1.out] at hKY
  refine hKY.mono ?_
  clear hKY
  rintro e w5 ⟨kv, rfl, hok, hd5, ht5⟩
  obtain ⟨KA, kc, rfl, _⟩ := own_shape hok
  have ht35 : Touch F w3 w5 := (Touch.of_below hb4).trans (ht5.mono fun k _ h => .inl h)
  have HT5 := Lib.hid ht35
  have HD5 := Lib.hid hd5
  have HZ5 : Hid (w3.heap.size ≤ W4.heap.size ∧ W4.heap.size ≤ w5.heap.size) := Lib.hid ⟨hb4.size, ht5.size⟩
  have HL3 : Hid (w.heap.size + 3 ≤ w3.heap.size) := Lib.hid (by have := HO3.out.lt; omega)
  have HN0 : Hid (¬F w.heap.size ∧ ¬F (w.heap.size + 1) ∧ ¬F (w.heap.size + 1 + 1)) := Lib.hid ⟨fun h => by have := HF.out _ h; omega, fun h => by have := HF.out _ h; omega, fun h => by have := HF.out _ h; omega⟩
  have HP5 := Lib.hid (HP3.out.touch ht35 HN0.out.1)
  have HH5 := Lib.hid (HH3.out.touch ht35 HN0.out.2.1)
  have HO5 := Lib.hid (HO3.out.touch ht35 HN0.out.2.2)
  have z2 := HP5.out.cell 2
  have hL5 := load_head HH5.out HCW.out
  clear hok hd5 ht5 ht35 hb4
  have hWK := callsIn_wide.1 (walked_in 0 q p Y1 S0 F w5 want HST.out (-1) (nf : Int) 1 HR.out.now HR.out.names HR.out.dlen HR.out.read HD5.out (fun k hk => by have := HF.out k hk; have := HZ5.out; omega) HYY.out.2.2.2.1 (by have := HR.out.dlen; omega) HR.out.small Y2 [] x2 HYY.out.2.2.1)
  have HK2 : Hid (keysL [] x2 = []) := Lib.hid (by unfold keysL; rw [if_neg HYY.out.2.2.2.2])
  rw [HK2.out] at hWK
  unfold hdV at hWK
  rw [← HCE.out] at hWK
  have HWK := Lib.hid hWK
  clear hWK
  go_wp2_with (first
    | (refine wpList_load_at rfl 28 _ rfl ⟨w.heap.size + 1, 0, none⟩ rfl (.agg CW) hL5 ?_)
    | fail)
  refine HWK.out.mono ?_
  clear HWK
  rintro e w6 ⟨av, us, rfl, hoa, hto, hle, hns, hor, hd6, ht6⟩
  have hul : us.length = 0 := Nat.le_zero.1 hle
  rw [hul] at hoa
  obtain ⟨A, ac, rfl, _⟩ := own_shape hoa
  have HB6 : Hid (Below w.heap.size w w6) := Lib.hid ((HB3.out.trans (HT5.out.below (by have := HL3.out; omega) fun k hk => by have := HF.out k hk; omega)).trans (ht6.below (by have := HL3.out; have := HZ5.out; omega) fun k hk => by have := HF.out k hk; omega))
  have HO6 := Lib.hid (HO5.out.touch ht6 HN0.out.2.2)
  have HP6 := Lib.hid (HP5.out.touch ht6 HN0.out.1)
  have c6 := HO6.out.cell 0
  have f6 := HO6.out.frozen 0
  have c4 : w6.cell? ⟨w.heap.size, 4, none⟩ = some (.bool true) := (HP6.out.cell 4).trans (by rw [HOFF.out]; rfl)
  have hl6 : w.heap.size + 1 + 1 < w6.heap.size := HO6.out.lt
  have hl7 : w.heap.size < w6.heap.size := HP6.out.lt
  clear hoa hto hle hns hor hd6 ht6 hul z2 hL5
  go_wp2_with (first
    | (go_at_call 13; refine (num_any _ _).mono ?_; rintro e w' ⟨rfl, rfl⟩)
    | fail)
  have hbz : Below w.heap.size w ((w6.setCell ⟨w.heap.size + 1 + 1, 0, none⟩ (.bool true)).alloc (.cells #[.slice A 0 ac] 76)) := (HB6.out.setCell (p := ⟨w.heap.size + 1 + 1, 0, none⟩) (by show w.heap.size ≤ w.heap.size + 1 + 1; omega) _).alloc (by rw [size_set']; exact HB6.out.size) _
  have hzz : ((w6.setCell ⟨w.heap.size + 1 + 1, 0, none⟩ (.bool true)).alloc (.cells #[.slice A 0 ac] 76)).cell? ⟨w.heap.size + 1 + 1, 0, none⟩ = some (.bool true) := ((HO6.out.set_ 0 (.bool true)).alloc _).cell 0
  generalize (w6.setCell ⟨w.heap.size + 1 + 1, 0, none⟩ (.bool true)).alloc (.cells #[.slice A 0 ac] 76) = Wz at hbz hzz ⊢
  exact bodyPost_ret (v := .bool true) (by simp only [results, Tryz.results4]; go_simp) rfl ⟨rfl, hbz⟩
end Go.Proofs.YtcbebefdbdppdaaGreat
namespace Go.Proofs.YtcbebefdbdppdaaGreat
open Go.RowKit Go.Maps Go.ChangeShapes Go.WideShapes
namespace bulks
theorem one_le {H : Type} (d : DataW H) : 1 ≤ Rows.uptoBulk d := by
  cases d with
  | lit l => cases l <;> simp [Rows.uptoBulk]
  | nil => simp [Rows.uptoBulk]
  | ptr d => simp [Rows.uptoBulk]
  | slice elems spare => simp [Rows.uptoBulk]
  | agg parts => simp [Rows.uptoBulk]
  | iface t d => simp [Rows.uptoBulk]
  | map entries => simp [Rows.uptoBulk]
  | held h => simp [Rows.uptoBulk]
theorem part_le {H : Type} {d : DataW H} {l : List (DataW H)} (h : d ∈ l) : Rows.uptoBulk d ≤ Rows.uptoBulkAll l := by
  induction l with
  | nil => cases h
  | cons x r ih =>
    simp only [Rows.uptoBulkAll]
    cases List.mem_cons.1 h with
    | inl e => subst e; omega
    | inr e => have := ih e; omega
theorem length_le {H : Type} (l : List (DataW H)) : l.length ≤ Rows.uptoBulkAll l := by
  induction l with
  | nil => simp [Rows.uptoBulkAll]
  | cons x r ih => have := one_le x; simp only [Rows.uptoBulkAll, List.length_cons]; omega
theorem slice_le {H : Type} (elems spare : List (DataW H)) : elems.length + spare.length + 1 ≤ Rows.uptoBulk (.slice elems spare) := by
  have h1 := length_le elems
  have h2 := length_le spare
  simp only [Rows.uptoBulk]
  omega
theorem all_cons {H : Type} (d : DataW H) (l : List (DataW H)) : Rows.uptoBulkAll (d :: l) = Rows.uptoBulk d + Rows.uptoBulkAll l := rfl
theorem all_nil {H : Type} : Rows.uptoBulkAll (H := H) [] = 0 := rfl
theorem append {H : Type} (l r : List (DataW H)) : Rows.uptoBulkAll (l ++ r) = Rows.uptoBulkAll l + Rows.uptoBulkAll r := by
  induction l with
  | nil => simp [Rows.uptoBulkAll]
  | cons x l ih => simp only [List.cons_append, Rows.uptoBulkAll, ih]; omega
theorem text {H : Type} (l : List UInt8) : Rows.uptoBulk (DataW.lit (H := H) (.string l)) = l.length + 1 := rfl
theorem agg_eq {H : Type} (l : List (DataW H)) : Rows.uptoBulk (.agg l) = Rows.uptoBulkAll l + 1 := rfl
theorem slice_eq {H : Type} (a b : List (DataW H)) : Rows.uptoBulk (.slice a b) = Rows.uptoBulkAll a + Rows.uptoBulkAll b + 1 := rfl
theorem bound {H : Type} {l : List (DataW H)} (hk : Rows.uptoSmall H l = true) : Rows.uptoBulkAll l ≤ 1048576 := by
  simpa [Rows.uptoSmall] using hk
end bulks
section
variable {H : Type} {enc : TypeId × Value → H} {P : Program} {w : World} {base : Nat} {spare : Nat → Bool} {held : Bool}
theorem len2b {α : Type} {l : List α} (h : l.length = 2) : ∃ a b, l = [a, b] := by
  match l, h with
  | [a, b], _ => exact ⟨a, b, rfl⟩
theorem len9b {α : Type} {l : List α} (h : l.length = 9) : ∃ c0 c1 c2 c3 c4 c5 c6 c7 c8, l = [c0, c1, c2, c3, c4, c5, c6, c7, c8] := by
  match l, h with
  | [c0, c1, c2, c3, c4, c5, c6, c7, c8], _ => exact ⟨c0, c1, c2, c3, c4, c5, c6, c7, c8, rfl⟩
theorem plain_spot {w : World} {ad : Addr} {v : Value} (h : w.cell? ad = some v) : ad.spot = none := by
  obtain ⟨b, off, spot⟩ := ad
  cases spot with
  | none => rfl
  | some s =>
    unfold World.cell? at h
    split at h <;> simp_all
theorem plain_spot0 {w : World} {ad : Addr} {v : Value} (h : w.cell? (ad.add 0) = some v) : ad.spot = none := by
  have e : ad.add 0 = ad := by unfold Addr.add; simp
  rw [e] at h
  exact plain_spot h
theorem open_rowb {α : Type} [Inhabited α] (f : α → Value) {t e : TypeId} {fuel : Nat} {v : Value} {x : DataW H × List MemPlace} (ht : P.underlying t = some (.slice e)) (hc : P.cellsOf e = 1)
    (hdec : ∀ n V d, DataW.trod enc P w base spare held n e [V] = some d → ∃ a, V = f a) (h : DataW.trod enc P w base spare held fuel t [v] = some x) :
    ∃ A n c l, v = .slice A n c ∧ List.length l = n ∧ n ≤ c ∧ n + 1 ≤ Rows.uptoBulk x.1 ∧ (∀ ad, A = some ad → 0 < n → ad.spot = none) ∧ Reads w w.heap.size 1 A n (l.map f) := by
  rcases Go.Deep.open_slice1 ht hc h with ⟨hcs, hx⟩ | ⟨ad, len, cap, m, n, V, D, Pl, hcs, _, hl, hm, hmm, hx, hcell⟩
  · simp only [List.cons.injEq, and_true] at hcs
    exact ⟨none, 0, 0, [], hcs, rfl, Nat.le_refl _, by rw [hx]; simp [Rows.uptoBulk], (fun ad e _ => by cases e), Reads.none_⟩
  · simp only [List.cons.injEq, and_true] at hcs
    have hml : len ≤ m := by rw [hmm]; split <;> omega
    obtain ⟨B, hB⟩ : ∃ B : Nat → α, ∀ i, i < len → V i = f (B i) := Go.Deep.choose_lt (p := fun i b => V i = f b) fun i hi => by
      obtain ⟨_, htr⟩ := hcell i (by omega)
      exact hdec _ _ _ htr
    refine ⟨some ad, len, cap, (List.range len).map B, hcs, by simp, hl, ?_, fun a e hn => ?_, by simp, fun hn => ⟨ad, rfl, ?_, fun j u hu => ?_⟩⟩
    · have h1 := bulks.slice_le (H := H) ((List.range len).map D) ((List.range (m - len)).map fun j => D (len + j))
      rw [hx]
      simp only [List.length_map, List.length_range] at h1 ⊢
      omega
    · obtain rfl := Option.some.inj e
      exact plain_spot0 (hcell 0 (by omega)).1
    · have h0 := (hcell 0 (by omega)).1
      have := World.block_lt_of_cell? w _ h0
      rwa [block_of_add] at this
    · have hj : j < len := by
        rcases Nat.lt_or_ge j len with h | h
        · exact h
        · rw [List.getElem?_eq_none (by simp; exact h)] at hu; cases hu
      rw [(hcell j (by omega)).1, hB j hj]
      simp [hj] at hu
      rw [hu]
end
section
variable {H : Type} {enc : TypeId × Value → H} {w : World} {base : Nat} {spare : Nat → Bool} {held : Bool}
theorem decb_byte (n : Nat) (V : Value) (d : DataW H × List MemPlace) (h : DataW.trod enc Tryz.prog w base spare held n 5 [V] = some d) : ∃ b, V = B8 b := by
  obtain ⟨z, hz, _, hwf⟩ := DataW.trod_int Tryz.underlying5 h
  simp only [List.cons.injEq, and_true] at hz
  simp only [Lit.wf, Bool.and_eq_true, decide_eq_true_eq] at hwf
  have h1 : (0 : Int) ≤ z := hwf.1
  have h2 : z ≤ 255 := hwf.2
  refine ⟨UInt8.ofNat z.toNat, ?_⟩
  rw [hz]
  unfold B8
  congr 1
  rw [UInt8.toNat_ofNat']
  omega
theorem openb_text {fuel : Nat} {V : Value} {x : DataW H × List MemPlace} (h : DataW.trod enc Tryz.prog w base spare held fuel 9 [V] = some x) : ∃ s : List UInt8, V = strV s ∧ s.length + 1 ≤ Rows.uptoBulk x.1 := by
  obtain ⟨s, hs, hx, _⟩ := DataW.trod_string Tryz.underlying9 h
  simp only [List.cons.injEq, and_true] at hs
  refine ⟨s.data.toList, ?_, ?_⟩
  · rw [hs]; rfl
  · rw [hx]; exact Nat.le_of_eq (bulks.text _).symm
theorem openb_fault {fuel : Nat} {cs : List Value} {x : DataW H × List MemPlace} (h : DataW.trod enc Tryz.prog w base spare held fuel 214 cs = some x) : ∃ f : Int × Int, cs = [.int .i64 f.1, .int .i64 f.2] := by
  obtain ⟨xs, n, _, _, hlen, hxl, hf⟩ := DataW.trod_struct Tryz.underlying214 h
  have hc : Tryz.prog.cellsOf 214 = 2 := by kernel_rfl
  rw [hc] at hlen
  obtain ⟨c0, c1, rfl⟩ := len2b hlen
  have h3 : Tryz.prog.cellsOf 3 = 1 := by kernel_rfl
  obtain ⟨y0, y1, rfl⟩ := len2b (hxl.trans (by decide))
  have g0 : DataW.trod enc Tryz.prog w base spare held n 3 (List.take (Tryz.prog.cellsOf 3) [c0, c1]) = some y0 := hf 0 _ rfl
  have g1 : DataW.trod enc Tryz.prog w base spare held n 3 (List.take (Tryz.prog.cellsOf 3) [c1]) = some y1 := hf 1 _ rfl
  rw [h3] at g0 g1
  obtain ⟨a, ha, _⟩ := DataW.trod_int Tryz.underlying3 g0
  obtain ⟨b, hb, _⟩ := DataW.trod_int Tryz.underlying3 g1
  simp at ha hb
  exact ⟨(a, b), by rw [ha, hb]⟩
theorem openb_plan {fuel : Nat} {v : Value} {x : DataW H × List MemPlace} (h : DataW.trod enc Tryz.prog w base spare held fuel 52 [v] = some x) :
    ∃ A n c l, v = .slice A n c ∧ List.length l = n ∧ n ≤ c ∧ n + 1 ≤ Rows.uptoBulk x.1 ∧ (∀ ad, A = some ad → 0 < n → ad.block < w.heap.size) ∧ Reads w w.heap.size 2 A n (planCells l) := by
  have hc : Tryz.prog.cellsOf 214 = 2 := by kernel_rfl
  rcases Go.Deep.open_slice Tryz.underlying52 h with ⟨hcs, hx⟩ | ⟨ad, len, cap, m, n, D, Pl, hcs, _, hl, hm, hmm, hx, hcell⟩
  · simp only [List.cons.injEq, and_true] at hcs
    exact ⟨none, 0, 0, [], hcs, rfl, Nat.le_refl _, by rw [hx]; simp [Rows.uptoBulk], (fun ad e _ => by cases e), Reads.none_⟩
  · simp only [List.cons.injEq, and_true] at hcs
    have hml : len ≤ m := by rw [hmm]; split <;> omega
    rw [hc] at hcell
    obtain ⟨B, hB⟩ : ∃ B : Nat → Int × Int, ∀ i, i < len → w.cell? (ad.add (i * 2)) = some (.int .i64 (B i).1) ∧ w.cell? (ad.add (i * 2 + 1)) = some (.int .i64 (B i).2) :=
      Go.Deep.choose_lt (p := fun i (b : Int × Int) => w.cell? (ad.add (i * 2)) = some (.int .i64 b.1) ∧ w.cell? (ad.add (i * 2 + 1)) = some (.int .i64 b.2)) fun i hi => by
        obtain ⟨cs', h1, h2⟩ := hcell i (by omega)
        obtain ⟨f, rfl⟩ := openb_fault h2
        obtain ⟨_, _, h3⟩ := World.cells?_some h1
        have e0 := h3 0 (by omega)
        have e1 := h3 1 (by omega)
        rw [Go.Deep.add_add] at e0 e1
        exact ⟨f, e0, e1⟩
    have hpl : ∀ k, (planCells ((List.range k).map B)).length = k * 2 := fun k => by rw [planCells_length]; simp
    have hblk : 0 < len → ad.block < w.heap.size := fun hn => by
      have h0 := (hB 0 (by omega)).1
      have := World.block_lt_of_cell? w _ h0
      rwa [block_of_add] at this
    refine ⟨some ad, len, cap, (List.range len).map B, hcs, by simp, hl, ?_, fun a e hz => ?_, hpl len, fun hn => ⟨ad, rfl, hblk hn, fun j u hu => ?_⟩⟩
    · have h1 := bulks.slice_le (H := H) ((List.range len).map D) ((List.range (m - len)).map fun j => D (len + j))
      rw [hx]
      simp only [List.length_map, List.length_range] at h1 ⊢
      omega
    · obtain rfl := Option.some.inj e
      exact hblk hz
    · have hj : j < len * 2 := by
        rcases Nat.lt_or_ge j (len * 2) with h | h
        · exact h
        · rw [List.getElem?_eq_none (by rw [hpl]; exact h)] at hu; cases hu
      have hk : j / 2 < len := by omega
      have hg : ((List.range len).map B)[j / 2]? = some (B (j / 2)) := by simp [hk]
      obtain ⟨p0, p1⟩ := plan_get _ _ _ hg
      obtain ⟨q0, q1⟩ := hB _ hk
      rcases Nat.mod_two_eq_zero_or_one j with h | h
      · have e : j = j / 2 * 2 := by omega
        rw [e] at hu ⊢
        rw [p0] at hu; rw [q0, hu]
      · have e : j = j / 2 * 2 + 1 := by omega
        rw [e] at hu ⊢
        rw [p1] at hu; rw [q1, hu]
theorem openb_file {fuel : Nat} {cs : List Value} {x : DataW H × List MemPlace} (h : DataW.trod enc Tryz.prog w base spare held fuel 171 cs = some x) :
    ∃ (f : File) (a : Option Addr) (c : Nat), cs = [strV f.1, .slice a f.2.length c] ∧ Reads w w.heap.size 1 a f.2.length (f.2.map B8) ∧ f.1.length + f.2.length + 1 ≤ Rows.uptoBulk x.1 := by
  obtain ⟨xs, n, _, hx, hlen, hxl, hf⟩ := DataW.trod_struct Tryz.underlying171 h
  have hc : Tryz.prog.cellsOf 171 = 2 := by kernel_rfl
  rw [hc] at hlen
  obtain ⟨c0, c1, rfl⟩ := len2b hlen
  have h3 : Tryz.prog.cellsOf 9 = 1 := by kernel_rfl
  have h4 : Tryz.prog.cellsOf 46 = 1 := by kernel_rfl
  have h5 : Tryz.prog.cellsOf 5 = 1 := by kernel_rfl
  obtain ⟨y0, y1, rfl⟩ := len2b (hxl.trans (by decide))
  have g0 : DataW.trod enc Tryz.prog w base spare held n 9 (List.take (Tryz.prog.cellsOf 9) [c0, c1]) = some y0 := hf 0 _ rfl
  have g1 : DataW.trod enc Tryz.prog w base spare held n 46 (List.take (Tryz.prog.cellsOf 46) [c1]) = some y1 := hf 1 _ rfl
  rw [h3] at g0
  rw [h4] at g1
  obtain ⟨s, hs, hsb⟩ := openb_text g0
  obtain ⟨A, m, c, l, hv, hl, _, hb, _, hr⟩ := open_rowb B8 Tryz.underlying46 h5 decb_byte g1
  subst hl
  refine ⟨(s, l), A, c, by rw [← hv, ← hs], hr, ?_⟩
  rw [hx]
  simp only [bulks.agg_eq, List.map_cons, List.map_nil, bulks.all_cons, bulks.all_nil]
  show s.length + l.length + 1 ≤ _
  omega
theorem fileCells_length (fs : List File) : ∀ vals : List Value, vals.length = fs.length → (fileCells fs vals).length = fs.length * 2 := by
  induction fs with
  | nil => intro vals _; rfl
  | cons f r ih =>
    intro vals h
    cases vals with
    | nil => simp at h
    | cons v vs =>
      have e : fileCells (f :: r) (v :: vs) = [strV f.1, v] ++ fileCells r vs := rfl
      rw [e, List.length_append, ih vs (by simpa using h)]
      simp only [List.length_cons, List.length_nil]
      omega
theorem total_map {len : Nat} {D : Nat → DataW H} {B : Nat → File} (hB : ∀ i, i < len → (B i).1.length + (B i).2.length + 1 ≤ Rows.uptoBulk (D i)) : ∀ l : List Nat, (∀ i ∈ l, i < len) → Drv.total (l.map B) + l.length ≤ Rows.uptoBulkAll (l.map D) := by
  intro l
  induction l with
  | nil => intro _; simp [Drv.total]
  | cons i r ih =>
    intro h
    have h1 := ih fun j hj => h j (List.mem_cons_of_mem _ hj)
    have h2 := hB i (h i List.mem_cons_self)
    simp only [List.map_cons, List.length_cons, bulks.all_cons, Drv.total, List.sum_cons] at h1 ⊢
    omega
theorem openb_files {fuel : Nat} {v : Value} {x : DataW H × List MemPlace} (h : DataW.trod enc Tryz.prog w base spare held fuel 60 [v] = some x) :
    ∃ A n c fs vals, v = .slice A n c ∧ List.length fs = n ∧ FilesIn w A fs vals ∧ (∀ ad, A = some ad → 0 < fs.length → ad.spot = none) ∧ Drv.total fs + n ≤ Rows.uptoBulk x.1 ∧ (∀ f ∈ fs, f.1.length + f.2.length ≤ Rows.uptoBulk x.1) := by
  have hc : Tryz.prog.cellsOf 171 = 2 := by kernel_rfl
  rcases Go.Deep.open_slice Tryz.underlying60 h with ⟨hcs, hx⟩ | ⟨ad, len, cap, m, n, D, Pl, hcs, _, hl, hm, hmm, hx, hcell⟩
  · simp only [List.cons.injEq, and_true] at hcs
    exact ⟨none, 0, 0, [], [], hcs, rfl, ⟨rfl, Reads.none_, fun k f u h => by simp at h⟩, (fun ad e _ => by cases e), by rw [hx]; simp [Rows.uptoBulk, Drv.total], fun f h => by simp at h⟩
  · simp only [List.cons.injEq, and_true] at hcs
    have hml : len ≤ m := by rw [hmm]; split <;> omega
    rw [hc] at hcell
    obtain ⟨B, hB⟩ : ∃ B : Nat → File × (Option Addr × Nat), ∀ i, i < len → w.cell? (ad.add (i * 2)) = some (strV (B i).1.1) ∧ w.cell? (ad.add (i * 2 + 1)) = some (.slice (B i).2.1 (B i).1.2.length (B i).2.2) ∧ Reads w w.heap.size 1 (B i).2.1 (B i).1.2.length ((B i).1.2.map B8) ∧ (B i).1.1.length + (B i).1.2.length + 1 ≤ Rows.uptoBulk (D i) := by
      refine Go.Deep.choose_lt (p := fun i (b : File × (Option Addr × Nat)) => w.cell? (ad.add (i * 2)) = some (strV b.1.1) ∧ w.cell? (ad.add (i * 2 + 1)) = some (.slice b.2.1 b.1.2.length b.2.2) ∧ Reads w w.heap.size 1 b.2.1 b.1.2.length (b.1.2.map B8) ∧ b.1.1.length + b.1.2.length + 1 ≤ Rows.uptoBulk (D i)) fun i hi => ?_
      obtain ⟨cs', h1, h2⟩ := hcell i (by omega)
      obtain ⟨f, a, c, rfl, hr, hb⟩ := openb_file h2
      obtain ⟨_, _, h3⟩ := World.cells?_some h1
      have e0 := h3 0 (by omega)
      have e1 := h3 1 (by omega)
      rw [Go.Deep.add_add] at e0 e1
      exact ⟨(f, a, c), e0, e1, hr, hb⟩
    obtain ⟨fs, hfs⟩ : ∃ fs, fs = (List.range len).map fun i => (B i).1 := ⟨_, rfl⟩
    obtain ⟨vals, hvals⟩ : ∃ vals, vals = (List.range len).map fun i => Value.slice (B i).2.1 (B i).1.2.length (B i).2.2 := ⟨_, rfl⟩
    have hfl : fs.length = len := by rw [hfs]; simp
    have hvl : vals.length = len := by rw [hvals]; simp
    have hfg : ∀ k, k < len → fs[k]? = some (B k).1 := fun k hk => by rw [hfs]; simp [hk]
    have hvg : ∀ k, k < len → vals[k]? = some (.slice (B k).2.1 (B k).1.2.length (B k).2.2) := fun k hk => by rw [hvals]; simp [hk]
    have hcl : (fileCells fs vals).length = len * 2 := by rw [fileCells_length _ _ (by rw [hfl, hvl]), hfl]
    have hblk : 0 < len → ad.block < w.heap.size := fun hn => by
      have h0 := (hB 0 (by omega)).1
      have := World.block_lt_of_cell? w _ h0
      rwa [block_of_add] at this
    refine ⟨some ad, len, cap, fs, vals, hcs, hfl, ⟨by rw [hfl, hvl], ⟨by rw [hcl, hfl], fun hn => ⟨ad, rfl, hblk (by omega), fun j u hu => ?_⟩⟩, fun k f u hf hu => ?_⟩, fun a e hn => ?_, ?_, ?_⟩
    · have hj : j < len * 2 := by
        rcases Nat.lt_or_ge j (len * 2) with h | h
        · exact h
        · rw [List.getElem?_eq_none (by rw [hcl]; exact h)] at hu; cases hu
      have hk : j / 2 < len := by omega
      obtain ⟨p0, p1⟩ := fileCells_get _ _ (hfg _ hk) (hvg _ hk)
      obtain ⟨q0, q1, _⟩ := hB _ hk
      rcases Nat.mod_two_eq_zero_or_one j with h | h
      · have e : j = j / 2 * 2 := by omega
        rw [e] at hu ⊢
        rw [p0] at hu; rw [q0, hu]
      · have e : j = j / 2 * 2 + 1 := by omega
        rw [e] at hu ⊢
        rw [p1] at hu; rw [q1, hu]
    · have hk : k < len := by
        rcases Nat.lt_or_ge k len with h | h
        · exact h
        · rw [List.getElem?_eq_none (by omega)] at hf; cases hf
      rw [hfg k hk] at hf
      rw [hvg k hk] at hu
      obtain rfl := Option.some.inj hf
      obtain rfl := Option.some.inj hu
      exact ⟨_, _, rfl, (hB k hk).2.2.1⟩
    · obtain rfl := Option.some.inj e
      exact plain_spot0 (hB 0 (by omega)).1
    · rw [hx]
      have h1 := total_map (D := D) (B := fun i => (B i).1) (fun i hi => (hB i hi).2.2.2) (List.range len) (fun i hi => List.mem_range.1 hi)
      rw [← hfs, List.length_range] at h1
      simp only [bulks.slice_eq]
      omega
    · intro f hf
      rw [hfs] at hf
      obtain ⟨i, hi, rfl⟩ := List.mem_map.1 hf
      have h1 := (hB i (List.mem_range.1 hi)).2.2.2
      have h2 := bulks.part_le (d := D i) (l := (List.range len).map D) (List.mem_map.2 ⟨i, hi, rfl⟩)
      rw [hx]
      simp only [bulks.slice_eq]
      omega
theorem openb_place {fuel : Nat} {cs : List Value} {x : DataW H × List MemPlace} (h : DataW.trod enc Tryz.prog w base spare held fuel 62 cs = some x) (hsm : Rows.uptoBulk x.1 ≤ 1048576) :
    ∃ p L, cs = placeCells p L ∧ PlaceIn w p L ∧ p.plan.length ≤ 1048576 ∧ p.files.length ≤ 1048576 ∧ ∀ f ∈ p.files, f.2.length ≤ 1048576 := by
  obtain ⟨xs, n, _, hx, hlen, hxl, hf⟩ := DataW.trod_struct Tryz.underlying62 h
  have hc : Tryz.prog.cellsOf 62 = 9 := by kernel_rfl
  rw [hc] at hlen
  obtain ⟨c0, c1, c2, c3, c4, c5, c6, c7, c8, rfl⟩ := len9b hlen
  have k3 : Tryz.prog.cellsOf 3 = 1 := by kernel_rfl
  have k4 : Tryz.prog.cellsOf 4 = 1 := by kernel_rfl
  have kf : Tryz.prog.cellsOf 60 = 1 := by kernel_rfl
  have kp : Tryz.prog.cellsOf 52 = 1 := by kernel_rfl
  obtain ⟨y0, y1, y2, y3, y4, y5, y6, y7, y8, rfl⟩ := len9b (hxl.trans (by decide))
  have g0 : DataW.trod enc Tryz.prog w base spare held n 4 (List.take (Tryz.prog.cellsOf 4) [c0, c1, c2, c3, c4, c5, c6, c7, c8]) = some y0 := hf 0 _ rfl
  have g1 : DataW.trod enc Tryz.prog w base spare held n 3 (List.take (Tryz.prog.cellsOf 3) [c1, c2, c3, c4, c5, c6, c7, c8]) = some y1 := hf 1 _ rfl
  have g2 : DataW.trod enc Tryz.prog w base spare held n 60 (List.take (Tryz.prog.cellsOf 60) [c2, c3, c4, c5, c6, c7, c8]) = some y2 := hf 2 _ rfl
  have g3 : DataW.trod enc Tryz.prog w base spare held n 52 (List.take (Tryz.prog.cellsOf 52) [c3, c4, c5, c6, c7, c8]) = some y3 := hf 3 _ rfl
  have g4 : DataW.trod enc Tryz.prog w base spare held n 4 (List.take (Tryz.prog.cellsOf 4) [c4, c5, c6, c7, c8]) = some y4 := hf 4 _ rfl
  have g5 : DataW.trod enc Tryz.prog w base spare held n 4 (List.take (Tryz.prog.cellsOf 4) [c5, c6, c7, c8]) = some y5 := hf 5 _ rfl
  have g6 : DataW.trod enc Tryz.prog w base spare held n 3 (List.take (Tryz.prog.cellsOf 3) [c6, c7, c8]) = some y6 := hf 6 _ rfl
  have g7 : DataW.trod enc Tryz.prog w base spare held n 3 (List.take (Tryz.prog.cellsOf 3) [c7, c8]) = some y7 := hf 7 _ rfl
  have g8 : DataW.trod enc Tryz.prog w base spare held n 3 (List.take (Tryz.prog.cellsOf 3) [c8]) = some y8 := hf 8 _ rfl
  rw [k4] at g0 g4 g5
  rw [k3] at g1 g6 g7 g8
  rw [kf] at g2
  rw [kp] at g3
  obtain ⟨a0, e0, _⟩ := DataW.trod_bool Tryz.underlying4 g0
  obtain ⟨a1, e1, _⟩ := DataW.trod_int Tryz.underlying3 g1
  obtain ⟨fa, nf, fc, fs, vals, e2, lf, hfi, hsp, htot, hff⟩ := openb_files g2
  obtain ⟨pa, np, pc, pl, e3, lp, hcp, hbp, hblk, hrp⟩ := openb_plan g3
  obtain ⟨a4, e4, _⟩ := DataW.trod_bool Tryz.underlying4 g4
  obtain ⟨a5, e5, _⟩ := DataW.trod_bool Tryz.underlying4 g5
  obtain ⟨a6, e6, _⟩ := DataW.trod_int Tryz.underlying3 g6
  obtain ⟨a7, e7, _⟩ := DataW.trod_int Tryz.underlying3 g7
  obtain ⟨a8, e8, _⟩ := DataW.trod_int Tryz.underlying3 g8
  simp only [List.take, List.cons.injEq, and_true] at e0 e1 e4 e5 e6 e7 e8
  have hb : Rows.uptoBulk y2.1 + Rows.uptoBulk y3.1 ≤ 1048576 := by
    rw [hx] at hsm
    simp only [bulks.agg_eq, List.map_cons, List.map_nil, bulks.all_cons, bulks.all_nil] at hsm
    omega
  subst lf lp
  refine ⟨⟨a0, a1, fs, pl, a4, a5, a6, a7, a8⟩, ⟨fa, fc, pa, pc⟩, ?_, ⟨⟨vals, hfi⟩, hsp, hrp, by show fs.length ≤ _; omega, by show Drv.total fs ≤ _; omega, fun f hf => ?_, by show pl.length * 16 ≤ _; omega, hblk, hcp⟩, by show pl.length ≤ _; omega, by show fs.length ≤ _; omega, fun f hf => ?_⟩
  · subst e0 e1 e4 e5 e6 e7 e8
    simp only [placeCells, ← e2, ← e3]
  · have := hff f hf; omega
  · have := hff f hf; show f.2.length ≤ _; omega
end
end Go.Proofs.YtcbebefdbdppdaaGreat
