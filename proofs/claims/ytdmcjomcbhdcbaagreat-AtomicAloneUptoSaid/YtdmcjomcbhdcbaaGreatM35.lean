/- An act: all is wiped; an act of no kind. (Printed by gen_Sc.py.); An act that harms a file: Flip and Cut. (Printed by gen_Sd.py.); Both worlds are looked at. -/
import Derived.Test.YtdmcjomcbhdcbaaGreatM34
import Derived.Test.YtdmcjomcbhdcbaaGreatM12
namespace Go.Proofs.YtdmcjomcbhdcbaaGreat
open Go.RowKit Go.Maps

theorem World1.heads {w : World} {h dg wg mg q p mq mp : Nat} {Av : Nat → Prop} {X Y : Wnd} {S T : Drv} (hT : World1 w h Av dg wg mg q p mq mp X S Y T) : w.cell? ⟨q, 0, none⟩ = some (.pointer (some ⟨p, 0, none⟩)) ∧ w.cell? ⟨mq, 0, none⟩ = some (.pointer (some ⟨mp, 0, none⟩)) := by
  obtain ⟨F, hd⟩ := hT.wd
  obtain ⟨F2, hk⟩ := hT.dk
  exact ⟨hd.head, hk.head.1⟩
set_option maxRecDepth 100000 in
set_option maxHeartbeats 4000000 in
theorem do_wipe (w : World) (h dg dc wg wc mg mc q p mq mp : Nat) (Av : Nat → Prop) (X : Wnd) (S : Drv) (hT : World1 w h Av dg wg mg q p mq mp X S X S) (hh : h ≤ w.heap.size) (hcap : Caps dc wc mc) (x : PAct) (L : ALay) (hk : x.kind = 7) {k N r : Nat} (hK : KeptM X S k N r) :
    Calls Tryz.prog 23 #[bothV dg dc wg wc mg mc, .agg (actCells x L)] w fun e w' => e = .returned (.tuple #[]) ∧ World1 w' h Av dg wg mg q p mq mp X (Drv.new S.room) X (Drv.new S.room) ∧ Touch (fr h Av) w w' := by
  obtain ⟨kind, place, at_, n, data, plan, R, C, I⟩ := x
  obtain ⟨da, dcc, pa, pc, fa, fn, fc⟩ := L
  simp only at hk
  subst hk
  unfold bothV actCells
  simp only
  obtain ⟨hc1, hc2, hc3⟩ := hcap
  have HT := Lib.hid hT
  have hr := hT.rows
  obtain ⟨r1, r2, r3, l1, l2, l3⟩ := hr
  have h01 : (0 : Int) < ((1 : Nat) : Int) := by omega
  obtain ⟨q0, m0⟩ := hT.heads
  have hql : q < w.heap.size := by obtain ⟨F, hd⟩ := hT.wd; obtain ⟨pv, fq, hw, _⟩ := hd.wn; exact hw.head.lt
  have HWB : Hid (∀ o1 o2, World1 ((w.alloc o1).alloc o2) h (fun k => Av k ∨ (w.heap.size ≤ k ∧ k < w.heap.size + 2)) dg wg mg q p mq mp X S X S) := Lib.hid fun o1 o2 => by
    have := hT.boxed (w1 := (w.alloc o1).alloc o2) (((Below.refl _ w).alloc (Nat.le_refl _) _).alloc (by simp) _)
    rw [show ((w.alloc o1).alloc o2).heap.size = w.heap.size + 2 by simp] at this; exact this
  have HPK := Lib.hid pick_one
  clear hT
  go_enter Tryz.func23, Tryz.ntmps23
  go_wp2_with (first
    | (go_at_call 55; refine (HPK.out _ _).mono ?_; rintro e w' ⟨rfl, rfl⟩)
    | (go_at_call 62; go_must (refine (wwipe1 (HWB.out _ _) (by simp; omega) hK).mono ?_); rintro e w2 ⟨rfl, h2, t2⟩; have HT2 := Lib.hid h2; have HTT := Lib.hid t2; obtain ⟨q2, m2⟩ := h2.heads; clear h2 t2)
    | (go_at_call 63; go_must (refine (mwipe1 HT2.out (by have := HTT.out.size; simp at this; omega)).mono ?_); rintro e w3 ⟨rfl, h3, t3⟩; have HT3 := Lib.hid h3; have HTT3 := Lib.hid t3; clear h3 t3)
    | fail)
  have HE := Lib.hid (World1.end_ HT3.out (HTT.out.then_ HTT3.out) (((Below.refl _ w).alloc (Nat.le_refl _) _).alloc (by simp) _) (fun k hk => .inl hk) HT.out.avd)
  go_end0
  exact ⟨rfl, HE.out.1, HE.out.2⟩

set_option maxRecDepth 100000 in
set_option maxHeartbeats 4000000 in
theorem do_other (w : World) (h dg dc wg wc mg mc q p mq mp : Nat) (Av : Nat → Prop) (X : Wnd) (S : Drv) (hT : World1 w h Av dg wg mg q p mq mp X S X S) (hcap : Caps dc wc mc) (x : PAct) (L : ALay) (hk : x.kind ≠ 1 ∧ x.kind ≠ 2 ∧ x.kind ≠ 3 ∧ x.kind ≠ 4 ∧ x.kind ≠ 5 ∧ x.kind ≠ 6 ∧ x.kind ≠ 7 ∧ x.kind ≠ 8 ∧ x.kind ≠ 9) :
    Calls Tryz.prog 23 #[bothV dg dc wg wc mg mc, .agg (actCells x L)] w fun e w' => e = .returned (.tuple #[]) ∧ World1 w' h Av dg wg mg q p mq mp X S X S ∧ Touch (fr h Av) w w' := by
  obtain ⟨kind, place, at_, n, data, plan, R, C, I⟩ := x
  obtain ⟨da, dcc, pa, pc, fa, fn, fc⟩ := L
  simp only at hk
  obtain ⟨k1, k2, k3, k4, k5, k6, k7, k8, k9⟩ := hk
  have e1 : (kind == 1) = false := by simpa using k1
  have e2 : (kind == 2) = false := by simpa using k2
  have e3 : (kind == 3) = false := by simpa using k3
  have e4 : (kind == 4) = false := by simpa using k4
  have e5 : (kind == 5) = false := by simpa using k5
  have e6 : (kind == 6) = false := by simpa using k6
  have e7 : (kind == 7) = false := by simpa using k7
  have e8 : (kind == 8) = false := by simpa using k8
  have e9 : (kind == 9) = false := by simpa using k9
  unfold bothV actCells
  simp only
  obtain ⟨hc1, hc2, hc3⟩ := hcap
  have HT := Lib.hid hT
  have hr := hT.rows
  obtain ⟨r1, r2, r3, l1, l2, l3⟩ := hr
  have h01 : (0 : Int) < ((1 : Nat) : Int) := by omega
  have HPK := Lib.hid pick_one
  clear hT k1 k2 k3 k4 k5 k6 k7 k8 k9
  go_enter Tryz.func23, Tryz.ntmps23
  go_wp2_with (go_at_call 55; refine (HPK.out _ _).mono ?_; rintro e w' ⟨rfl, rfl⟩)
  have HB : Hid (∀ o1 o2, Below w.heap.size w ((w.alloc o1).alloc o2)) := Lib.hid fun o1 o2 => ((Below.refl _ w).alloc (Nat.le_refl _) _).alloc (by simp) _
  go_end0
  exact ⟨rfl, HT.out.below (HB.out _ _), Touch.of_below (HB.out _ _)⟩
end Go.Proofs.YtdmcjomcbhdcbaaGreat
namespace Go.Proofs.YtdmcjomcbhdcbaaGreat
open Go.RowKit Go.Maps

theorem image_name {S : Drv} {N : Nat} (h : S.Inv N) {j : Nat} {f : File} (hj : S.image[j]? = some f) : f.1.length ≤ 1024 := by
  have hm := List.mem_of_getElem? hj
  unfold Drv.image at hm
  obtain ⟨s, hs, rfl⟩ := List.mem_map.1 hm
  exact (h.fnow s (mem_dnames h.know h.tnow hs)).1
set_option maxHeartbeats 1000000 in
theorem pick_any (k : Int) (n : Nat) (w : World) (h0 : 0 < n) (hn : n ≤ 1073741824) : Calls Tryz.prog 55 #[.int .i64 k, .int .i64 n] w fun e w' => ∃ i : Nat, i < n ∧ e = .returned (.int .i64 i) ∧ w = w' := by
  have t1 : ¬ ((n : Int) < 1) := by omega
  have t2 : ¬ n = 0 := by omega
  obtain ⟨m, hm⟩ : ∃ m, m = k.tmod n := ⟨_, rfl⟩
  have hm1 : m < n := by rw [hm]; exact Int.tmod_lt_of_pos _ (by omega)
  have hm2 : -(n : Int) < m := by rw [hm]; exact Int.lt_tmod_of_pos _ (by omega)
  by_cases hneg : m < 0
  · have HEX : Hid (∃ i : Nat, i < n ∧ m + n = i) := Lib.hid ⟨(m + n).toNat, by omega, by omega⟩
    go_enter Tryz.func55, Tryz.ntmps55
    go_wp2
    obtain ⟨i, hi, e⟩ := HEX.out
    go_ret
    exact ⟨i, hi, by rw [← e, hm]; rfl, rfl⟩
  · have HEX : Hid (∃ i : Nat, i < n ∧ m = i) := Lib.hid ⟨m.toNat, by omega, by omega⟩
    go_enter Tryz.func55, Tryz.ntmps55
    go_wp2
    obtain ⟨i, hi, e⟩ := HEX.out
    go_ret
    exact ⟨i, hi, by rw [← e, hm]; rfl, rfl⟩

set_option maxRecDepth 100000 in
set_option maxHeartbeats 8000000 in
theorem do_cut (w : World) (h dg dc wg wc mg mc q p mq mp : Nat) (Av : Nat → Prop) (X : Wnd) (S : Drv) (hT : World1 w h Av dg wg mg q p mq mp X S X S) (hh : h ≤ w.heap.size) (hcap : Caps dc wc mc) (x : PAct) (L : ALay) (hk : x.kind = 9) {k N r : Nat} (hK : KeptM X S k N r) :
    Calls Tryz.prog 23 #[bothV dg dc wg wc mg mc, .agg (actCells x L)] w fun e w' => e = .returned (.tuple #[]) ∧ (∃ S', KeptM X S' k N r ∧ World1 w' h Av dg wg mg q p mq mp X S' X S') ∧ Touch (fr h Av) w w' := by
  obtain ⟨kind, place, at_, n, data, plan, R, C, I⟩ := x
  obtain ⟨da, dcc, pa, pc, fa, fn, fc⟩ := L
  simp only at hk
  subst hk
  unfold bothV actCells
  simp only
  obtain ⟨hc1, hc2, hc3⟩ := hcap
  have HT := Lib.hid hT
  have hr := hT.rows
  obtain ⟨r1, r2, r3, l1, l2, l3⟩ := hr
  have h01 : (0 : Int) < ((1 : Nat) : Int) := by omega
  obtain ⟨q0, m0⟩ := hT.heads
  have hml : mq < w.heap.size := by obtain ⟨F, hd⟩ := hT.dk; exact hd.head.2
  have HWB : Hid (∀ o1 o2, World1 ((w.alloc o1).alloc o2) h (fun k => Av k ∨ (w.heap.size ≤ k ∧ k < w.heap.size + 2)) dg wg mg q p mq mp X S X S) := Lib.hid fun o1 o2 => by
    have := hT.boxed (w1 := (w.alloc o1).alloc o2) (((Below.refl _ w).alloc (Nat.le_refl _) _).alloc (by simp) _)
    rw [show ((w.alloc o1).alloc o2).heap.size = w.heap.size + 2 by simp] at this; exact this
  have HBW : Hid (∀ o1 o2, Below w.heap.size w ((w.alloc o1).alloc o2)) := Lib.hid fun o1 o2 => ((Below.refl _ w).alloc (Nat.le_refl _) _).alloc (by simp) _
  have HPK := Lib.hid pick_one
  obtain ⟨il, hil⟩ : ∃ il, il = S.image.length := ⟨_, rfl⟩
  have hib : il ≤ 1073741824 := by rw [hil]; exact Nat.le_trans (image_len hK.k.drv) hK.k.drv.rooms
  have HIL := Lib.hid hil
  have HPA : Hid (∀ w : World, 0 < il → Calls Tryz.prog 55 #[.int .i64 at_, .int .i64 il] w fun e w' => ∃ i : Nat, i < il ∧ e = .returned (.int .i64 i) ∧ w = w') := Lib.hid fun w h0 => pick_any at_ il w h0 hib
  have HNM : Hid (∀ (j : Nat) (f : File), S.image[j]? = some f → f.1.length ≤ maxLen) := Lib.hid fun j f hf => by have := image_name hK.k.drv hf; simp only [maxLen]; omega
  have HACT : Hid (∀ o1 w1, Below (w.heap.size + 2) ((w.alloc o1).alloc (.cells #[.int .i64 9, .int .i64 place, .int .i64 at_, .int .i64 n, .slice da data.length dcc, .slice pa plan.length pc, .int .i64 R, .int .i64 C, .int .i64 I, .slice fa fn fc] 59)) w1 → ∀ Z, Touch (fr h (fun k => Av k ∨ (w.heap.size ≤ k ∧ k < w.heap.size + 2))) w1 Z → Z.cell? ⟨w.heap.size + 1, 0, none⟩ = some (.int .i64 9) ∧ Z.cell? ⟨w.heap.size + 1, 2, none⟩ = some (.int .i64 at_) ∧ Z.cell? ⟨w.heap.size + 1, 3, none⟩ = some (.int .i64 n) ∧ Z.cell? ⟨w.heap.size + 1, 4, none⟩ = some (.slice da data.length dcc)) := Lib.hid fun o1 w1 hb Z hZ => by
    have hs := hb.size
    simp at hs
    have e : Z.heap[w.heap.size + 1]? = w1.heap[w.heap.size + 1]? := fr_av hZ (.inr (by omega)) (by omega)
    have hb2 : Blk Z (w.heap.size + 1) 59 _ := (e.trans (hb.block (w.heap.size + 1) (by omega))).trans (blk_last _ _ _ _ (by simp))
    exact ⟨hb2.cell 0, hb2.cell 2, hb2.cell 3, hb2.cell 4⟩
  clear hT hil
  by_cases hz : il = 0
  · have hz0 : ((il : Int) == 0) = true := by simp [hz]
    have HE : Hid (∀ W, Below w.heap.size w W → (∃ S', KeptM X S' k N r ∧ World1 W h Av dg wg mg q p mq mp X S' X S') ∧ Touch (fr h Av) w W) := Lib.hid fun W hW => ⟨⟨S, hK, HT.out.below hW⟩, Touch.of_below hW⟩
    go_enter Tryz.func23, Tryz.ntmps23
    go_wp2_with (first
      | (go_at_call 55; refine (HPK.out _ _).mono ?_; rintro e w' ⟨rfl, rfl⟩)
      | (go_at_call 64; refine (mimage1 (HWB.out _ _) hK).mono ?_; rintro e w1 ⟨v1, rfl, hf1, hb1⟩; obtain ⟨a1, c1, rfl, _⟩ := hf1.shape; rw [← HIL.out]; have hbb : Below w.heap.size w w1 := (HBW.out _ _).trans (hb1.mono (by simp; omega)); have HB1 := Lib.hid hbb; clear hf1 hb1 hbb)
      | fail)
    exact bodyPost_ret (v := .tuple #[]) (by simp only [results, Tryz.results23]; go_simp) rfl ⟨rfl, HE.out _ HB1.out⟩
  · have hz0 : ((il : Int) == 0) = false := by simp; omega
    have hip : 0 < il := by omega
    clear hz
    go_enter Tryz.func23, Tryz.ntmps23
    go_wp2_with fail
    refine (HPK.out _ _).mono ?_
    rintro e w' ⟨rfl, rfl⟩
    go_wp2_with (go_at_call 64; refine (mimage1 (HWB.out _ _) hK).mono ?_; rintro e w1 ⟨v1, rfl, hf1, hb1⟩; obtain ⟨a1, c1, rfl, hc1x⟩ := hf1.shape; rw [← HIL.out] at hf1 hc1x; rw [← HIL.out]; have hbb : Below w.heap.size w w1 := (HBW.out _ _).trans (hb1.mono (by simp; omega)); have HB1 := Lib.hid hbb; have HT1 := Lib.hid ((HWB.out _ _).below hb1); have HF1 := Lib.hid hf1; have hb1x := hb1.mono (show w.heap.size + 2 ≤ _ by simp); have HA1 := Lib.hid (HACT.out _ w1 hb1x); obtain ⟨b0, b2, b3, b4⟩ := HA1.out w1 (Touch.refl _ _); obtain ⟨q1, m1⟩ := HT1.out.heads; clear hf1 hb1 hbb hb1x)
    refine (HPA.out _ hip).mono ?_
    rintro e w' ⟨i, hi, rfl, rfl⟩
    obtain ⟨f, hf⟩ : ∃ f, S.image[i]? = some f := ⟨_, List.getElem?_eq_getElem (by rw [← HIL.out]; exact hi)⟩
    obtain ⟨g, xa, xd, rfl, x0, x1, _, _⟩ := HF1.out.at_ HIL.out hf
    obtain ⟨f1, f2⟩ := f
    simp only [strV] at x0
    have HNF := Lib.hid (HNM.out _ _ hf)
    clear hf x1
    have hi0 : (0 : Int) ≤ (i : Int) := by omega
    have hi1 : (i : Int) < (il : Int) := by omega
    go_wp2
    have HWC : Hid (∀ V, Below w1.heap.size w1 V → Calls Tryz.prog 67 #[.pointer (some ⟨p, 0, none⟩), .string ⟨f1.toArray⟩, .int .i64 n] V fun e w' => e = .returned (.int .i64 (S.cut f1 n).2) ∧ World1 w' h (fun k => Av k ∨ (w.heap.size ≤ k ∧ k < w.heap.size + 2)) dg wg mg q p mq mp X (S.cut f1 n).1 X S ∧ Touch (fr h (fun k => Av k ∨ (w.heap.size ≤ k ∧ k < w.heap.size + 2))) w1 w') := Lib.hid fun V hV => by
      refine (wcut1 (HT1.out.below hV) (Nat.le_trans hh (Nat.le_trans HB1.out.size hV.size)) hK f1 HNF.out n).mono ?_
      rintro e w' ⟨he, h1, h2⟩
      exact ⟨he, h1, (Touch.of_below hV).then_ h2⟩
    go_region_held3 (fun w' => w'.cell? ⟨q, 0, none⟩ = some (.pointer (some ⟨p, 0, none⟩)) ∧ w'.cell? ⟨w.heap.size + 1, 3, none⟩ = some (.int .i64 n)) (first | (with_reducible exact HQC.out) | go_keep) ((first
      | (go_at_call 67; (refine (HWC.out _ (by first | exact Below.refl _ _ | exact below_drew1 (Below.refl _ _))).mono ?_); rintro e w2 ⟨rfl, h2, t2⟩; have HT2 := Lib.hid h2; have HTT2 := Lib.hid t2; obtain ⟨d0, d2, d3, d4⟩ := HA1.out w2 t2; obtain ⟨q2, m2⟩ := h2.heads; have HQC := Lib.hid (⟨q2, d3⟩ : w2.cell? ⟨q, 0, none⟩ = some (.pointer (some ⟨p, 0, none⟩)) ∧ w2.cell? ⟨w.heap.size + 1, 3, none⟩ = some (.int .i64 n)); clear h2 t2)
      | fail))
    all_goals
      go_wp2
      have HMC : Hid (∀ V, Below w2.heap.size w2 V → Calls Tryz.prog 68 #[.pointer (some ⟨mp, 0, none⟩), .string ⟨f1.toArray⟩, .int .i64 n] V fun e w' => e = .returned (.int .i64 (S.cut f1 n).2) ∧ World1 w' h (fun k => Av k ∨ (w.heap.size ≤ k ∧ k < w.heap.size + 2)) dg wg mg q p mq mp X (S.cut f1 n).1 X (S.cut f1 n).1 ∧ Touch (fr h (fun k => Av k ∨ (w.heap.size ≤ k ∧ k < w.heap.size + 2))) w1 w') := Lib.hid fun V hV => by
        refine (mcut1 (HT2.out.below hV) (Nat.le_trans hh (Nat.le_trans HB1.out.size (Nat.le_trans HTT2.out.size hV.size))) hK f1 HNF.out n).mono ?_
        rintro e w' ⟨he, h1, h2⟩
        exact ⟨he, h1, (HTT2.out.then_ (Touch.of_below hV)).then_ h2⟩
      go_region_held3 (fun w' => w'.cell? ⟨mq, 0, none⟩ = some (.pointer (some ⟨mp, 0, none⟩)) ∧ w'.cell? ⟨w.heap.size + 1, 3, none⟩ = some (.int .i64 n)) (first | (with_reducible exact HQD.out) | go_keep) ((first
        | (go_at_call 68; (refine (HMC.out _ (by first | exact Below.refl _ _ | exact below_drew1 (Below.refl _ _))).mono ?_); rintro e w3 ⟨rfl, h3, t3⟩; have HT3 := Lib.hid h3; have HTT3 := Lib.hid t3; obtain ⟨g0, g2, g3, g4⟩ := HA1.out w3 t3; obtain ⟨q3, m3⟩ := h3.heads; have HQD := Lib.hid (⟨m3, g3⟩ : w3.cell? ⟨mq, 0, none⟩ = some (.pointer (some ⟨mp, 0, none⟩)) ∧ w3.cell? ⟨w.heap.size + 1, 3, none⟩ = some (.int .i64 n)); clear h3 t3)
        | fail))
      all_goals
        have HE := Lib.hid (World1.end_ HT3.out HTT3.out HB1.out (fun k hk => .inl hk) HT.out.avd)
        go_end0
        exact ⟨rfl, ⟨_, hK.cut f1 n, HE.out.1⟩, HE.out.2⟩
set_option maxRecDepth 100000 in
set_option maxHeartbeats 8000000 in
theorem do_flip (w : World) (h dg dc wg wc mg mc q p mq mp : Nat) (Av : Nat → Prop) (X : Wnd) (S : Drv) (hT : World1 w h Av dg wg mg q p mq mp X S X S) (hh : h ≤ w.heap.size) (hcap : Caps dc wc mc) (x : PAct) (L : ALay) (hk : x.kind = 8) {k N r : Nat} (hK : KeptM X S k N r) (hrd : Reads w w.heap.size 1 L.da x.data.length (x.data.map B8)) (hda : ∀ ad, L.da = some ad → 0 < x.data.length → ad.block < h ∨ Av ad.block) (hdb : x.data.length ≤ 1099511627776) (hdc : x.data.length ≤ L.dc) :
    Calls Tryz.prog 23 #[bothV dg dc wg wc mg mc, .agg (actCells x L)] w fun e w' => e = .returned (.tuple #[]) ∧ (∃ S', KeptM X S' k N r ∧ World1 w' h Av dg wg mg q p mq mp X S' X S') ∧ Touch (fr h Av) w w' := by
  obtain ⟨kind, place, at_, n, data, plan, R, C, I⟩ := x
  obtain ⟨da, dcc, pa, pc, fa, fn, fc⟩ := L
  simp only at hk hrd hda hdb hdc
  subst hk
  unfold bothV actCells
  simp only
  obtain ⟨hc1, hc2, hc3⟩ := hcap
  have HT := Lib.hid hT
  have hr := hT.rows
  obtain ⟨r1, r2, r3, l1, l2, l3⟩ := hr
  have h01 : (0 : Int) < ((1 : Nat) : Int) := by omega
  obtain ⟨q0, m0⟩ := hT.heads
  have hml : mq < w.heap.size := by obtain ⟨F, hd⟩ := hT.dk; exact hd.head.2
  have HWB : Hid (∀ o1 o2, World1 ((w.alloc o1).alloc o2) h (fun k => Av k ∨ (w.heap.size ≤ k ∧ k < w.heap.size + 2)) dg wg mg q p mq mp X S X S) := Lib.hid fun o1 o2 => by
    have := hT.boxed (w1 := (w.alloc o1).alloc o2) (((Below.refl _ w).alloc (Nat.le_refl _) _).alloc (by simp) _)
    rw [show ((w.alloc o1).alloc o2).heap.size = w.heap.size + 2 by simp] at this; exact this
  have HBW : Hid (∀ o1 o2, Below w.heap.size w ((w.alloc o1).alloc o2)) := Lib.hid fun o1 o2 => ((Below.refl _ w).alloc (Nat.le_refl _) _).alloc (by simp) _
  have HPK := Lib.hid pick_one
  obtain ⟨il, hil⟩ : ∃ il, il = S.image.length := ⟨_, rfl⟩
  have hib : il ≤ 1073741824 := by rw [hil]; exact Nat.le_trans (image_len hK.k.drv) hK.k.drv.rooms
  have HIL := Lib.hid hil
  have HPA : Hid (∀ w : World, 0 < il → Calls Tryz.prog 55 #[.int .i64 at_, .int .i64 il] w fun e w' => ∃ i : Nat, i < il ∧ e = .returned (.int .i64 i) ∧ w = w') := Lib.hid fun w h0 => pick_any at_ il w h0 hib
  have HNM : Hid (∀ (j : Nat) (f : File), S.image[j]? = some f → f.1.length ≤ maxLen) := Lib.hid fun j f hf => by have := image_name hK.k.drv hf; simp only [maxLen]; omega
  obtain ⟨iB, hiB, hz0B, hz1B, hz2B⟩ := info_parts byteInfo
  obtain ⟨dl, hdl⟩ : ∃ dl, dl = data.length := ⟨_, rfl⟩
  rw [← hdl] at hrd hdb hdc hda
  rw [← hdl]
  have HDL := Lib.hid hdl
  have HDB := Lib.hid hdb
  have HDC := Lib.hid hdc
  have HRD0 := Lib.hid hrd
  have HDA := Lib.hid hda
  have HACT : Hid (∀ o1 w1, Below (w.heap.size + 2) ((w.alloc o1).alloc (.cells #[.int .i64 8, .int .i64 place, .int .i64 at_, .int .i64 n, .slice da dl dcc, .slice pa plan.length pc, .int .i64 R, .int .i64 C, .int .i64 I, .slice fa fn fc] 59)) w1 → ∀ Z, Touch (fr h (fun k => Av k ∨ (w.heap.size ≤ k ∧ k < w.heap.size + 2))) w1 Z → Z.cell? ⟨w.heap.size + 1, 0, none⟩ = some (.int .i64 8) ∧ Z.cell? ⟨w.heap.size + 1, 2, none⟩ = some (.int .i64 at_) ∧ Z.cell? ⟨w.heap.size + 1, 3, none⟩ = some (.int .i64 n) ∧ Z.cell? ⟨w.heap.size + 1, 4, none⟩ = some (.slice da dl dcc)) := Lib.hid fun o1 w1 hb Z hZ => by
    have hs := hb.size
    simp at hs
    have e : Z.heap[w.heap.size + 1]? = w1.heap[w.heap.size + 1]? := fr_av hZ (.inr (by omega)) (by omega)
    have hb2 : Blk Z (w.heap.size + 1) 59 _ := (e.trans (hb.block (w.heap.size + 1) (by omega))).trans (blk_last _ _ _ _ (by simp))
    exact ⟨hb2.cell 0, hb2.cell 2, hb2.cell 3, hb2.cell 4⟩
  clear hT hil hrd hda hdb hdc hdl
  by_cases hz : il = 0
  · have hz0 : ((il : Int) == 0) = true := by simp [hz]
    have HE : Hid (∀ W, Below w.heap.size w W → (∃ S', KeptM X S' k N r ∧ World1 W h Av dg wg mg q p mq mp X S' X S') ∧ Touch (fr h Av) w W) := Lib.hid fun W hW => ⟨⟨S, hK, HT.out.below hW⟩, Touch.of_below hW⟩
    go_enter Tryz.func23, Tryz.ntmps23
    go_wp2_with (first
      | (go_at_call 55; refine (HPK.out _ _).mono ?_; rintro e w' ⟨rfl, rfl⟩)
      | (go_at_call 64; refine (mimage1 (HWB.out _ _) hK).mono ?_; rintro e w1 ⟨v1, rfl, hf1, hb1⟩; obtain ⟨a1, c1, rfl, _⟩ := hf1.shape; rw [← HIL.out]; have hbb : Below w.heap.size w w1 := (HBW.out _ _).trans (hb1.mono (by simp; omega)); have HB1 := Lib.hid hbb; clear hf1 hb1 hbb)
      | fail)
    exact bodyPost_ret (v := .tuple #[]) (by simp only [results, Tryz.results23]; go_simp) rfl ⟨rfl, HE.out _ HB1.out⟩
  · have hz0 : ((il : Int) == 0) = false := by simp; omega
    have hip : 0 < il := by omega
    clear hz
    go_enter Tryz.func23, Tryz.ntmps23
    go_wp2_with fail
    refine (HPK.out _ _).mono ?_
    rintro e w' ⟨rfl, rfl⟩
    go_wp2_with (go_at_call 64; refine (mimage1 (HWB.out _ _) hK).mono ?_; rintro e w1 ⟨v1, rfl, hf1, hb1⟩; obtain ⟨a1, c1, rfl, hc1x⟩ := hf1.shape; rw [← HIL.out] at hf1 hc1x; rw [← HIL.out]; have hbb : Below w.heap.size w w1 := (HBW.out _ _).trans (hb1.mono (by simp; omega)); have HB1 := Lib.hid hbb; have HT1 := Lib.hid ((HWB.out _ _).below hb1); have HF1 := Lib.hid hf1; have hb1x := hb1.mono (show w.heap.size + 2 ≤ _ by simp); have HA1 := Lib.hid (HACT.out _ w1 hb1x); obtain ⟨b0, b2, b3, b4⟩ := HA1.out w1 (Touch.refl _ _); obtain ⟨q1, m1⟩ := HT1.out.heads; clear hf1 hb1 hbb hb1x)
    refine (HPA.out _ hip).mono ?_
    rintro e w' ⟨i, hi, rfl, rfl⟩
    obtain ⟨f, hf⟩ : ∃ f, S.image[i]? = some f := ⟨_, List.getElem?_eq_getElem (by rw [← HIL.out]; exact hi)⟩
    obtain ⟨g, xa, xd, rfl, x0, x1, _, _⟩ := HF1.out.at_ HIL.out hf
    obtain ⟨f1, f2⟩ := f
    simp only [strV] at x0
    have HNF := Lib.hid (HNM.out _ _ hf)
    clear hf x1
    have hi0 : (0 : Int) ≤ (i : Int) := by omega
    have hi1 : (i : Int) < (il : Int) := by omega
    go_wp2
    have HRD : Hid (∀ V, Touch (fr h (fun k => Av k ∨ (w.heap.size ≤ k ∧ k < w.heap.size + 2))) w1 V → Reads V V.heap.size 1 da dl (data.map B8)) := Lib.hid fun V hV => (HRD0.out.touch0 ((Touch.of_below HB1.out).then_ (fr_mono hV fun k hk => .inl hk)) (Nat.le_refl _) fun ad e h0 => fr_avoid1 (HDA.out ad e h0)).more (Nat.le_trans HB1.out.size hV.size)
    have HWF : Hid (∀ (V : World) (a2 : Option Addr) (c2 : Nat), Below w1.heap.size w1 V → V.ownsRow w1.heap.size 5 1 (.slice a2 dl c2) dl (data.map B8) → Calls Tryz.prog 65 #[.pointer (some ⟨p, 0, none⟩), .string ⟨f1.toArray⟩, .int .i64 n, .slice a2 dl c2] V fun e w' => e = .returned (.int .i64 (S.flip f1 n data).2) ∧ World1 w' h (fun k => Av k ∨ (w.heap.size ≤ k ∧ k < w.heap.size + 2)) dg wg mg q p mq mp X (S.flip f1 n data).1 X S ∧ Touch (fr h (fun k => Av k ∨ (w.heap.size ≤ k ∧ k < w.heap.size + 2))) w1 w') := Lib.hid fun V a2 c2 hV ho => by
      have hcap : dl ≤ c2 := by
        obtain ⟨a3, c3, e, hc⟩ := own_shape ho
        injection e with _ _ e
        rw [e]; exact hc
      have hlt : ∀ ad, a2 = some ad → w1.heap.size ≤ ad.block ∧ ad.block < V.heap.size := fun ad e => ho.lt ad.block (by rw [e]; rfl)
      have hr := Reads.of_own ho
      have hdl := HDL.out
      have hdb := HDB.out
      subst hdl
      refine (wflip1 (HT1.out.boxed hV) (Nat.le_trans hh (Nat.le_trans HB1.out.size hV.size)) hK f1 HNF.out n a2 c2 data hr (fun ad e => .inr (.inr (hlt ad e))) hcap (by omega)).mono ?_
      rintro e w' ⟨he, h1, h2⟩
      have hE := World1.end_ h1 h2 hV (fun k hk => .inl hk) HT1.out.avd
      exact ⟨he, hE.1, hE.2⟩
    have HQB : Hid (∀ Z, Below w1.heap.size w1 Z → Z.cell? ⟨q, 0, none⟩ = some (.pointer (some ⟨p, 0, none⟩)) ∧ Z.cell? ⟨w.heap.size + 1, 3, none⟩ = some (.int .i64 n) ∧ Z.cell? ⟨w.heap.size + 1, 4, none⟩ = some (.slice da dl dcc)) := Lib.hid fun Z hZ => by
      obtain ⟨z0, z2, z3, z4⟩ := HA1.out Z (Touch.of_below hZ)
      exact ⟨(HT1.out.below hZ).heads.1, z3, z4⟩
    have HM63 : Hid (0 + dl ≤ maxLen) := Lib.hid (by simp only [maxLen]; have := HDB.out; omega)
    have HM40 : Hid ((0 + dl) * 1 ≤ 140737488355328) := Lib.hid (by have := HDB.out; omega)
    have HONE : Hid (∀ u ∈ data.map B8, u.oneCell' = true) := Lib.hid (by intro u hu; simp only [List.mem_map] at hu; obtain ⟨b, _, rfl⟩ := hu; rfl)
    go_region_held3 (fun w' => w'.cell? ⟨q, 0, none⟩ = some (.pointer (some ⟨p, 0, none⟩)) ∧ w'.cell? ⟨w.heap.size + 1, 3, none⟩ = some (.int .i64 n) ∧ w'.cell? ⟨w.heap.size + 1, 4, none⟩ = some (.slice da dl dcc)) (first | (with_reducible exact (HQB.out _ HBA.out)) | (with_reducible exact HQC.out) | go_keep) ((first
      | (refine step_append_any _ (by rfl) (.const (.slice none 0 0)) (.tmp 163) 26 (by rfl) w1.heap.size 5 iB _ 1 1 Tryz.underlying26 hiB hz0B hz1B hz2B rfl (by omega) (.slice none 0 0) 0 [] (by rfl) (World.ownsRow_nil _ _ _ _) _ da dl dcc (data.map B8) (by rfl) (HRD.out _ (by first | exact Touch.of_below (below_drew1 (Below.refl _ _)) | exact Touch.refl _ _)) HONE.out HM63.out HM40.out (by simp) ?_; intro v2 wa hown2 hg2 hat2; obtain ⟨a2, c2, rfl, _⟩ := own_shape hown2; rw [Nat.zero_add, List.nil_append] at hown2; have HOA := Lib.hid hown2; have hba : Below w1.heap.size w1 wa := (by exact (below_drew1 (Below.refl _ _)).grown hg2 (by simp) (fun q hq => by simp [Value.ownBlock] at hq)); have HBA := Lib.hid hba; clear hown2 hg2 hat2 hba)
      | (go_at_call 65; (refine (HWF.out _ a2 c2 HBA.out HOA.out).mono ?_); rintro e w2 ⟨rfl, h2, t2⟩; have HT2 := Lib.hid h2; have HTT2 := Lib.hid t2; obtain ⟨d0, d2, d3, d4⟩ := HA1.out w2 t2; obtain ⟨q2, m2⟩ := h2.heads; have HQC := Lib.hid (⟨q2, d3, d4⟩ : w2.cell? ⟨q, 0, none⟩ = some (.pointer (some ⟨p, 0, none⟩)) ∧ w2.cell? ⟨w.heap.size + 1, 3, none⟩ = some (.int .i64 n) ∧ w2.cell? ⟨w.heap.size + 1, 4, none⟩ = some (.slice da dl dcc)); clear h2 t2)
      | fail))
    all_goals
      go_wp2
      have HMC : Hid (∀ V, Below w2.heap.size w2 V → Calls Tryz.prog 66 #[.pointer (some ⟨mp, 0, none⟩), .string ⟨f1.toArray⟩, .int .i64 n, .slice da dl dcc] V fun e w' => e = .returned (.int .i64 (S.flip f1 n data).2) ∧ World1 w' h (fun k => Av k ∨ (w.heap.size ≤ k ∧ k < w.heap.size + 2)) dg wg mg q p mq mp X (S.flip f1 n data).1 X (S.flip f1 n data).1 ∧ Touch (fr h (fun k => Av k ∨ (w.heap.size ≤ k ∧ k < w.heap.size + 2))) w1 w') := Lib.hid fun V hV => by
        refine (mflip1 (HT2.out.below hV) (Nat.le_trans hh (Nat.le_trans HB1.out.size (Nat.le_trans HTT2.out.size hV.size))) hK f1 HNF.out n da dl dcc data HDL.out HDB.out HDC.out (HRD.out V (HTT2.out.then_ (Touch.of_below hV)))).mono ?_
        rintro e w' ⟨he, h1, h2⟩
        exact ⟨he, h1, (HTT2.out.then_ (Touch.of_below hV)).then_ h2⟩
      go_region_held3 (fun w' => w'.cell? ⟨mq, 0, none⟩ = some (.pointer (some ⟨mp, 0, none⟩)) ∧ w'.cell? ⟨w.heap.size + 1, 3, none⟩ = some (.int .i64 n) ∧ w'.cell? ⟨w.heap.size + 1, 4, none⟩ = some (.slice da dl dcc)) (first | (with_reducible exact HQD.out) | go_keep) ((first
        | (go_at_call 66; (refine (HMC.out _ (by first | exact Below.refl _ _ | exact below_drew1 (Below.refl _ _))).mono ?_); rintro e w3 ⟨rfl, h3, t3⟩; have HT3 := Lib.hid h3; have HTT3 := Lib.hid t3; obtain ⟨g0, g2, g3, g4⟩ := HA1.out w3 t3; obtain ⟨q3, m3⟩ := h3.heads; have HQD := Lib.hid (⟨m3, g3, g4⟩ : w3.cell? ⟨mq, 0, none⟩ = some (.pointer (some ⟨mp, 0, none⟩)) ∧ w3.cell? ⟨w.heap.size + 1, 3, none⟩ = some (.int .i64 n) ∧ w3.cell? ⟨w.heap.size + 1, 4, none⟩ = some (.slice da dl dcc)); clear h3 t3)
        | fail))
      all_goals
        have HE := Lib.hid (World1.end_ HT3.out HTT3.out HB1.out (fun k hk => .inl hk) HT.out.avd)
        go_end0
        exact ⟨rfl, ⟨_, hK.flip f1 n data, HE.out.1⟩, HE.out.2⟩
end Go.Proofs.YtdmcjomcbhdcbaaGreat
namespace Go.Proofs.YtdmcjomcbhdcbaaGreat
open Go.RowKit Go.Maps

end Go.Proofs.YtdmcjomcbhdcbaaGreat
