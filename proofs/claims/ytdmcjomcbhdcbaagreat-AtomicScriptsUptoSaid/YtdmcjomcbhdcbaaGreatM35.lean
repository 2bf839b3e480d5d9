/- An act: all is wiped; an act of no kind. (Printed by gen_Sc.py.); An act that harms a file: Flip and Cut. (Printed by gen_Sd.py.); Both worlds are looked at. -/
import Derived.Test.YtdmcjomcbhdcbaaGreatM34
import Derived.Test.YtdmcjomcbhdcbaaGreatM12
namespace Go.Proofs.YtdmcjomcbhdcbaaGreat
open Go.RowKit Go.Maps

theorem World1.heads {w : World} {h dg wg mg q p mq mp : Nat} {Av : Nat → Prop} {X Y : Wnd} {S T : Drv} (hT : World1 w h Av dg wg mg q p mq mp X S Y T) : w.cell? ⟨q, 0, none⟩ = some (.pointer (some ⟨p, 0, none⟩)) ∧ w.cell? ⟨mq, 0, none⟩ = some (.pointer (some ⟨mp, 0, none⟩)) := by
  obtain ⟨F, hd⟩ := hT.wd
  obtain ⟨F2, hk⟩ := hT.dk
  exact ⟨hd.head, hk.head.1⟩
set_option maxRecDepth 100000 in
set_option maxHeartbeats 4000000 in
theorem do_wipe (w : World) (h dg dc wg wc mg mc q p mq mp : Nat) (Av : Nat → Prop) (X : Wnd) (S : Drv) (hT : World1 w h Av dg wg mg q p mq mp X S X S) (hh : h ≤ w.heap.size) (hcap : Caps dc wc mc) (x : PAct) (L : ALay) (hk : x.kind = 7) {k N r : Nat} (hK : KeptM X S k N r) :
    Calls Tryz.prog 23 #[bothV dg dc wg wc mg mc, .agg (actCells x L)] w fun e w' => e = .returned (.tuple #[]) ∧ World1 w' h Av dg wg mg q p mq mp X (Drv.new S.room) X (Drv.new S.room) ∧ Touch (fr h Av) w w' := by
  obtain ⟨kind, place, at_, n, data, plan, R, C, I⟩ := x
  obtain ⟨da, dcc, pa, pc, fa, fn, fc⟩ := L
  simp only at hk
  subst hk
  unfold bothV actCells
  simp only
  obtain ⟨hc1, hc2, hc3⟩ := hcap
  have HT := Lib.hid hT
  have hr := hT.rows
  obtain ⟨r1, r2, r3, l1, l2, l3⟩ := hr
  have h01 : (0 : Int) < ((1 : Nat) : Int) := by omega
  obtain ⟨q0, m0⟩ := hT.heads
  have hql : q < w.heap.size := by obtain ⟨F, hd⟩ := hT.wd; obtain ⟨pv, fq, hw, _⟩ := hd.wn; exact hw.head.lt
  have HWB : Hid (∀ o1 o2, World1 ((w.alloc o1).alloc o2) h (fun k => Av k ∨ (w.heap.size ≤ k ∧ k < w.heap.size + 2)) dg wg mg q p mq mp X S X S) := Lib.hid fun o1 o2 => by
    have := hT.boxed (w1 := (w.alloc o1).alloc o2) (((Below.refl _ w).alloc (Nat.le_refl _) _).alloc (by simp) _)
    rw [show ((w.alloc o1).alloc o2).heap.size = w.heap.size + 2 by simp] at this; exact this
  have HPK := Lib.hid pick_one
  clear hT
  go_enter Tryz.func23, Tryz.ntmps23
  go_wp2_with (first
    | (go_at_call 55; refine (HPK.out _ _).mono ?_; rintro e w' ⟨rfl, rfl⟩)
    | (go_at_call 62; go_must (refine (wwipe1 (HWB.out _ _) (by simp; omega) hK).mono ?_); rintro e w2 ⟨rfl, h2, t2⟩; have HT2 := Lib.hid h2; have HTT := Lib.hid t2; obtain ⟨q2, m2⟩ := h2.heads; clear h2 t2)
    | (go_at_call 63; go_must (refine (mwipe1 HT2.out (by have := HTT.out.size; simp at this; omega)).mono ?_); rintro e w3 ⟨rfl, h3, t3⟩; have HT3 := Lib.hid h3; have HTT3 := Lib.hid t3; clear h3 t3)
    | fail)
  have HE := Lib.hid (World1.end_ HT3.out (HTT.out.then_ HTT3.out) (((Below.refl _ w).alloc (Nat.le_refl _) _).alloc (by simp) _) (fun k hk => .inl hk) HT.out.avd)
  go_end0
  exact ⟨rfl, HE.out.1, HE.out.2⟩

set_option maxRecDepth 100000 in
set_option maxHeartbeats 4000000 in
theorem do_other (w : World) (h dg dc wg wc mg mc q p mq mp : Nat) (Av : Nat → Prop) (X : Wnd) (S : Drv) (hT : World1 w h Av dg wg mg q p mq mp X S X S) (hcap : Caps dc wc mc) (x : PAct) (L : ALay) (hk : x.kind ≠ 1 ∧ x.kind ≠ 2 ∧ x.kind ≠ 3 ∧ x.kind ≠ 4 ∧ x.kind ≠ 5 ∧ x.kind ≠ 6 ∧ x.kind ≠ 7 ∧ x.kind ≠ 8 ∧ x.kind ≠ 9) :
    Calls Tryz.prog 23 #[bothV dg dc wg wc mg mc, .agg (actCells x L)] w fun e w' => e = .returned (.tuple #[]) ∧ World1 w' h Av dg wg mg q p mq mp X S X S ∧ Touch (fr h Av) w w' := by
  obtain ⟨kind, place, at_, n, data, plan, R, C, I⟩ := x
  obtain ⟨da, dcc, pa, pc, fa, fn, fc⟩ := L
  simp only at hk
  obtain ⟨k1, k2, k3, k4, k5, k6, k7, k8, k9⟩ := hk
  have e1 : (kind == 1) = false := by simpa using k1
  have e2 : (kind == 2) = false := by simpa using k2
  have e3 : (kind == 3) = false := by simpa using k3
  have e4 : (kind == 4) = false := by simpa using k4
  have e5 : (kind == 5) = false := by simpa using k5
  have e6 : (kind == 6) = false := by simpa using k6
  have e7 : (kind == 7) = false := by simpa using k7
  have e8 : (kind == 8) = false := by simpa using k8
  have e9 : (kind == 9) = false := by simpa using k9
  unfold bothV actCells
  simp only
  obtain ⟨hc1, hc2, hc3⟩ := hcap
  have HT := Lib.hid hT
  have hr := hT.rows
  obtain ⟨r1, r2, r3, l1, l2, l3⟩ := hr
  have h01 : (0 : Int) < ((1 : Nat) : Int) := by omega
  have HPK := Lib.hid pick_one
  clear hT k1 k2 k3 k4 k5 k6 k7 k8 k9
  go_enter Tryz.func23, Tryz.ntmps23
  go_wp2_with (go_at_call 55; refine (HPK.out _ _).mono ?_; rintro e w' ⟨rfl, rfl⟩)
  have HB : Hid (∀ o1 o2, Below w.heap.size w ((w.alloc o1).alloc o2)) := Lib.hid fun o1 o2 => ((Below.refl _ w).alloc (Nat.le_refl _) _).alloc (by simp) _
  go_end0
  exact ⟨rfl, HT.out.below (HB.out _ _), Touch.of_below (HB.out _ _)⟩
end Go.Proofs.YtdmcjomcbhdcbaaGreat
namespace Go.Proofs.YtdmcjomcbhdcbaaGreat
open Go.RowKit Go.Maps

theorem image_name {S : Drv} {N : Nat} (h : S.Inv N) {j : Nat} {f : File} (hj : S.image[j]? = some f) : f.1.length ≤ 1024 := by
  have hm := List.mem_of_getElem? hj
  unfold Drv.image at hm
  obtain ⟨s, hs, rfl⟩ := List.mem_map.1 hm
  exact (h.fnow s (mem_dnames h.know h.tnow hs)).1
set_option maxHeartbeats 1000000 in
theorem pick_any (k : Int) (n : Nat) (w : World) (h0 : 0 < n) (hn : n ≤ 1073741824) : Calls Tryz.prog 55 #[.int .i64 k, .int .i64 n] w fun e w' => ∃ i : Nat, i < n ∧ e = .returned (.int .i64 i) ∧ w = w' := by
  have t1 : ¬ ((n : Int) < 1) := by omega
  have t2 : ¬ n = 0 := by omega
  obtain ⟨m, hm⟩ : ∃ m, m = k.tmod n := ⟨_, rfl⟩
  have hm1 : m < n := by rw [hm]; exact Int.tmod_lt_of_pos _ (by omega)
  have hm2 : -(n : Int) < m := by rw [hm]; exact Int.lt_tmod_of_pos _ (by omega)
  by_cases hneg : m < 0
  · have HEX : Hid (∃ i : Nat, i < n ∧ m + n = i) := Lib.hid ⟨(m + n).toNat, by omega, by omega⟩
    go_enter Tryz.func55, Tryz.ntmps55
    go_wp2
    obtain ⟨i, hi, e⟩ := HEX.out
    go_ret
    exact ⟨i, hi, by rw [← e, hm]; rfl, rfl⟩
  · have HEX : Hid (∃ i : Nat, i < n ∧ m = i) := Lib.hid ⟨m.toNat, by omega, by omega⟩
    go_enter Tryz.func55, Tryz.ntmps55
    go_wp2
    obtain ⟨i, hi, e⟩ := HEX.out
    go_ret
    exact ⟨i, hi, by rw [← e, hm]; rfl, rfl⟩

set_option maxRecDepth 100000 in
set_option maxHeartbeats 8000000 in
theorem do_cut (w : World) (h dg dc wg wc mg mc q p mq mp : Nat) (Av : Nat → Prop) (X : Wnd) (S : Drv) (hT : World1 w h Av dg wg mg q p mq mp X S X S) (hh : h ≤ w.heap.size) (hcap : Caps dc wc mc) (x : PAct) (L : ALay) (hk : x.kind = 9) {k N r : Nat} (hK : KeptM X S k N r) :
    Calls Tryz.prog 23 #[bothV dg dc wg wc mg mc, .agg (actCells x L)] w fun e w' => e = .returned (.tuple #[]) ∧ (∃ S', KeptM X S' k N r ∧ World1 w' h Av dg wg mg q p mq mp X S' X S') ∧ Touch (fr h Av) w w' := by
  obtain ⟨kind, place, at_, n, data, plan, R, C, I⟩ := x
  obtain ⟨da, dcc, pa, pc, fa, fn, fc⟩ := L
  simp only at hk
  subst hk
  unfold bothV actCells
  simp only
  obtain ⟨hc1, hc2, hc3⟩ := hcap
  have HT := Lib.hid hT
  have hr := hT.rows
  obtain ⟨r1, r2, r3, l1, l2, l3⟩ := hr
  have h01 : (0 : Int) < ((1 : Nat) : Int) := by omega
  obtain ⟨q0, m0⟩ := hT.heads
  have hml : mq < w.heap.size := by obtain ⟨F, hd⟩ := hT.dk; exact hd.head.2
  have HWB : Hid (∀ o1 o2, World1 ((w.alloc o1).alloc o2) h (fun k => Av k ∨ (w.heap.size ≤ k ∧ k < w.heap.size + 2)) dg wg mg q p mq mp X S X S) := Lib.hid fun o1 o2 => by
    have := hT.boxed (w1 := (w.alloc o1).alloc o2) (((Below.refl _ w).alloc (Nat.le_refl _) _).alloc (by simp) _)
    rw [show ((w.alloc o1).alloc o2).heap.size = w.heap.size + 2 by simp] at this; exact this
  have HBW : Hid (∀ o1 o2, Below w.heap.size w ((w.alloc o1).alloc o2)) := Lib.hid fun o1 o2 => ((Below.refl _ w).alloc (Nat.le_refl _) _).alloc (by simp) _
  have HPK := Lib.hid pick_one
  obtain ⟨il, hil⟩ : ∃ il, il = S.image.length := ⟨_, rfl⟩
  have hib : il ≤ 1073741824 := by rw [hil]; exact Nat.le_trans (image_len hK.k.drv) hK.k.drv.rooms
  have HIL := Lib.hid hil
  have HPA : Hid (∀ w : World, 0 < il → Calls Tryz.prog 55 #[.int .i64 at_, .int .i64 il] w fun e w' => ∃ i : Nat, i < il ∧ e = .returned (.int .i64 i) ∧ w = w') := Lib.hid fun w h0 => pick_any at_ il w h0 hib
  have HNM : Hid (∀ (j : Nat) (f : File), S.image[j]? = some f → f.1.length ≤ maxLen) := Lib.hid fun j f hf => by have := image_name hK.k.drv hf; simp only [maxLen]; omega
  have HACT : Hid (∀ o1 w1, Below (w.heap.size + 2) ((w.alloc o1).alloc (.cells #[.int .i64 9, .int .i64 place, .int .i64 at_, .int .i64 n, .slice da data.length dcc, .slice pa plan.length pc, .int .i64 R, .int .i64 C, .int .i64 I, .slice fa fn fc] 59)) w1 → ∀ Z, Touch (fr h (fun k => Av k ∨ (w.heap.size ≤ k ∧ k < w.heap.size + 2))) w1 Z → Z.cell? ⟨w.heap.size + 1, 0, none⟩ = some (.int .i64 9) ∧ Z.cell? ⟨w.heap.size + 1, 2, none⟩ = some (.int .i64 at_) ∧ Z.cell? ⟨w.heap.size + 1, 3, none⟩ = some (.int .i64 n) ∧ Z.cell? ⟨w.heap.size + 1, 4, none⟩ = some (.slice da data.length dcc)) := Lib.hid fun o1 w1 hb Z hZ => by
    have hs := hb.size
    simp at hs
    have e : Z.heap[w.heap.size + 1]? = w1.heap[w.heap.size + 1]? := fr_av hZ (.inr (by omega)) (by omega)
    have hb2 : Blk Z (w.heap.size + 1) 59 _ := (e.trans (hb.block (w.heap.size + 1) (by omega))).trans (blk_last _ _ _ _ (by simp))
    exact ⟨hb2.cell 0, hb2.cell 2, hb2.cell 3, hb2.cell 4⟩
  clear hT hil
  by_cases hz : il = 0
  · have hz0 : ((il : Int) == 0) = true := by simp [hz]
    have HE : Hid (∀ W, Below w.heap.size w W → (∃ S', KeptM X S' k N r ∧ World1 W h Av dg wg mg q p mq mp X S' X S') ∧ Touch (fr h Av) w W) := Lib.hid fun W hW => ⟨⟨S, hK, HT.out.below hW⟩, Touch.of_below hW⟩
    go_enter Tryz.func23, Tryz.ntmps23
    go_wp2_with (first
      | (go_at_call 55; refine (HPK.out _ _).mono ?_; rintro e w' ⟨rfl, rfl⟩)
      | (go_at_call 64; refine (mimage1 (HWB.out _ _) hK).mono ?_; rintro e w1 ⟨v1, rfl, hf1, hb1⟩; obtain ⟨a1, c1, rfl, _⟩ := hf1.shape; rw [← HIL.out]; have hbb : Below w.heap.size w w1 := (HBW.out _ _).trans (hb1.mono (by simp; omega)); have HB1 := Lib.hid hbb; clear hf1 hb1 hbb)
      | fail)
    exact bodyPost_ret (v := .tuple #[]) (by simp only [results, Tryz.results23]; go_simp) rfl ⟨rfl, HE.out _ HB1.out⟩
  · have hz0 : ((il : Int) == 0) = false := by simp; omega
    have hip : 0 < il := by omega
    clear hz
    go_enter Tryz.func23, Tryz.ntmps23
    go_wp2_with fail
    refine (HPK.out _ _).mono ?_
    rintro e w' ⟨rfl, rfl⟩
    go_wp2_with (go_at_call 64; refine (mimage1 (HWB.out _ _) hK).mono ?_; rintro e w1 ⟨v1, rfl, hf1, hb1⟩; obtain ⟨a1, c1, rfl, hc1x⟩ := hf1.shape; rw [← HIL.out] at hf1 hc1x; rw [← HIL.out]; have hbb : Below w.heap.size w w1 := (HBW.out _ _).trans (hb1.mono (by simp; omega)); have HB1 := Lib.hid hbb; have HT1 := Lib.hid ((HWB.out _ _).below hb1); have HF1 := Lib.hid hf1; have hb1x := hb1.mono (show w.heap.size + 2 ≤ _ by simp); have HA1 := Lib.hid (HACT.out _ w1 hb1x); obtain ⟨b0, b2, b3, b4⟩ := HA1.out w1 (Touch.refl _ _); obtain ⟨q1, m1⟩ := HT1.out.heads; clear hf1 hb1 hbb hb1x)
    refine (HPA.out _ hip).mono ?_
    rintro e w' ⟨i, hi, rfl, rfl⟩
    obtain ⟨f, hf⟩ : ∃ f, S.image[i]? = some f := ⟨_, List.getElem?_eq_getElem (by rw [← HIL.out]; exact hi)⟩
    obtain ⟨g, xa, xd, rfl, x0, x1, _, _⟩ := HF1.out.at_ HIL.out hf
    obtain ⟨f1, f2⟩ := f
    simp only [strV] at x0
    have HNF := Lib.hid (HNM.out _ _ hf)
    clear hf x1
    have hi0 : (0 : Int) ≤ (i : Int) := by omega
    have hi1 : (i : Int) < (il : Int) := by omega
    go_wp2
    have HWC : Hid (∀ V, Below w1.heap.size w1 V → Calls Tryz.prog 67 #[.pointer (some ⟨p, 0, none⟩), .string ⟨f1.toArray⟩, .int .i64 n] V fun e w' => e = .returned (.int .i64 (S.cut f1 n).2) ∧ World1 w' h (fun k => Av k ∨ (w.heap.size ≤ k ∧ k < w.heap.size + 2)) dg wg mg q p mq mp X (S.cut f1 n).1 X S ∧ Touch (fr h (fun k => Av k ∨ (w.heap.size ≤ k ∧ k < w.heap.size + 2))) w1 w') := Lib.hid fun V hV => by
      refine (wcut1 (HT1.out.below hV) (Nat.le_trans hh (Nat.le_trans HB1.out.size hV.size)) hK f1 HNF.out n).mono ?_
      rintro e w' ⟨he, h1, h2⟩
      exact ⟨he, h1, (Touch.of_below hV).then_ h2⟩
    go_region_held3 (fun w' => w'.cell? ⟨q, 0, none⟩ = some (.pointer (some ⟨p, 0, none⟩)) ∧ w'.cell? ⟨w.heap.size + 1, 3, none⟩ = some (.int .i64 n)) (first | (with_reducible exact HQC.out) | go_keep) ((first
      | (go_at_call 67; go_loud (refine (HWC.out _ (by first | exact Below.refl _ _ | exact below_drew1 (Below.refl _ _))).mono ?_); rintro e w2 ⟨rfl, h2, t2⟩; have HT2 := Lib.hid h2; have HTT2 := Lib.hid t2; obtain ⟨d0, d2, d3, d4⟩ := HA1.out w2 t2; obtain ⟨q2, m2⟩ := h2.heads; have HQC := Lib.hid (⟨q2, d3⟩ : w2.cell? ⟨q, 0, none⟩ = some (.pointer (some ⟨p, 0, none⟩)) ∧ w2.cell? ⟨w.heap.size + 1, 3, none⟩ = some (.int .i64 n)); clear h2 t2)
      | fail))
    all_goals
      go_wp2
      have HMC : Hid (∀ V, Below w2.heap.size w2 V → Calls Tryz.prog 68 #[.pointer (some ⟨mp, 0, none⟩), .string ⟨f1.toArray⟩, .int .i64 n] V fun e w' => e = .returned (.int .i64 (S.cut f1 n).2) ∧ World1 w' h (fun k => Av k ∨ (w.heap.size ≤ k ∧ k < w.heap.size + 2)) dg wg mg q p mq mp X (S.cut f1 n).1 X (S.cut f1 n).1 ∧ Touch (fr h (fun k => Av k ∨ (w.heap.size ≤ k ∧ k < w.heap.size + 2))) w1 w') := Lib.hid fun V hV => by
        refine (mcut1 (HT2.out.below hV) (Nat.le_trans hh (Nat.le_trans HB1.out.size (Nat.le_trans HTT2.out.size hV.size))) hK f1 HNF.out n).mono ?_
        rintro e w' ⟨he, h1, h2⟩
        exact ⟨he, h1, (HTT2.out.then_ (Touch.of_below hV)).then_ h2⟩
      go_region_held3 (fun w' => w'.cell? ⟨mq, 0, none⟩ = some (.pointer (some ⟨mp, 0, none⟩)) ∧ w'.cell? ⟨w.heap.size + 1, 3, none⟩ = some (.int .i64 n)) (first | (with_reducible exact HQD.out) | go_keep) ((first
        | (go_at_call 68; go_loud (refine (HMC.out _ (by first | exact Below.refl _ _ | exact below_drew1 (Below.refl _ _))).mono ?_); rintro e w3 ⟨rfl, h3, t3⟩; have HT3 := Lib.hid h3; have HTT3 := Lib.hid t3; obtain ⟨g0, g2, g3, g4⟩ := HA1.out w3 t3; obtain ⟨q3, m3⟩ := h3.heads; have HQD := Lib.hid (⟨m3, g3⟩ : w3.cell? ⟨mq, 0, none⟩ = some (.pointer (some ⟨mp, 0, none⟩)) ∧ w3.cell? ⟨w.heap.size + 1, 3, none⟩ = some (.int .i64 n)); clear h3 t3)
        | fail))
      all_goals
        have HE := Lib.hid (World1.end_ HT3.out HTT3.out HB1.out (fun k hk => .inl hk) HT.out.avd)
        go_end0
        exact ⟨rfl, ⟨_, hK.cut f1 n, HE.out.1⟩, HE.out.2⟩
set_option maxRecDepth 100000 in
set_option maxHeartbeats 8000000 in
theorem do_flip (w : World) (h dg dc wg wc mg mc q p mq mp : Nat) (Av : Nat → Prop) (X : Wnd) (S : Drv) (hT : World1 w h Av dg wg mg q p mq mp X S X S) (hh : h ≤ w.heap.size) (hcap : Caps dc wc mc) (x : PAct) (L : ALay) (hk : x.kind = 8) {k N r : Nat} (hK : KeptM X S k N r) (hrd : Reads w w.heap.size 1 L.da x.data.length (x.data.map B8)) (hda : ∀ ad, L.da = some ad → 0 < x.data.length → ad.block < h ∨ Av ad.block) (hdb : x.data.length ≤ 1099511627776) (hdc : x.data.length ≤ L.dc) :
    Calls Tryz.prog 23 #[bothV dg dc wg wc mg mc, .agg (actCells x L)] w fun e w' => e = .returned (.tuple #[]) ∧ (∃ S', KeptM X S' k N r ∧ World1 w' h Av dg wg mg q p mq mp X S' X S') ∧ Touch (fr h Av) w w' := by
  obtain ⟨kind, place, at_, n, data, plan, R, C, I⟩ := x
  obtain ⟨da, dcc, pa, pc, fa, fn, fc⟩ := L
  simp only at hk hrd hda hdb hdc
  subst hk
  unfold bothV actCells
  simp only
  obtain ⟨hc1, hc2, hc3⟩ := hcap
  have HT := Lib.hid hT
  have hr := hT.rows
  obtain ⟨r1, r2, r3, l1, l2, l3⟩ := hr
  have h01 : (0 : Int) < ((1 : Nat) : Int) := by omega
  obtain ⟨q0, m0⟩ := hT.heads
  have hml : mq < w.heap.size := by obtain ⟨F, hd⟩ := hT.dk; exact hd.head.2
  have HWB : Hid (∀ o1 o2, World1 ((w.alloc o1).alloc o2) h (fun k => Av k ∨ (w.heap.size ≤ k ∧ k < w.heap.size + 2)) dg wg mg q p mq mp X S X S) := Lib.hid fun o1 o2 => by
    have := hT.boxed (w1 := (w.alloc o1).alloc o2) (((Below.refl _ w).alloc (Nat.le_refl _) _).alloc (by simp) _)
    rw [show ((w.alloc o1).alloc o2).heap.size = w.heap.size + 2 by simp] at this; exact this
  have HBW : Hid (∀ o1 o2, Below w.heap.size w ((w.alloc o1).alloc o2)) := Lib.hid fun o1 o2 => ((Below.refl _ w).alloc (Nat.le_refl _) _).alloc (by simp) _
  have HPK := Lib.hid pick_one
  obtain ⟨il, hil⟩ : ∃ il, il = S.image.length := ⟨_, rfl⟩
  have hib : il ≤ 1073741824 := by rw [hil]; exact Nat.le_trans (image_len hK.k.drv) hK.k.drv.rooms
  have HIL := Lib.hid hil
  have HPA : Hid (∀ w : World, 0 < il → Calls Tryz.prog 55 #[.int .i64 at_, .int .i64 il] w fun e w' => ∃ i : Nat, i < il ∧ e = .returned (.int .i64 i) ∧ w = w') := Lib.hid fun w h0 => pick_any at_ il w h0 hib
  have HNM : Hid (∀ (j : Nat) (f : File), S.image[j]? = some f → f.1.length ≤ maxLen) := Lib.hid fun j f hf => by have := image_name hK.k.drv hf; simp only [maxLen]; omega
  obtain ⟨iB, hiB, hz0B, hz1B, hz2B⟩ := info_parts byteInfo
  obtain ⟨dl, hdl⟩ : ∃ dl, dl = data.length := ⟨_, rfl⟩
  rw [← hdl] at hrd hdb hdc hda
  rw [← hdl]
  have HDL := Lib.hid hdl
  have HDB := Lib.hid hdb
  have HDC := Lib.hid hdc
  have HRD0 := Lib.hid hrd
  have HDA := Lib.hid hda
  have HACT : Hid (∀ o1 w1, Below (w.heap.size + 2) ((w.alloc o1).alloc (.cells #[.int .i64 8, .int .i64 place, .int .i64 at_, .int .i64 n, .slice da dl dcc, .slice pa plan.length pc, .int .i64 R, .int .i64 C, .int .i64 I, .slice fa fn fc] 59)) w1 → ∀ Z, Touch (fr h (fun k => Av k ∨ (w.heap.size ≤ k ∧ k < w.heap.size + 2))) w1 Z → Z.cell? ⟨w.heap.size + 1, 0, none⟩ = some (.int .i64 8) ∧ Z.cell? ⟨w.heap.size + 1, 2, none⟩ = some (.int .i64 at_) ∧ Z.cell? ⟨w.heap.size + 1, 3, none⟩ = some (.int .i64 n) ∧ Z.cell? ⟨w.heap.size + 1, 4, none⟩ = some (.slice da dl dcc)) := Lib.hid fun o1 w1 hb Z hZ => by
    have hs := hb.size
    simp at hs
    have e : Z.heap[w.heap.size + 1]? = w1.heap[w.heap.size + 1]? := fr_av hZ (.inr (by omega)) (by omega)
    have hb2 : Blk Z (w.heap.size + 1) 59 _ := (e.trans (hb.block (w.heap.size + 1) (by omega))).trans (blk_last _ _ _ _ (by simp))
    exact ⟨hb2.cell 0, hb2.cell 2, hb2.cell 3, hb2.cell 4⟩
  clear hT hil hrd hda hdb hdc hdl
  by_cases hz : il = 0
  · have hz0 : ((il : Int) == 0) = true := by simp [hz]
    have HE : Hid (∀ W, Below w.heap.size w W → (∃ S', KeptM X S' k N r ∧ World1 W h Av dg wg mg q p mq mp X S' X S') ∧ Touch (fr h Av) w W) := Lib.hid fun W hW => ⟨⟨S, hK, HT.out.below hW⟩, Touch.of_below hW⟩
    go_enter Tryz.func23, Tryz.ntmps23
    go_wp2_with (first
      | (go_at_call 55; refine (HPK.out _ _).mono ?_; rintro e w' ⟨rfl, rfl⟩)
      | (go_at_call 64; refine (mimage1 (HWB.out _ _) hK).mono ?_; rintro e w1 ⟨v1, rfl, hf1, hb1⟩; obtain ⟨a1, c1, rfl, _⟩ := hf1.shape; rw [← HIL.out]; have hbb : Below w.heap.size w w1 := (HBW.out _ _).trans (hb1.mono (by simp; omega)); have HB1 := Lib.hid hbb; clear hf1 hb1 hbb)
      | fail)
    exact bodyPost_ret (v := .tuple #[]) (by simp only [results, Tryz.results23]; go_simp) rfl ⟨rfl, HE.out _ HB1.out⟩
  · have hz0 : ((il : Int) == 0) = false := by simp; omega
    have hip : 0 < il := by omega
    clear hz
    go_enter Tryz.func23, Tryz.ntmps23
    go_wp2_with fail
    refine (HPK.out _ _).mono ?_
    rintro e w' ⟨rfl, rfl⟩
    go_wp2_with (go_at_call 64; refine (mimage1 (HWB.out _ _) hK).mono ?_; rintro e w1 ⟨v1, rfl, hf1, hb1⟩; obtain ⟨a1, c1, rfl, hc1x⟩ := hf1.shape; rw [← HIL.out] at hf1 hc1x; rw [← HIL.out]; have hbb : Below w.heap.size w w1 := (HBW.out _ _).trans (hb1.mono (by simp; omega)); have HB1 := Lib.hid hbb; have HT1 := Lib.hid ((HWB.out _ _).below hb1); have HF1 := Lib.hid hf1; have hb1x := hb1.mono (show w.heap.size + 2 ≤ _ by simp); have HA1 := Lib.hid (HACT.out _ w1 hb1x); obtain ⟨b0, b2, b3, b4⟩ := HA1.out w1 (Touch.refl _ _); obtain ⟨q1, m1⟩ := HT1.out.heads; clear hf1 hb1 hbb hb1x)
    refine (HPA.out _ hip).mono ?_
    rintro e w' ⟨i, hi, rfl, rfl⟩
    obtain ⟨f, hf⟩ : ∃ f, S.image[i]? = some f := ⟨_, List.getElem?_eq_getElem (by rw [← HIL.out]; exact hi)⟩
    obtain ⟨g, xa, xd, rfl, x0, x1, _, _⟩ := HF1.out.at_ HIL.out hf
    obtain ⟨f1, f2⟩ := f
    simp only [strV] at x0
    have HNF := Lib.hid (HNM.out _ _ hf)
    clear hf x1
    have hi0 : (0 : Int) ≤ (i : Int) := by omega
    have hi1 : (i : Int) < (il : Int) := by omega
    go_wp2
    have HRD : Hid (∀ V, Touch (fr h (fun k => Av k ∨ (w.heap.size ≤ k ∧ k < w.heap.size + 2))) w1 V → Reads V V.heap.size 1 da dl (data.map B8)) := Lib.hid fun V hV => (HRD0.out.touch0 ((Touch.of_below HB1.out).then_ (fr_mono hV fun k hk => .inl hk)) (Nat.le_refl _) fun ad e h0 => fr_avoid1 (HDA.out ad e h0)).more (Nat.le_trans HB1.out.size hV.size)
    have HWF : Hid (∀ (V : World) (a2 : Option Addr) (c2 : Nat), Below w1.heap.size w1 V → V.ownsRow w1.heap.size 5 1 (.slice a2 dl c2) dl (data.map B8) → Calls Tryz.prog 65 #[.pointer (some ⟨p, 0, none⟩), .string ⟨f1.toArray⟩, .int .i64 n, .slice a2 dl c2] V fun e w' => e = .returned (.int .i64 (S.flip f1 n data).2) ∧ World1 w' h (fun k => Av k ∨ (w.heap.size ≤ k ∧ k < w.heap.size + 2)) dg wg mg q p mq mp X (S.flip f1 n data).1 X S ∧ Touch (fr h (fun k => Av k ∨ (w.heap.size ≤ k ∧ k < w.heap.size + 2))) w1 w') := Lib.hid fun V a2 c2 hV ho => by
      have hcap : dl ≤ c2 := by
        obtain ⟨a3, c3, e, hc⟩ := own_shape ho
        injection e with _ _ e
        rw [e]; exact hc
      have hlt : ∀ ad, a2 = some ad → w1.heap.size ≤ ad.block ∧ ad.block < V.heap.size := fun ad e => ho.lt ad.block (by rw [e]; rfl)
      have hr := Reads.of_own ho
      have hdl := HDL.out
      have hdb := HDB.out
      subst hdl
      refine (wflip1 (HT1.out.boxed hV) (Nat.le_trans hh (Nat.le_trans HB1.out.size hV.size)) hK f1 HNF.out n a2 c2 data hr (fun ad e => .inr (.inr (hlt ad e))) hcap (by omega)).mono ?_
      rintro e w' ⟨he, h1, h2⟩
      have hE := World1.end_ h1 h2 hV (fun k hk => .inl hk) HT1.out.avd
      exact ⟨he, hE.1, hE.2⟩
    have HQB : Hid (∀ Z, Below w1.heap.size w1 Z → Z.cell? ⟨q, 0, none⟩ = some (.pointer (some ⟨p, 0, none⟩)) ∧ Z.cell? ⟨w.heap.size + 1, 3, none⟩ = some (.int .i64 n) ∧ Z.cell? ⟨w.heap.size + 1, 4, none⟩ = some (.slice da dl dcc)) := Lib.hid fun Z hZ => by
      obtain ⟨z0, z2, z3, z4⟩ := HA1.out Z (Touch.of_below hZ)
      exact ⟨(HT1.out.below hZ).heads.1, z3, z4⟩
    have HM63 : Hid (0 + dl ≤ maxLen) := Lib.hid (by simp only [maxLen]; have := HDB.out; omega)
    have HM40 : Hid ((0 + dl) * 1 ≤ 140737488355328) := Lib.hid (by have := HDB.out; omega)
    have HONE : Hid (∀ u ∈ data.map B8, u.oneCell' = true) := Lib.hid (by intro u hu; simp only [List.mem_map] at hu; obtain ⟨b, _, rfl⟩ := hu; rfl)
    go_region_held3 (fun w' => w'.cell? ⟨q, 0, none⟩ = some (.pointer (some ⟨p, 0, none⟩)) ∧ w'.cell? ⟨w.heap.size + 1, 3, none⟩ = some (.int .i64 n) ∧ w'.cell? ⟨w.heap.size + 1, 4, none⟩ = some (.slice da dl dcc)) (first | (with_reducible exact (HQB.out _ HBA.out)) | (with_reducible exact HQC.out) | go_keep) ((first
      | (refine step_append_any _ (by rfl) (.const (.slice none 0 0)) (.tmp 163) 26 (by rfl) w1.heap.size 5 iB _ 1 1 Tryz.underlying26 hiB hz0B hz1B hz2B rfl (by omega) (.slice none 0 0) 0 [] (by rfl) (World.ownsRow_nil _ _ _ _) _ da dl dcc (data.map B8) (by rfl) (HRD.out _ (by first | exact Touch.of_below (below_drew1 (Below.refl _ _)) | exact Touch.refl _ _)) HONE.out HM63.out HM40.out (by simp) ?_; intro v2 wa hown2 hg2 hat2; obtain ⟨a2, c2, rfl, _⟩ := own_shape hown2; rw [Nat.zero_add, List.nil_append] at hown2; have HOA := Lib.hid hown2; have hba : Below w1.heap.size w1 wa := (by exact (below_drew1 (Below.refl _ _)).grown hg2 (by simp) (fun q hq => by simp [Value.ownBlock] at hq)); have HBA := Lib.hid hba; clear hown2 hg2 hat2 hba)
      | (go_at_call 65; go_loud (refine (HWF.out _ a2 c2 HBA.out HOA.out).mono ?_); rintro e w2 ⟨rfl, h2, t2⟩; have HT2 := Lib.hid h2; have HTT2 := Lib.hid t2; obtain ⟨d0, d2, d3, d4⟩ := HA1.out w2 t2; obtain ⟨q2, m2⟩ := h2.heads; have HQC := Lib.hid (⟨q2, d3, d4⟩ : w2.cell? ⟨q, 0, none⟩ = some (.pointer (some ⟨p, 0, none⟩)) ∧ w2.cell? ⟨w.heap.size + 1, 3, none⟩ = some (.int .i64 n) ∧ w2.cell? ⟨w.heap.size + 1, 4, none⟩ = some (.slice da dl dcc)); clear h2 t2)
      | fail))
    all_goals
      go_wp2
      have HMC : Hid (∀ V, Below w2.heap.size w2 V → Calls Tryz.prog 66 #[.pointer (some ⟨mp, 0, none⟩), .string ⟨f1.toArray⟩, .int .i64 n, .slice da dl dcc] V fun e w' => e = .returned (.int .i64 (S.flip f1 n data).2) ∧ World1 w' h (fun k => Av k ∨ (w.heap.size ≤ k ∧ k < w.heap.size + 2)) dg wg mg q p mq mp X (S.flip f1 n data).1 X (S.flip f1 n data).1 ∧ Touch (fr h (fun k => Av k ∨ (w.heap.size ≤ k ∧ k < w.heap.size + 2))) w1 w') := Lib.hid fun V hV => by
        refine (mflip1 (HT2.out.below hV) (Nat.le_trans hh (Nat.le_trans HB1.out.size (Nat.le_trans HTT2.out.size hV.size))) hK f1 HNF.out n da dl dcc data HDL.out HDB.out HDC.out (HRD.out V (HTT2.out.then_ (Touch.of_below hV)))).mono ?_
        rintro e w' ⟨he, h1, h2⟩
        exact ⟨he, h1, (HTT2.out.then_ (Touch.of_below hV)).then_ h2⟩
      go_region_held3 (fun w' => w'.cell? ⟨mq, 0, none⟩ = some (.pointer (some ⟨mp, 0, none⟩)) ∧ w'.cell? ⟨w.heap.size + 1, 3, none⟩ = some (.int .i64 n) ∧ w'.cell? ⟨w.heap.size + 1, 4, none⟩ = some (.slice da dl dcc)) (first | (with_reducible exact HQD.out) | go_keep) ((first
        | (go_at_call 66; go_loud (refine (HMC.out _ (by first | exact Below.refl _ _ | exact below_drew1 (Below.refl _ _))).mono ?_); rintro e w3 ⟨rfl, h3, t3⟩; have HT3 := Lib.hid h3; have HTT3 := Lib.hid t3; obtain ⟨g0, g2, g3, g4⟩ := HA1.out w3 t3; obtain ⟨q3, m3⟩ := h3.heads; have HQD := Lib.hid (⟨m3, g3, g4⟩ : w3.cell? ⟨mq, 0, none⟩ = some (.pointer (some ⟨mp, 0, none⟩)) ∧ w3.cell? ⟨w.heap.size + 1, 3, none⟩ = some (.int .i64 n) ∧ w3.cell? ⟨w.heap.size + 1, 4, none⟩ = some (.slice da dl dcc)); clear h3 t3)
        | fail))
      all_goals
        have HE := Lib.hid (World1.end_ HT3.out HTT3.out HB1.out (fun k hk => .inl hk) HT.out.avd)
        go_end0
        exact ⟨rfl, ⟨_, hK.flip f1 n data, HE.out.1⟩, HE.out.2⟩
end Go.Proofs.YtdmcjomcbhdcbaaGreat
namespace Go.Proofs.YtdmcjomcbhdcbaaGreat
open Go.RowKit Go.Maps

set_option maxRecDepth 100000 in
set_option maxHeartbeats 8000000 in
theorem bsame_any (w : World) (h dg dc wg wc mg mc q p mq mp : Nat) (Av : Nat → Prop) (X : Wnd) (S : Drv) (hT : World1 w h Av dg wg mg q p mq mp X S X S) (hh : h ≤ w.heap.size) (hcap : Caps dc wc mc) {k N r : Nat} (hK : KeptM X S k N r) :
    Calls Tryz.prog 30 #[bothV dg dc wg wc mg mc] w fun e w' => e = .returned (.bool true) ∧ Below w.heap.size w w' := by
  unfold bothV
  obtain ⟨hc1, hc2, hc3⟩ := hcap
  have hbW0 : ∀ o, Below w.heap.size w (w.alloc o) := fun o => (Below.refl _ w).alloc (Nat.le_refl _) _
  obtain ⟨W, hW⟩ : ∃ W, W = w.alloc (.cells #[.slice (some ⟨dg, 0, none⟩) 1 dc, .slice (some ⟨wg, 0, none⟩) 1 wc, .slice (some ⟨mg, 0, none⟩) 1 mc] 36) := ⟨_, rfl⟩
  have hbW : Below w.heap.size w W := by rw [hW]; exact hbW0 _
  have hsW : W.heap.size = w.heap.size + 1 := by rw [hW]; simp
  have hTW := hT.below hbW
  have hbl : Blk W w.heap.size 36 #[.slice (some ⟨dg, 0, none⟩) 1 dc, .slice (some ⟨wg, 0, none⟩) 1 wc, .slice (some ⟨mg, 0, none⟩) 1 mc] := by rw [hW]; exact blk_last _ _ _ _ rfl
  obtain ⟨g, hg, _⟩ := hTW.gate (Nat.le_trans hh hbW.size)
  have HBW := Lib.hid hbW
  have HIM : Hid (∀ V, Below W.heap.size W V → Calls Tryz.prog 11 #[.pointer (some ⟨p, 0, none⟩)] V fun e w' => ∃ v, e = .returned v ∧ FilesAt w' V.heap.size v S.image ∧ Below V.heap.size V w') := Lib.hid fun V hV => wimage1 (hTW.below hV) hK
  have HSA : Hid (∀ V, Below W.heap.size W V → Calls Tryz.prog 75 #[.pointer (some ⟨p, 0, none⟩)] V fun e w' => ∃ v, e = .returned v ∧ FilesAt w' V.heap.size v S.safes ∧ Below V.heap.size V w') := Lib.hid fun V hV => wsafe1 (hTW.below hV) hK
  have HMI : Hid (∀ V, Below W.heap.size W V → Calls Tryz.prog 64 #[.pointer (some ⟨mp, 0, none⟩)] V fun e w' => ∃ v, e = .returned v ∧ FilesAt w' V.heap.size v S.image ∧ Below V.heap.size V w') := Lib.hid fun V hV => mimage1 (hTW.below hV) hK
  have HMS : Hid (∀ V, Below W.heap.size W V → Calls Tryz.prog 76 #[.pointer (some ⟨mp, 0, none⟩)] V fun e w' => ∃ v, e = .returned v ∧ FilesAt w' V.heap.size v S.safes ∧ Below V.heap.size V w') := Lib.hid fun V hV => msafe1 (hTW.below hV) hK
  obtain ⟨pl, hpl⟩ : ∃ pl, pl = S.pending.length := ⟨_, rfl⟩
  have HWP : Hid (∀ V, Below W.heap.size W V → Calls Tryz.prog 77 #[.pointer (some ⟨p, 0, none⟩)] V fun e w' => e = .returned (.int .i64 pl) ∧ V = w') := Lib.hid fun V hV => by rw [hpl]; exact wpending1 (hTW.below hV)
  have HMP : Hid (∀ V, Below W.heap.size W V → Calls Tryz.prog 78 #[.pointer (some ⟨mp, 0, none⟩)] V fun e w' => e = .returned (.int .i64 pl) ∧ V = w') := Lib.hid fun V hV => by rw [hpl]; exact mpending1 (hTW.below hV)
  obtain ⟨ca, hca⟩ : ∃ ca, ca = X.calls := ⟨_, rfl⟩
  have HCA : Hid (∀ V, Below W.heap.size W V → Calls Tryz.prog 26 #[.pointer (some ⟨q, 0, none⟩)] V fun e w' => e = .returned (.int .i64 ca) ∧ V = w') := Lib.hid fun V hV => by rw [hca]; exact wcalls1 (hTW.below hV)
  obtain ⟨dn, hdn⟩ : ∃ dn, dn = X.down := ⟨_, rfl⟩
  have HON : Hid (∀ V, Below W.heap.size W V → Calls Tryz.prog 79 #[.pointer (some ⟨q, 0, none⟩)] V fun e w' => e = .returned (.bool (!dn)) ∧ V = w') := Lib.hid fun V hV => by rw [hdn]; exact won1 (hTW.below hV)
  obtain ⟨li, hli⟩ : ∃ li, li = X.lit := ⟨_, rfl⟩
  have HLI : Hid (∀ V, Below W.heap.size W V → Calls Tryz.prog 45 #[.pointer (some ⟨q, 0, none⟩)] V fun e w' => e = .returned (.bool li) ∧ V = w') := Lib.hid fun V hV => by rw [hli]; exact wlit1 (hTW.below hV)
  have HLO : Hid (∀ V, Below W.heap.size W V → ∀ s : Nm, s.length ≤ maxLen → Calls Tryz.prog 81 #[.pointer (some ⟨p, 0, none⟩), .string ⟨s.toArray⟩] V fun e w' => e = .returned (.tuple #[.int .i64 (S.loose s).1, .int .i64 (S.loose s).2]) ∧ Below V.heap.size V w') := Lib.hid fun V hV s hs => wloose1 (hTW.below hV) hK s hs
  have HML : Hid (∀ V, Below W.heap.size W V → ∀ s : Nm, s.length ≤ maxLen → Calls Tryz.prog 82 #[.pointer (some ⟨mp, 0, none⟩), .string ⟨s.toArray⟩] V fun e w' => e = .returned (.tuple #[.int .i64 (S.loose s).1, .int .i64 (S.loose s).2]) ∧ Below V.heap.size V w') := Lib.hid fun V hV s hs => mloose1 (hTW.below hV) hK s hs
  have HGS : Hid (∀ V, Calls Tryz.prog 80 #[.agg (gcells g)] V fun e w' => e = .returned (.bool li) ∧ Below V.heap.size V w') := Lib.hid fun V => by
    have := gstruck_any g V
    rw [hg.of.struck, ← hli] at this
    exact this
  have HQ : Hid (∀ V, Below W.heap.size W V → V.cell? ⟨w.heap.size, 1, none⟩ = some (.slice (some ⟨wg, 0, none⟩) 1 wc) ∧ V.cell? ⟨w.heap.size, 2, none⟩ = some (.slice (some ⟨mg, 0, none⟩) 1 mc) ∧ V.cell? ⟨wg, 0, none⟩ = some (.pointer (some ⟨q, 0, none⟩)) ∧ V.cell? ⟨mg, 0, none⟩ = some (.pointer (some ⟨mq, 0, none⟩)) ∧ V.cell? ⟨q, 0, none⟩ = some (.pointer (some ⟨p, 0, none⟩)) ∧ V.cell? ⟨mq, 0, none⟩ = some (.pointer (some ⟨mp, 0, none⟩))) := Lib.hid fun V hV => by
    have hb2 := hbl.below hV (by omega)
    have hTV := hTW.below hV
    exact ⟨hb2.cell 1, hb2.cell 2, hTV.rows.u, hTV.rows.m, hTV.heads.1, hTV.heads.2⟩
  have HNM : Hid (∀ (j : Nat) (f : File), S.image[j]? = some f → f.1.length ≤ maxLen) := Lib.hid fun j f hf => by have := image_name hK.k.drv hf; simp only [maxLen]; omega
  obtain ⟨il, hil⟩ : ∃ il, il = S.image.length := ⟨_, rfl⟩
  have hib : il ≤ 1073741824 := by rw [hil]; exact Nat.le_trans (image_len hK.k.drv) hK.k.drv.rooms
  have HIL := Lib.hid hil
  have HSL : Hid (S.image.length ≤ 2199023254000 ∧ S.safes.length ≤ 2199023254000) := Lib.hid (image_length hK.small)
  have h01 : (0 : Int) < ((1 : Nat) : Int) := by omega
  have hgd : g.d = dn := by rw [hg.of.d, hdn]
  have hgk : g.k = ca := by rw [hg.of.k, hca]
  obtain ⟨gd, ga, gpa, gpn, gpc, gk, gr, gl, gR, gC, gI⟩ := g
  simp only at hgd hgk
  subst hgd hgk
  obtain ⟨_, z1, z2, z3, z4, z5, z6, z7, z8, z9, _, hmq⟩ := hg
  simp only at z1 z2 z3 z4 z5 z6 z7 z8 z9
  have HGC : Hid (∀ V, Below W.heap.size W V → V.cell? ⟨mq, 1, none⟩ = some (.bool gd) ∧ V.cell? ⟨mq, 2, none⟩ = some (.bool ga) ∧ V.cell? ⟨mq, 3, none⟩ = some (.slice gpa gpn gpc) ∧ V.cell? ⟨mq, 4, none⟩ = some (.int .i64 gk) ∧ V.cell? ⟨mq, 5, none⟩ = some (.int .i64 gr) ∧ V.cell? ⟨mq, 6, none⟩ = some (.bool gl) ∧ V.cell? ⟨mq, 7, none⟩ = some (.int .i64 gR) ∧ V.cell? ⟨mq, 8, none⟩ = some (.int .i64 gC) ∧ V.cell? ⟨mq, 9, none⟩ = some (.int .i64 gI)) := Lib.hid fun V hV =>
    ⟨(hV.cell (p := ⟨mq, 1, none⟩) hmq).trans z1, (hV.cell (p := ⟨mq, 2, none⟩) hmq).trans z2, (hV.cell (p := ⟨mq, 3, none⟩) hmq).trans z3, (hV.cell (p := ⟨mq, 4, none⟩) hmq).trans z4, (hV.cell (p := ⟨mq, 5, none⟩) hmq).trans z5, (hV.cell (p := ⟨mq, 6, none⟩) hmq).trans z6, (hV.cell (p := ⟨mq, 7, none⟩) hmq).trans z7, (hV.cell (p := ⟨mq, 8, none⟩) hmq).trans z8, (hV.cell (p := ⟨mq, 9, none⟩) hmq).trans z9⟩
  unfold gcells at HGS
  simp only at HGS
  have t1 : ((!gd) == gd) = false := by cases gd <;> rfl
  have t2 : (li != li) = false := by simp
  have t3 : (gk != gk) = false := by simp
  have t4 : ((pl : Int) != (pl : Int)) = false := by simp
  clear hT hbW0 hbW hTW hbl hil hpl hca hdn hli hK z1 z2 z3 z4 z5 z6 z7 z8 z9
  go_enter Tryz.func30, Tryz.ntmps30
  have HSW := Lib.hid hsW
  go_wp2
  rw [← hW]
  clear hW hsW
  go_loopw [3] (fun s3 wr => (s3 = .int .i64 0 ∧ wr = W) ∨ (s3 = .int .i64 1 ∧ Below W.heap.size W wr)) (fun s3 _ => 1 - (intOf s3).toNat)
  case atStart => exact .inl ⟨rfl, rfl⟩
  case round =>
    rcases hrel with ⟨rfl, hw⟩ | ⟨rfl, hb⟩
    · have hw' := hw.symm
      clear hw
      subst hw'
      obtain ⟨y1, y2, y3, y4, y5, y6⟩ := HQ.out W (Below.refl _ _)
      go_wp2_with (first
        | (go_at_call 64; (refine (HMI.out W (Below.refl _ _)).mono ?_); rintro e w1 ⟨v1, rfl, hf1, hb1⟩; obtain ⟨a1, c1, rfl, hc1x⟩ := hf1.shape; rw [← HIL.out] at hf1 hc1x; rw [← HIL.out]; have HF1 := Lib.hid hf1; have HB1 := Lib.hid hb1; obtain ⟨y1, y2, y3, y4, y5, y6⟩ := HQ.out w1 hb1; clear hf1 hb1)
        | fail)
      have h16 := HB1.out.size
      go_region_held3 (fun w' => w'.cell? ⟨q, 0, none⟩ = some (.pointer (some ⟨p, 0, none⟩)) ∧ w'.cell? ⟨mq, 0, none⟩ = some (.pointer (some ⟨mp, 0, none⟩))) (first | (with_reducible exact HS6.out) | (with_reducible exact HS5.out) | (with_reducible exact HS4.out) | (with_reducible exact HS3.out) | (with_reducible exact HS2.out) | go_keep) ((first
        | (go_at_call 11; (refine (HIM.out _ (by first | exact HB1.out | exact below_drew1 HB1.out)).mono ?_); rintro e w2 ⟨v2, rfl, hf2, hb2⟩; obtain ⟨a2, c2, rfl, hc2x⟩ := hf2.shape; rw [← HIL.out] at hf2; rw [← HIL.out]; have HF2 := Lib.hid hf2; have hb12 : Below w1.heap.size w1 w2 := (by first | exact hb2 | exact (below_drew1 (Below.refl _ w1)).trans hb2); have HB12 := Lib.hid hb12; have hb2' : Below W.heap.size W w2 := HB1.out.trans (hb12.mono HB1.out.size); have HB2 := Lib.hid hb2'; obtain ⟨y1, y2, y3, y4, y5, y6⟩ := HQ.out w2 hb2'; have HS2 := Lib.hid (And.intro y5 y6); clear hf2 hb2 hb12 hb2' y1 y2 y3 y4 y5 y6)
        | (go_at_call 29; have j := files_any (.slice az ns cs) (.slice am nm cm) S.safes S.safes _ _ w5 HFS5.out HFM.out HSL.out.2; rw [decide_eq_true rfl] at j; with_reducible refine j.mono ?_; clear j; rintro e w6 ⟨rfl, n6, hn6⟩; have hb6 : Below W.heap.size W w6 := (by rw [hn6]; exact below_drewN HB5.out n6); have HB6 := Lib.hid hb6; have HB16 : Hid (Below w1.heap.size w1 w6) := Lib.hid (by rw [hn6]; exact below_drewN HB15.out n6); obtain ⟨y1, y2, y3, y4, y5, y6⟩ := HQ.out w6 hb6; have HS6 := Lib.hid (And.intro y5 y6); clear hb6 hn6 y1 y2 y3 y4 y5 y6)
        | (go_at_call 29; have j := files_any (.slice a2 il c2) (.slice a1 il c1) S.image S.image _ _ w2 HF2.out (HF1.out.below HB12.out) HSL.out.1; rw [decide_eq_true rfl] at j; with_reducible refine j.mono ?_; clear j; rintro e w3 ⟨rfl, n3, hn3⟩; have hb3 : Below W.heap.size W w3 := (by rw [hn3]; exact below_drewN HB2.out n3); have HB13 : Hid (Below w1.heap.size w1 w3) := Lib.hid (by rw [hn3]; exact below_drewN HB12.out n3); have HB3 := Lib.hid hb3; obtain ⟨y1, y2, y3, y4, y5, y6⟩ := HQ.out w3 hb3; have HS3 := Lib.hid (And.intro y5 y6); clear hb3 hn3 y1 y2 y3 y4 y5 y6)
        | (go_at_call 75; (refine (HSA.out w3 HB3.out).mono ?_); rintro e w4 ⟨vs, rfl, hfs, hb4⟩; obtain ⟨az, cs, rfl, _⟩ := hfs.shape; generalize hns : S.safes.length = ns at hfs ⊢; have HFS := Lib.hid hfs; have HB34 := Lib.hid hb4; have hb4' : Below W.heap.size W w4 := HB3.out.trans (hb4.mono HB3.out.size); have HB4 := Lib.hid hb4'; have HB14 : Hid (Below w1.heap.size w1 w4) := Lib.hid (HB13.out.trans (hb4.mono HB13.out.size)); obtain ⟨y1, y2, y3, y4, y5, y6⟩ := HQ.out w4 hb4'; have HS4 := Lib.hid (And.intro y5 y6); clear hfs hb4 hb4' hns y1 y2 y3 y4 y5 y6)
        | (go_at_call 76; (refine (HMS.out w4 HB4.out).mono ?_); rintro e w5 ⟨vm, rfl, hfm, hb5⟩; obtain ⟨am, cm, rfl, _⟩ := hfm.shape; generalize hnm : S.safes.length = nm at hfm ⊢; have HFM := Lib.hid hfm; have HFS5 := Lib.hid (HFS.out.below hb5); have hb5' : Below W.heap.size W w5 := HB4.out.trans (hb5.mono HB4.out.size); have HB5 := Lib.hid hb5'; have HB15 : Hid (Below w1.heap.size w1 w5) := Lib.hid (HB14.out.trans (hb5.mono HB14.out.size)); obtain ⟨y1, y2, y3, y4, y5, y6⟩ := HQ.out w5 hb5'; have HS5 := Lib.hid (And.intro y5 y6); clear hfm hb5 hb5' hnm y1 y2 y3 y4 y5 y6)
        | (go_at_call 77; (refine (HWP.out w6 HB6.out).mono ?_); rintro e w' ⟨rfl, rfl⟩)
        | (go_at_call 78; (refine (HMP.out w6 HB6.out).mono ?_); rintro e w' ⟨rfl, rfl⟩)
        | fail))
      go_wp2
      have HS10 := Lib.hid (HGC.out w6 HB6.out)
      obtain ⟨x1, x2, x3, x4, x5, x6, x7, x8, x9⟩ := HGC.out w6 HB6.out
      go_region_held3 (fun V => V.cell? ⟨mq, 1, none⟩ = some (.bool gd) ∧ V.cell? ⟨mq, 2, none⟩ = some (.bool ga) ∧ V.cell? ⟨mq, 3, none⟩ = some (.slice gpa gpn gpc) ∧ V.cell? ⟨mq, 4, none⟩ = some (.int .i64 gk) ∧ V.cell? ⟨mq, 5, none⟩ = some (.int .i64 gr) ∧ V.cell? ⟨mq, 6, none⟩ = some (.bool gl) ∧ V.cell? ⟨mq, 7, none⟩ = some (.int .i64 gR) ∧ V.cell? ⟨mq, 8, none⟩ = some (.int .i64 gC) ∧ V.cell? ⟨mq, 9, none⟩ = some (.int .i64 gI)) (first | (with_reducible exact HS7.out) | (with_reducible exact HS10.out) | go_keep) ((first
        | (go_at_call 26; (refine (HCA.out _ (by first | exact HB6.out | exact below_drew1 HB6.out)).mono ?_); rintro e w' ⟨rfl, rfl⟩)
        | (go_at_call 79; (refine (HON.out _ (by first | exact HB6.out | exact below_drew1 HB6.out)).mono ?_); rintro e w' ⟨rfl, rfl⟩)
        | (go_at_call 45; (refine (HLI.out _ (by first | exact HB6.out | exact below_drew1 HB6.out)).mono ?_); rintro e w' ⟨rfl, rfl⟩)
        | (go_at_call 80; (refine (HGS.out _).mono ?_); rintro e w7 ⟨rfl, hb7⟩; have hb7' : Below W.heap.size W w7 := (by first | exact HB6.out.trans (hb7.mono HB6.out.size) | exact (below_drew1 HB6.out).trans (hb7.mono HB6.out.size)); have HB7 := Lib.hid hb7'; have HB17 : Hid (Below w1.heap.size w1 w7) := Lib.hid (by first | exact HB16.out.trans (hb7.mono HB16.out.size) | exact (below_drew1 HB16.out).trans (hb7.mono HB16.out.size)); have HS7 := Lib.hid (HGC.out w7 hb7'); clear hb7 hb7')
        | fail))
      go_wp2
      have HF7 := Lib.hid (HF1.out.below HB17.out)
      clear x1 x2 x3 x4 x5 x6 x7 x8 x9 y1 y2 y3 y4 y5 y6 t1 t2 t3 t4
      go_loopw [7] (fun s7 wr => ∃ j : Nat, j ≤ il ∧ s7 = .int .i64 j ∧ Below W.heap.size W wr ∧ FilesAt wr W.heap.size (.slice a1 il c1) S.image) (fun s7 _ => il - (intOf s7).toNat)
      case atStart => exact ⟨0, Nat.zero_le _, rfl, HB7.out, HF7.out⟩
      case round =>
        obtain ⟨j, hj, rfl, hb8, hf8⟩ := hrel
        have HB8 := Lib.hid hb8
        have HF8 := Lib.hid hf8
        by_cases hlt : j < il
        · obtain ⟨f, hf⟩ : ∃ f, S.image[j]? = some f := ⟨_, List.getElem?_eq_getElem (by rw [← HIL.out]; exact hlt)⟩
          obtain ⟨ga1, xa, xd, rfl, x0, _, _, _⟩ := hf8.at_ HIL.out hf
          obtain ⟨f1, f2⟩ := f
          simp only [strV] at x0
          have HNF := Lib.hid (HNM.out _ _ hf)
          have HXC : Hid (∀ V, Below wr.heap.size wr V → V.cell? ⟨ga1, j * 2, none⟩ = some (.string ⟨f1.toArray⟩)) := Lib.hid fun V hV => by
            obtain ⟨g', xa', xd', e', x0', _, _, _⟩ := (hf8.below hV).at_ HIL.out hf
            injection e' with e'
            injection e' with e'
            first | subst e' | (injection e' with e'; subst e')
            exact x0'
          obtain ⟨lo, hlo⟩ : ∃ lo, lo = (S.loose f1).1 := ⟨_, rfl⟩
          obtain ⟨le, hle⟩ : ∃ le, le = (S.loose f1).2 := ⟨_, rfl⟩
          have HLO1 : Hid (∀ V, Below W.heap.size W V → Calls Tryz.prog 81 #[.pointer (some ⟨p, 0, none⟩), .string ⟨f1.toArray⟩] V fun e w' => e = .returned (.tuple #[.int .i64 lo, .int .i64 le]) ∧ Below V.heap.size V w') := Lib.hid fun V hV => by rw [hlo, hle]; exact HLO.out V hV f1 HNF.out
          have HML1 : Hid (∀ V, Below W.heap.size W V → Calls Tryz.prog 82 #[.pointer (some ⟨mp, 0, none⟩), .string ⟨f1.toArray⟩] V fun e w' => e = .returned (.tuple #[.int .i64 lo, .int .i64 le]) ∧ Below V.heap.size V w') := Lib.hid fun V hV => by rw [hlo, hle]; exact HML.out V hV f1 HNF.out
          obtain ⟨y1, y2, y3, y4, y5, y6⟩ := HQ.out wr hb8
          have i0 : (0 : Int) ≤ (j : Int) := by omega
          have i1 : (j : Int) < (il : Int) := by omega
          have t5 : (lo != lo) = false := by simp
          have t6 : (le != le) = false := by simp
          clear hf hb8 hf8 hlo hle
          go_wp2
          go_region_held3 (fun V => V.cell? ⟨q, 0, none⟩ = some (.pointer (some ⟨p, 0, none⟩)) ∧ V.cell? ⟨ga1, j * 2, none⟩ = some (.string ⟨f1.toArray⟩)) (first | (with_reducible exact HS9.out) | go_keep) ((first
            | (go_at_call 81; (refine (HLO1.out _ (by first | exact HB8.out | exact below_drew1 HB8.out)).mono ?_); rintro e w9 ⟨rfl, hb9⟩; have hb89 : Below wr.heap.size wr w9 := (by first | exact hb9 | exact (below_drew1 (Below.refl _ wr)).trans hb9); have hb9' : Below W.heap.size W w9 := HB8.out.trans (hb89.mono HB8.out.size); have HB9 := Lib.hid hb9'; have HB89 := Lib.hid hb89; obtain ⟨y1, y2, y3, y4, y5, y6⟩ := HQ.out w9 hb9'; have xc9 := HXC.out w9 hb89; have HS9 := Lib.hid (And.intro y5 xc9); have HY9 := Lib.hid (And.intro y6 xc9); clear hb9 hb89 hb9' y1 y2 y3 y4 y5 y6 xc9)
            | fail))
          go_wp2
          obtain ⟨y7, y8⟩ := HY9.out
          go_region_held3 (fun V => V.cell? ⟨mq, 0, none⟩ = some (.pointer (some ⟨mp, 0, none⟩)) ∧ V.cell? ⟨ga1, j * 2, none⟩ = some (.string ⟨f1.toArray⟩)) (first | (with_reducible exact HSA_.out) | go_keep) ((first
            | (go_at_call 82; (refine (HML1.out _ (by first | exact HB9.out | exact below_drew1 HB9.out)).mono ?_); rintro e wa ⟨rfl, hba⟩; have hb9a : Below w9.heap.size w9 wa := (by first | exact hba | exact (below_drew1 (Below.refl _ w9)).trans hba); have hb8a : Below wr.heap.size wr wa := HB89.out.trans (hb9a.mono HB89.out.size); have hba' : Below W.heap.size W wa := HB8.out.trans (hb8a.mono HB8.out.size); have HBA := Lib.hid hba'; obtain ⟨y1, y2, y3, y4, y5, y6⟩ := HQ.out wa hba'; have xca := HXC.out wa hb8a; have HSA_ := Lib.hid (And.intro y6 xca); have HFA := Lib.hid (HF8.out.below hb8a); clear hba hb9a hb8a hba' y1 y2 y3 y4 y5 y6 xca)
            | fail))
          go_wp2
          exact ⟨⟨j + 1, by omega, by go_num, HBA.out, HFA.out⟩, by simp only [intOf]; omega⟩
        · have hjl : j = il := by omega
          subst hjl
          clear hb8 hf8
          go_wp2
          exact ⟨.inr ⟨rfl, HB8.out⟩, by simp [intOf]⟩
    · obtain ⟨y1, y2, y3, y4, y5, y6⟩ := HQ.out wr hb
      have HBE := Lib.hid (HBW.out.trans (hb.mono (by have := HSW.out; omega)))
      clear hb
      go_wp2
      go_ret
      exact ⟨rfl, HBE.out⟩
end Go.Proofs.YtdmcjomcbhdcbaaGreat
