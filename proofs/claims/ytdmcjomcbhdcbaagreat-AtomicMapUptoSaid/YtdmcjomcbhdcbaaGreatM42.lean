/- Acts over a world whose two drives are not alike; the end of a round. (Printed by gen_Va.py.); Any act that harms no file, over a world whose two drives are not alike.; The book of what each name may come to, plainly; what writings, removals, sweeps and losses of power do to what it allows. No program. -/
import Derived.Test.YtdmcjomcbhdcbaaGreatM41
import Derived.Test.YtdmcjomcbhdcbaaGreatM35
import Derived.Test.YtdmcjomcbhdcbaaGreatM37
import Derived.Test.YtdmcjomcbhdcbaaGreatM40
namespace Go.Proofs.YtdmcjomcbhdcbaaGreat
open Go.RowKit Go.Maps

set_option maxRecDepth 100000 in
set_option maxHeartbeats 4000000 in
theorem do_off2 (w : World) (h dg dc wg wc mg mc q p mq mp : Nat) (Av : Nat → Prop) (X Y : Wnd) (S T : Drv) (hT : World1 w h Av dg wg mg q p mq mp X S Y T) (hh : h ≤ w.heap.size) (hcap : Caps dc wc mc) (x : PAct) (L : ALay) (hk : x.kind = 5) :
    Calls Tryz.prog 23 #[bothV dg dc wg wc mg mc, .agg (actCells x L)] w fun e w' => e = .returned (.tuple #[]) ∧ World1 w' h Av dg wg mg q p mq mp { X with down := true } S { Y with down := true } T ∧ Touch (fr h Av) w w' := by
  have hTW0 : ∀ o1 o2, World1 ((w.alloc o1).alloc o2) h (fun k => Av k ∨ (w.heap.size ≤ k ∧ k < w.heap.size + 2)) dg wg mg q p mq mp X S Y T := fun o1 o2 => by
    have := hT.boxed (w1 := (w.alloc o1).alloc o2) (((Below.refl _ w).alloc (Nat.le_refl _) _).alloc (by simp) _)
    rw [show ((w.alloc o1).alloc o2).heap.size = w.heap.size + 2 by simp] at this; exact this
  have HPOW : Hid (∀ o1 o2, Calls Tryz.prog 54 #[bothV dg dc wg wc mg mc, .int .i64 0, .agg (actCells x L)] ((w.alloc o1).alloc o2) fun e w' => e = .returned (.tuple #[]) ∧ World1 w' h (fun k => Av k ∨ (w.heap.size ≤ k ∧ k < w.heap.size + 2)) dg wg mg q p mq mp { X with down := true } S { Y with down := true } T ∧ Touch (fr h (fun k => Av k ∨ (w.heap.size ≤ k ∧ k < w.heap.size + 2))) ((w.alloc o1).alloc o2) w') := Lib.hid fun o1 o2 => power_off2 _ h dg dc wg wc mg mc q p mq mp _ X Y S T (hTW0 o1 o2) (by simp; omega) hcap x L hk
  obtain ⟨kind, place, at_, n, data, plan, R, C, I⟩ := x
  obtain ⟨da, dcc, pa, pc, fa, fn, fc⟩ := L
  simp only at hk
  subst hk
  unfold bothV actCells at HPOW
  unfold bothV actCells
  simp only at HPOW ⊢
  obtain ⟨hc1, hc2, hc3⟩ := hcap
  have HT := Lib.hid hT
  have h01 : (0 : Int) < ((1 : Nat) : Int) := by omega
  have HTW := Lib.hid hTW0
  clear hT hTW0
  go_enter Tryz.func23, Tryz.ntmps23
  go_wp2
  refine wp_world fun W hW => ?_
  have HPW := HPOW.out (.cells #[.slice (some ⟨dg, 0, none⟩) 1 dc, .slice (some ⟨wg, 0, none⟩) 1 wc, .slice (some ⟨mg, 0, none⟩) 1 mc] 36) (.cells #[.int .i64 5, .int .i64 place, .int .i64 at_, .int .i64 n, .slice da data.length dcc, .slice pa plan.length pc, .int .i64 R, .int .i64 C, .int .i64 I, .slice fa fn fc] 59)
  rw [← hW] at HPW
  have HPX := Lib.hid HPW
  have hbW : Below w.heap.size w W := by rw [hW]; exact ((Below.refl _ w).alloc (Nat.le_refl _) _).alloc (by simp) _
  have hsW : W.heap.size = w.heap.size + 2 := by rw [hW]; simp
  have hB0 : Blk W w.heap.size 36 #[.slice (some ⟨dg, 0, none⟩) 1 dc, .slice (some ⟨wg, 0, none⟩) 1 wc, .slice (some ⟨mg, 0, none⟩) 1 mc] := by rw [hW]; exact (blk_last w _ _ _ rfl).alloc _
  have hA0 : Blk W (w.heap.size + 1) 59 #[.int .i64 5, .int .i64 place, .int .i64 at_, .int .i64 n, .slice da data.length dcc, .slice pa plan.length pc, .int .i64 R, .int .i64 C, .int .i64 I, .slice fa fn fc] := by rw [hW]; exact blk_last _ _ _ _ (by simp)
  have HBW := Lib.hid hbW
  have HB0 : Hid (∀ Z, Touch (fr h (fun k => Av k ∨ (w.heap.size ≤ k ∧ k < w.heap.size + 2))) W Z → Z.cell? ⟨w.heap.size, 0, none⟩ = some (.slice (some ⟨dg, 0, none⟩) 1 dc) ∧ Z.cell? ⟨w.heap.size, 1, none⟩ = some (.slice (some ⟨wg, 0, none⟩) 1 wc) ∧ Z.cell? ⟨w.heap.size, 2, none⟩ = some (.slice (some ⟨mg, 0, none⟩) 1 mc)) := Lib.hid fun Z hZ => by
    have e : Z.heap[w.heap.size]? = W.heap[w.heap.size]? := fr_av hZ (.inr (by omega)) (by omega)
    have hb2 : Blk Z w.heap.size 36 _ := e.trans hB0
    exact ⟨hb2.cell 0, hb2.cell 1, hb2.cell 2⟩
  have a0 := hA0.cell 0
  have a1 := hA0.cell 1
  have a2 := hA0.cell 2
  have a3 := hA0.cell 3
  have a4 := hA0.cell 4
  have a5 := hA0.cell 5
  have a6 := hA0.cell 6
  have a7 := hA0.cell 7
  have a8 := hA0.cell 8
  have a9 := hA0.cell 9
  simp at a0 a1 a2 a3 a4 a5 a6 a7 a8 a9
  clear HPW hW hbW hsW hB0 hA0
  go_loopw [4] (fun s4 wr => (s4 = .int .i64 0 ∧ wr = W) ∨ (s4 = .int .i64 1 ∧ World1 wr h (fun k => Av k ∨ (w.heap.size ≤ k ∧ k < w.heap.size + 2)) dg wg mg q p mq mp { X with down := true } S { Y with down := true } T ∧ Touch (fr h (fun k => Av k ∨ (w.heap.size ≤ k ∧ k < w.heap.size + 2))) W wr)) (fun s4 _ => 1 - (intOf s4).toNat)
  case atStart => exact .inl ⟨rfl, rfl⟩
  case round =>
    rcases hrel with ⟨rfl, rfl⟩ | ⟨rfl, hT2, ht2⟩
    · obtain ⟨b0, b1, b2⟩ := HB0.out wr (Touch.refl _ _)
      go_wp2_with (go_at_call 54; refine HPX.out.mono ?_; rintro e w3 ⟨rfl, h3, t3⟩; have HT3 := Lib.hid h3; have HTT3 := Lib.hid t3; clear h3 t3)
      exact ⟨.inr ⟨rfl, HT3.out, HTT3.out⟩, by simp [intOf]⟩
    · obtain ⟨b0, b1, b2⟩ := HB0.out wr ht2
      have HE := Lib.hid (World1.end_ hT2 ht2 HBW.out (fun k hk => .inl hk) HT.out.avd)
      clear hT2 ht2
      go_wp2
      exact bodyPost_ret (v := .tuple #[]) (by simp only [results, Tryz.results23]; go_simp) rfl ⟨rfl, HE.out.1, HE.out.2⟩

set_option maxRecDepth 100000 in
set_option maxHeartbeats 4000000 in
theorem do_on2 (w : World) (h dg dc wg wc mg mc q p mq mp : Nat) (Av : Nat → Prop) (X Y : Wnd) (S T : Drv) (hT : World1 w h Av dg wg mg q p mq mp X S Y T) (hh : h ≤ w.heap.size) (hcap : Caps dc wc mc) (x : PAct) (L : ALay) (hk : x.kind = 6) {k N r : Nat} (hK : KeptM X S k N r) {k2 N2 r2 : Nat} (hK2 : KeptM Y T k2 N2 r2) (pr : Option Addr) (nd cr : Nat) (dirs : List Bool) (pcu : Option Addr) (nc cc : Nat) (cuts : List Int) (hf : FateLow w h Av L.fa L.fn L.fc pr nd cr dirs pcu nc cc cuts) (hncs : nc ≤ 1099511627776) :
    Calls Tryz.prog 23 #[bothV dg dc wg wc mg mc, .agg (actCells x L)] w fun e w' => e = .returned (.tuple #[]) ∧ World1 w' h Av dg wg mg q p mq mp { X with down := false } (S.crash dirs cuts) { Y with down := false } (T.crash dirs cuts) ∧ Touch (fr h Av) w w' := by
  have hTW0 : ∀ o1 o2, World1 ((w.alloc o1).alloc o2) h (fun k => Av k ∨ (w.heap.size ≤ k ∧ k < w.heap.size + 2)) dg wg mg q p mq mp X S Y T := fun o1 o2 => by
    have := hT.boxed (w1 := (w.alloc o1).alloc o2) (((Below.refl _ w).alloc (Nat.le_refl _) _).alloc (by simp) _)
    rw [show ((w.alloc o1).alloc o2).heap.size = w.heap.size + 2 by simp] at this; exact this
  have HPOW : Hid (∀ o1 o2, Calls Tryz.prog 54 #[bothV dg dc wg wc mg mc, .int .i64 0, .agg (actCells x L)] ((w.alloc o1).alloc o2) fun e w' => e = .returned (.tuple #[]) ∧ World1 w' h (fun k => Av k ∨ (w.heap.size ≤ k ∧ k < w.heap.size + 2)) dg wg mg q p mq mp { X with down := false } (S.crash dirs cuts) { Y with down := false } (T.crash dirs cuts) ∧ Touch (fr h (fun k => Av k ∨ (w.heap.size ≤ k ∧ k < w.heap.size + 2))) ((w.alloc o1).alloc o2) w') := Lib.hid fun o1 o2 => power_on2 _ h dg dc wg wc mg mc q p mq mp _ X Y S T (hTW0 o1 o2) (by simp; omega) hcap x L hk hK hK2 pr nd cr dirs pcu nc cc cuts (hf.below (((Below.refl _ w).alloc (Nat.le_refl _) _).alloc (by simp) _) _) hncs
  obtain ⟨kind, place, at_, n, data, plan, R, C, I⟩ := x
  obtain ⟨da, dcc, pa, pc, fa, fn, fc⟩ := L
  simp only at hk
  subst hk
  unfold bothV actCells at HPOW
  unfold bothV actCells
  simp only at HPOW ⊢
  obtain ⟨hc1, hc2, hc3⟩ := hcap
  have HT := Lib.hid hT
  have h01 : (0 : Int) < ((1 : Nat) : Int) := by omega
  have HTW := Lib.hid hTW0
  clear hT hTW0 hf hncs
  go_enter Tryz.func23, Tryz.ntmps23
  go_wp2
  refine wp_world fun W hW => ?_
  have HPW := HPOW.out (.cells #[.slice (some ⟨dg, 0, none⟩) 1 dc, .slice (some ⟨wg, 0, none⟩) 1 wc, .slice (some ⟨mg, 0, none⟩) 1 mc] 36) (.cells #[.int .i64 6, .int .i64 place, .int .i64 at_, .int .i64 n, .slice da data.length dcc, .slice pa plan.length pc, .int .i64 R, .int .i64 C, .int .i64 I, .slice fa fn fc] 59)
  rw [← hW] at HPW
  have HPX := Lib.hid HPW
  have hbW : Below w.heap.size w W := by rw [hW]; exact ((Below.refl _ w).alloc (Nat.le_refl _) _).alloc (by simp) _
  have hsW : W.heap.size = w.heap.size + 2 := by rw [hW]; simp
  have hB0 : Blk W w.heap.size 36 #[.slice (some ⟨dg, 0, none⟩) 1 dc, .slice (some ⟨wg, 0, none⟩) 1 wc, .slice (some ⟨mg, 0, none⟩) 1 mc] := by rw [hW]; exact (blk_last w _ _ _ rfl).alloc _
  have hA0 : Blk W (w.heap.size + 1) 59 #[.int .i64 6, .int .i64 place, .int .i64 at_, .int .i64 n, .slice da data.length dcc, .slice pa plan.length pc, .int .i64 R, .int .i64 C, .int .i64 I, .slice fa fn fc] := by rw [hW]; exact blk_last _ _ _ _ (by simp)
  have HBW := Lib.hid hbW
  have HB0 : Hid (∀ Z, Touch (fr h (fun k => Av k ∨ (w.heap.size ≤ k ∧ k < w.heap.size + 2))) W Z → Z.cell? ⟨w.heap.size, 0, none⟩ = some (.slice (some ⟨dg, 0, none⟩) 1 dc) ∧ Z.cell? ⟨w.heap.size, 1, none⟩ = some (.slice (some ⟨wg, 0, none⟩) 1 wc) ∧ Z.cell? ⟨w.heap.size, 2, none⟩ = some (.slice (some ⟨mg, 0, none⟩) 1 mc)) := Lib.hid fun Z hZ => by
    have e : Z.heap[w.heap.size]? = W.heap[w.heap.size]? := fr_av hZ (.inr (by omega)) (by omega)
    have hb2 : Blk Z w.heap.size 36 _ := e.trans hB0
    exact ⟨hb2.cell 0, hb2.cell 1, hb2.cell 2⟩
  have a0 := hA0.cell 0
  have a1 := hA0.cell 1
  have a2 := hA0.cell 2
  have a3 := hA0.cell 3
  have a4 := hA0.cell 4
  have a5 := hA0.cell 5
  have a6 := hA0.cell 6
  have a7 := hA0.cell 7
  have a8 := hA0.cell 8
  have a9 := hA0.cell 9
  simp at a0 a1 a2 a3 a4 a5 a6 a7 a8 a9
  clear HPW hW hbW hsW hB0 hA0
  go_loopw [4] (fun s4 wr => (s4 = .int .i64 0 ∧ wr = W) ∨ (s4 = .int .i64 1 ∧ World1 wr h (fun k => Av k ∨ (w.heap.size ≤ k ∧ k < w.heap.size + 2)) dg wg mg q p mq mp { X with down := false } (S.crash dirs cuts) { Y with down := false } (T.crash dirs cuts) ∧ Touch (fr h (fun k => Av k ∨ (w.heap.size ≤ k ∧ k < w.heap.size + 2))) W wr)) (fun s4 _ => 1 - (intOf s4).toNat)
  case atStart => exact .inl ⟨rfl, rfl⟩
  case round =>
    rcases hrel with ⟨rfl, rfl⟩ | ⟨rfl, hT2, ht2⟩
    · obtain ⟨b0, b1, b2⟩ := HB0.out wr (Touch.refl _ _)
      go_wp2_with (go_at_call 54; refine HPX.out.mono ?_; rintro e w3 ⟨rfl, h3, t3⟩; have HT3 := Lib.hid h3; have HTT3 := Lib.hid t3; clear h3 t3)
      exact ⟨.inr ⟨rfl, HT3.out, HTT3.out⟩, by simp [intOf]⟩
    · obtain ⟨b0, b1, b2⟩ := HB0.out wr ht2
      have HE := Lib.hid (World1.end_ hT2 ht2 HBW.out (fun k hk => .inl hk) HT.out.avd)
      clear hT2 ht2
      go_wp2
      exact bodyPost_ret (v := .tuple #[]) (by simp only [results, Tryz.results23]; go_simp) rfl ⟨rfl, HE.out.1, HE.out.2⟩

set_option maxRecDepth 100000 in
set_option maxHeartbeats 4000000 in
theorem do_other2 (w : World) (h dg dc wg wc mg mc q p mq mp : Nat) (Av : Nat → Prop) (X Y : Wnd) (S T : Drv) (hT : World1 w h Av dg wg mg q p mq mp X S Y T) (hcap : Caps dc wc mc) (x : PAct) (L : ALay) (hk : x.kind ≠ 1 ∧ x.kind ≠ 2 ∧ x.kind ≠ 3 ∧ x.kind ≠ 4 ∧ x.kind ≠ 5 ∧ x.kind ≠ 6 ∧ x.kind ≠ 7 ∧ x.kind ≠ 8 ∧ x.kind ≠ 9) :
    Calls Tryz.prog 23 #[bothV dg dc wg wc mg mc, .agg (actCells x L)] w fun e w' => e = .returned (.tuple #[]) ∧ World1 w' h Av dg wg mg q p mq mp X S Y T ∧ Touch (fr h Av) w w' := by
  obtain ⟨kind, place, at_, n, data, plan, R, C, I⟩ := x
  obtain ⟨da, dcc, pa, pc, fa, fn, fc⟩ := L
  simp only at hk
  obtain ⟨k1, k2, k3, k4, k5, k6, k7, k8, k9⟩ := hk
  have e1 : (kind == 1) = false := by simpa using k1
  have e2 : (kind == 2) = false := by simpa using k2
  have e3 : (kind == 3) = false := by simpa using k3
  have e4 : (kind == 4) = false := by simpa using k4
  have e5 : (kind == 5) = false := by simpa using k5
  have e6 : (kind == 6) = false := by simpa using k6
  have e7 : (kind == 7) = false := by simpa using k7
  have e8 : (kind == 8) = false := by simpa using k8
  have e9 : (kind == 9) = false := by simpa using k9
  unfold bothV actCells
  simp only
  obtain ⟨hc1, hc2, hc3⟩ := hcap
  have HT := Lib.hid hT
  have hr := hT.rows
  obtain ⟨r1, r2, r3, l1, l2, l3⟩ := hr
  have h01 : (0 : Int) < ((1 : Nat) : Int) := by omega
  have HPK := Lib.hid pick_one
  clear hT k1 k2 k3 k4 k5 k6 k7 k8 k9
  go_enter Tryz.func23, Tryz.ntmps23
  go_wp2_with (go_at_call 55; refine (HPK.out _ _).mono ?_; rintro e w' ⟨rfl, rfl⟩)
  have HB : Hid (∀ o1 o2, Below w.heap.size w ((w.alloc o1).alloc o2)) := Lib.hid fun o1 o2 => ((Below.refl _ w).alloc (Nat.le_refl _) _).alloc (by simp) _
  go_end0
  exact ⟨rfl, HT.out.below (HB.out _ _), Touch.of_below (HB.out _ _)⟩
set_option maxRecDepth 100000 in
set_option maxHeartbeats 4000000 in
theorem brest2 (w : World) (h dg dc wg wc mg mc q p mq mp : Nat) (Av : Nat → Prop) (X Y : Wnd) (S T : Drv) (hT : World1 w h Av dg wg mg q p mq mp X S Y T) (hh : h ≤ w.heap.size) (hX : X.Ok) (hY : Y.Ok) (hcap : Caps dc wc mc) :
    Calls Tryz.prog 22 #[bothV dg dc wg wc mg mc] w fun e w' => e = .returned (.tuple #[]) ∧ World1 w' h Av dg wg mg q p mq mp (X.rest Y.lit) S (Y.rest Y.lit) T ∧ Touch (fr h Av) w w' := by
  obtain ⟨l, hl⟩ : ∃ l, l = Y.lit := ⟨_, rfl⟩
  rw [← hl]
  have HLT := Lib.hid hl
  have HT := Lib.hid hT
  obtain ⟨hc1, hc2, hc3⟩ := hcap
  have h01 : (0 : Int) < ((1 : Nat) : Int) := by omega
  clear hT hl
  unfold bothV
  go_enter Tryz.func22, Tryz.ntmps22
  go_wp2
  refine wp_world fun W hW => ?_
  have hbW : Below w.heap.size w W := by rw [hW]; exact (Below.refl _ w).alloc (Nat.le_refl _) _
  have hsW : W.heap.size = w.heap.size + 1 := by rw [hW]; simp
  have hbl : Blk W w.heap.size 36 #[.slice (some ⟨dg, 0, none⟩) 1 dc, .slice (some ⟨wg, 0, none⟩) 1 wc, .slice (some ⟨mg, 0, none⟩) 1 mc] := by rw [hW]; exact blk_last _ _ _ _ rfl
  have hTW := HT.out.boxed hbW
  rw [hsW] at hTW
  have HBW := Lib.hid hbW
  have HQ : Hid (∀ Z, Touch (fr h fun k => Av k ∨ w.heap.size ≤ k ∧ k < w.heap.size + 1) W Z → Z.cell? ⟨w.heap.size, 1, none⟩ = some (.slice (some ⟨wg, 0, none⟩) 1 wc) ∧ Z.cell? ⟨w.heap.size, 2, none⟩ = some (.slice (some ⟨mg, 0, none⟩) 1 mc) ∧ Z.cell? ⟨wg, 0, none⟩ = some (.pointer (some ⟨q, 0, none⟩)) ∧ Z.cell? ⟨mg, 0, none⟩ = some (.pointer (some ⟨mq, 0, none⟩))) := Lib.hid fun Z hZ => by
    have e : Z.heap[w.heap.size]? = W.heap[w.heap.size]? := fr_av hZ (.inr (by omega)) (by omega)
    have hb2 : Blk Z w.heap.size 36 _ := e.trans hbl
    have r := hTW.rows
    exact ⟨hb2.cell 1, hb2.cell 2, (World.cell?_of_block (fr_av hZ (hTW.avd _ (.inr (.inl rfl))) r.ul)).trans r.u, (World.cell?_of_block (fr_av hZ (hTW.avd _ (.inr (.inr rfl))) r.ml)).trans r.m⟩
  have HTW := Lib.hid hTW
  have hhW : h ≤ W.heap.size := by omega
  have HS : Hid (∀ V, Below W.heap.size W V → Calls Tryz.prog 52 #[.pointer (some ⟨mq, 0, none⟩)] V fun e w' => e = .returned (.bool l) ∧ Below W.heap.size V w') := Lib.hid fun V hV => by
    refine (mstruck1 (HTW.out.below hV)).mono ?_
    rintro e w' ⟨he, hb⟩
    exact ⟨by rw [HLT.out]; exact he, hb.mono hV.size⟩
  have HR : Hid (∀ V, Below W.heap.size W V → Calls Tryz.prog 12 #[.pointer (some ⟨q, 0, none⟩), .bool l] V fun e w' => e = .returned (.tuple #[]) ∧ World1 w' h (fun k => Av k ∨ w.heap.size ≤ k ∧ k < w.heap.size + 1) dg wg mg q p mq mp (X.rest l) S Y T ∧ Touch (fr h fun k => Av k ∨ w.heap.size ≤ k ∧ k < w.heap.size + 1) W w') := Lib.hid fun V hV => by
    refine (wrest1 (HTW.out.below hV) (Nat.le_trans hhW hV.size) hX l).mono ?_
    rintro e w' ⟨he, h1, h2⟩
    exact ⟨he, h1, (Touch.of_below hV).then_ h2⟩
  clear hW hbW hbl hTW
  go_loopw [2, 3] (fun s2 s3 wr => (s3 = .int .i64 0 ∧ s2 = .bool false ∧ Below W.heap.size W wr) ∨ (s3 = .int .i64 1 ∧ s2 = .bool l ∧ Below W.heap.size W wr)) (fun _ s3 _ => 1 - (intOf s3).toNat)
  case atStart => exact .inl ⟨rfl, rfl, Below.refl _ _⟩
  case round =>
    rcases hrel with ⟨rfl, rfl, hb⟩ | ⟨rfl, rfl, hb⟩
    · have HB := Lib.hid hb
      obtain ⟨c1, c2, c3, c4⟩ := HQ.out _ (Touch.of_below hb)
      clear hb
      cases l
      all_goals
        go_wp2_with (go_at_call 52; refine (HS.out _ HB.out).mono ?_; rintro e w1 ⟨rfl, hb1⟩; have HB1 := Lib.hid (HB.out.trans hb1); clear hb1)
        exact ⟨.inr ⟨rfl, rfl, HB1.out⟩, by simp [intOf]⟩
    · have HB := Lib.hid hb
      obtain ⟨c1, c2, c3, c4⟩ := HQ.out _ (Touch.of_below hb)
      clear hb
      go_wp2
      go_loopw [4] (fun s4 wr2 => (s4 = .int .i64 0 ∧ Below W.heap.size W wr2) ∨ (s4 = .int .i64 1 ∧ World1 wr2 h (fun k => Av k ∨ w.heap.size ≤ k ∧ k < w.heap.size + 1) dg wg mg q p mq mp (X.rest l) S Y T ∧ Touch (fr h fun k => Av k ∨ w.heap.size ≤ k ∧ k < w.heap.size + 1) W wr2)) (fun s4 _ => 1 - (intOf s4).toNat)
      case atStart => exact .inl ⟨rfl, HB.out⟩
      case round =>
        clear c1 c2 c3 c4
        rcases hrel with ⟨rfl, hb⟩ | ⟨rfl, hT2, ht2⟩
        · have HB2 := Lib.hid hb
          obtain ⟨c1, c2, c3, c4⟩ := HQ.out _ (Touch.of_below hb)
          clear hb
          go_wp2_with (go_at_call 12; refine (HR.out _ HB2.out).mono ?_; rintro e w1 ⟨rfl, hT1, ht1⟩; have HT1 := Lib.hid hT1; have HTT1 := Lib.hid ht1; clear hT1 ht1)
          exact ⟨.inr ⟨rfl, HT1.out, HTT1.out⟩, by simp [intOf]⟩
        · have HT2 := Lib.hid hT2
          have HTT2 := Lib.hid ht2
          obtain ⟨c1, c2, c3, c4⟩ := HQ.out _ ht2
          clear hT2 ht2
          go_wp2_with (go_at_call 53; refine (refrest_any wr h dg wg mg q p mq mp mc _ (X.rest l) Y S T HT2.out (Nat.le_trans hhW HTT2.out.size) hY hc3).mono ?_; rintro e w3 ⟨rfl, hT3, ht3⟩; rw [← HLT.out] at hT3; have HT3 := Lib.hid hT3; have HTT3 := Lib.hid ht3; clear hT3 ht3)
          have HE := Lib.hid (World1.end_ HT3.out (HTT2.out.then_ HTT3.out) HBW.out (fun k hk => .inl hk) HT.out.avd)
          go_end0
          exact ⟨rfl, HE.out.1, HE.out.2⟩
end Go.Proofs.YtdmcjomcbhdcbaaGreat
namespace Go.Proofs.YtdmcjomcbhdcbaaGreat
open Go.RowKit Go.Maps

theorem do_map (w : World) (h dg dc wg wc mg mc q p mq mp : Nat) (Av : Nat → Prop) (X Y : Wnd) (S T : Drv) (hT : World1 w h Av dg wg mg q p mq mp X S Y T) (hh : h ≤ w.heap.size) (hcap : Caps dc wc mc) (x : PAct) (L : ALay) (hin : ActIn w h Av x L) (hx : x.kind ≠ 7 ∧ x.kind ≠ 8 ∧ x.kind ≠ 9) {k N r k2 N2 r2 : Nat} (hK : KeptM X S k N r) (hK2 : KeptM Y T k2 N2 r2) :
    Calls Tryz.prog 23 #[bothV dg dc wg wc mg mc, .agg (actCells x L)] w fun e w' => e = .returned (.tuple #[]) ∧ (∃ X' S' Y' T', KeptM X' S' k N r ∧ KeptM Y' T' k2 N2 r2 ∧ World1 w' h Av dg wg mg q p mq mp X' S' Y' T' ∧ ((x.kind ≠ 6 ∧ S' = S) ∨ (x.kind = 6 ∧ ∃ dirs cuts, S' = S.crash dirs cuts))) ∧ Touch (fr h Av) w w' := by
  have hok := hK.k.wnd
  have hok2 := hK2.k.wnd
  by_cases k1 : x.kind = 1
  · refine (do_arm w h dg dc wg wc mg mc q p mq mp Av X Y S T hT hh hcap x L k1 hin.pr hin.pa (by have := hin.pn; omega)).mono ?_
    rintro e w' ⟨he, h1, h2⟩
    exact ⟨he, ⟨_, _, _, _, hK.wnd (hok.arm x.plan (by have := hin.pn; omega)), hK2.wnd (hok2.arm x.plan (by have := hin.pn; omega)), h1, .inl ⟨by omega, rfl⟩⟩, h2⟩
  by_cases k2 : x.kind = 2
  · refine (do_offline w h dg dc wg wc mg mc q p mq mp Av X Y S T hT hh hcap x L k2).mono ?_
    rintro e w' ⟨he, h1, h2⟩
    exact ⟨he, ⟨_, _, _, _, hK.wnd (hok.away true), hK2.wnd (hok2.away true), h1, .inl ⟨by omega, rfl⟩⟩, h2⟩
  by_cases k3 : x.kind = 3
  · refine (do_online w h dg dc wg wc mg mc q p mq mp Av X Y S T hT hh hcap x L k3).mono ?_
    rintro e w' ⟨he, h1, h2⟩
    exact ⟨he, ⟨_, _, _, _, hK.wnd (hok.away false), hK2.wnd (hok2.away false), h1, .inl ⟨by omega, rfl⟩⟩, h2⟩
  by_cases k4 : x.kind = 4
  · refine (do_fuse w h dg dc wg wc mg mc q p mq mp Av X Y S T hT hh hcap x L k4).mono ?_
    rintro e w' ⟨he, h1, h2⟩
    exact ⟨he, ⟨_, _, _, _, hK.wnd (hok.fused x.round x.call x.inside hin.rr), hK2.wnd (hok2.fused x.round x.call x.inside hin.rr), h1, .inl ⟨by omega, rfl⟩⟩, h2⟩
  by_cases k5 : x.kind = 5
  · refine (do_off2 w h dg dc wg wc mg mc q p mq mp Av X Y S T hT hh hcap x L k5).mono ?_
    rintro e w' ⟨he, h1, h2⟩
    exact ⟨he, ⟨_, _, _, _, hK.wnd (hok.down true), hK2.wnd (hok2.down true), h1, .inl ⟨by omega, rfl⟩⟩, h2⟩
  by_cases k6 : x.kind = 6
  · obtain ⟨pr, nd, cr, dirs, pcu, nc, cc, cuts, hf, hn⟩ := hin.ft
    refine (do_on2 w h dg dc wg wc mg mc q p mq mp Av X Y S T hT hh hcap x L k6 hK hK2 pr nd cr dirs pcu nc cc cuts hf hn).mono ?_
    rintro e w' ⟨he, h1, h2⟩
    exact ⟨he, ⟨_, _, _, _, (hK.crash dirs cuts).wnd (hok.down false), (hK2.crash dirs cuts).wnd (hok2.down false), h1, .inr ⟨k6, dirs, cuts, rfl⟩⟩, h2⟩
  · refine (do_other2 w h dg dc wg wc mg mc q p mq mp Av X Y S T hT hcap x L ⟨k1, k2, k3, k4, k5, k6, hx.1, hx.2.1, hx.2.2⟩).mono ?_
    rintro e w' ⟨he, h1, h2⟩
    exact ⟨he, ⟨_, _, _, _, hK, hK2, h1, .inl ⟨k6, rfl⟩⟩, h2⟩
end Go.Proofs.YtdmcjomcbhdcbaaGreat
namespace Go.Proofs.YtdmcjomcbhdcbaaGreat
open Go.RowKit Go.Maps

structure May where
  name : Nm
  absent : Bool
  values : List (List UInt8)
abbrev Book := List May
namespace Book
def allows (b : Book) (s : Nm) : Option (List UInt8) → Prop
  | none => ∀ m ∈ b, m.name = s → m.absent = true
  | some d => ∃ m ∈ b, m.name = s ∧ d ∈ m.values
def Ok (b : Book) : Prop := (b.map May.name).Nodup
/-- The place of a name; behind all, where there is none. -/
def idx : Book → Nm → Nat
  | [], _ => 0
  | m :: r, s => if m.name = s then 0 else idx r s + 1
def place (b : Book) (s : Nm) : Book := if idx b s < b.length then b else b ++ [⟨s, true, []⟩]
theorem idx_le : ∀ (b : Book) (s : Nm), idx b s ≤ b.length
  | [], _ => Nat.le_refl _
  | m :: r, s => by
    unfold idx
    split
    · exact Nat.zero_le _
    · have := idx_le r s; simp only [List.length_cons]; omega
theorem idx_at : ∀ (b : Book) (s : Nm), idx b s < b.length → ∃ m, b[idx b s]? = some m ∧ m.name = s
  | [], _, h => absurd h (by simp)
  | m :: r, s, h => by
    unfold idx at h ⊢
    split
    · rename_i e; exact ⟨m, rfl, e⟩
    · rename_i e
      rw [if_neg e] at h
      obtain ⟨m', h1, h2⟩ := idx_at r s (by simpa using h)
      exact ⟨m', by simpa using h1, h2⟩
theorem idx_low : ∀ (b : Book) (s : Nm) (j : Nat) (m : May), j < idx b s → b[j]? = some m → m.name ≠ s
  | [], _, _, _, h, _ => absurd h (by simp [idx])
  | m :: r, s, j, m', h, hj => by
    unfold idx at h
    split at h
    · exact absurd h (Nat.not_lt_zero _)
    · rename_i e
      cases j with
      | zero => injection hj with hj; subst hj; exact e
      | succ j => exact idx_low r s j m' (by omega) (by simpa using hj)
theorem place_at (b : Book) (s : Nm) : ∃ m, (place b s)[idx b s]? = some m ∧ m.name = s := by
  unfold place
  split
  · rename_i h; exact idx_at b s h
  · rename_i h
    have he : idx b s = b.length := by have := idx_le b s; omega
    rw [he, List.getElem?_append_right (Nat.le_refl _)]
    simp
theorem not_mem_idx {b : Book} {s : Nm} (h : ¬ idx b s < b.length) : ∀ m ∈ b, m.name ≠ s := fun m hm => by
  obtain ⟨j, hj⟩ := List.getElem?_of_mem hm
  have hl := (List.getElem?_eq_some_iff.1 hj).1
  exact idx_low b s j m (by omega) hj
theorem place_ok {b : Book} (h : Ok b) (s : Nm) : Ok (place b s) := by
  unfold place
  split
  · exact h
  · rename_i hn
    unfold Ok at h ⊢
    rw [List.map_append, List.nodup_append]
    refine ⟨h, by simp, fun a ha c hc e => ?_⟩
    simp at hc
    subst hc e
    obtain ⟨m, hm, e⟩ := List.mem_map.1 ha
    exact not_mem_idx hn m hm e
theorem place_allows {b : Book} (s : Nm) {s' : Nm} {y : Option (List UInt8)} (h : allows b s' y) : allows (place b s) s' y := by
  unfold place
  split
  · exact h
  · cases y with
    | none =>
      intro m hm e
      rcases List.mem_append.1 hm with hm | hm
      · exact h m hm e
      · simp at hm; subst hm; rfl
    | some d =>
      obtain ⟨m, hm, h1, h2⟩ := h
      exact ⟨m, List.mem_append_left _ hm, h1, h2⟩
theorem set_mem {c : Book} (h : Ok c) {i : Nat} {m0 m' : May} (hi : c[i]? = some m0) (hn : m'.name = m0.name) (m : May) : m ∈ c.set i m' ↔ m = m' ∨ (m ∈ c ∧ m.name ≠ m0.name) := by
  have hil := (List.getElem?_eq_some_iff.1 hi).1
  constructor
  · intro hm
    obtain ⟨j, hj⟩ := List.getElem?_of_mem hm
    rw [List.getElem?_set] at hj
    split at hj
    · first
        | (injection hj with hj; exact .inl hj.symm)
        | (split at hj; (injection hj with hj; exact .inl hj.symm); cases hj)
    · rename_i hne
      refine .inr ⟨List.mem_of_getElem? hj, fun e => ?_⟩
      have hjl := (List.getElem?_eq_some_iff.1 hj).1
      have g1 : (c.map May.name)[i]? = some m0.name := by rw [List.getElem?_map, hi]; rfl
      have g2 : (c.map May.name)[j]? = some m.name := by rw [List.getElem?_map, hj]; rfl
      have := (List.getElem?_inj (by simpa using hil) h).1 (g1.trans (by rw [g2, e]))
      exact hne this
  · rintro (rfl | ⟨hm, hne⟩)
    · exact List.mem_of_getElem? (i := i) (by rw [List.getElem?_set_self hil])
    · obtain ⟨j, hj⟩ := List.getElem?_of_mem hm
      have hji : i ≠ j := fun e => by
        subst e
        rw [hi] at hj
        injection hj with hj
        subst hj
        exact hne rfl
      exact List.mem_of_getElem? (i := j) (by rw [List.getElem?_set_ne hji]; exact hj)
theorem set_ok {c : Book} (h : Ok c) {i : Nat} {m0 m' : May} (hi : c[i]? = some m0) (hn : m'.name = m0.name) : Ok (c.set i m') := by
  have e : (c.set i m').map May.name = c.map May.name := by
    rw [List.map_set, hn]
    refine List.ext_getElem? fun j => ?_
    rw [List.getElem?_set]
    split
    · rename_i hj
      subst hj
      have hil := (List.getElem?_eq_some_iff.1 hi).1
      rw [if_pos (by simpa using hil), List.getElem?_map, hi]; rfl
    · rfl
  unfold Ok
  rw [e]; exact h

/-- The entry of a name, as the book has it. -/
def ent (b : Book) (s : Nm) : May := (place b s).getD (idx b s) ⟨s, true, []⟩
theorem ent_at (b : Book) (s : Nm) : (place b s)[idx b s]? = some (ent b s) ∧ (ent b s).name = s := by
  obtain ⟨m, h1, h2⟩ := place_at b s
  have e : ent b s = m := by unfold ent; rw [List.getD, h1]; rfl
  rw [e]; exact ⟨h1, h2⟩
def wrote (b : Book) (s : Nm) (d : List UInt8) (done : Bool) : Book :=
  if done = true then (place b s).set (idx b s) ⟨s, false, [d]⟩
  else if (ent b s).values.contains d = true then place b s
  else (place b s).set (idx b s) ⟨(ent b s).name, (ent b s).absent, (ent b s).values ++ [d]⟩
def took (b : Book) (s : Nm) (done : Bool) : Book :=
  if done = true then (place b s).set (idx b s) ⟨s, true, []⟩
  else (place b s).set (idx b s) ⟨(ent b s).name, true, (ent b s).values⟩
theorem wrote_ok {b : Book} (h : Ok b) (s : Nm) (d : List UInt8) (done : Bool) : Ok (wrote b s d done) := by
  obtain ⟨h1, h2⟩ := ent_at b s
  unfold wrote
  split
  · exact set_ok (place_ok h s) h1 h2.symm
  · split
    · exact place_ok h s
    · exact set_ok (place_ok h s) h1 rfl
theorem took_ok {b : Book} (h : Ok b) (s : Nm) (done : Bool) : Ok (took b s done) := by
  obtain ⟨h1, h2⟩ := ent_at b s
  unfold took
  split
  · exact set_ok (place_ok h s) h1 h2.symm
  · exact set_ok (place_ok h s) h1 rfl
/-- Another entry for a name: the others stay. -/
theorem set_other {b : Book} (h : Ok b) {s : Nm} (m' : May) (hn : m'.name = s) {s' : Nm} {y : Option (List UInt8)} (hs : s' ≠ s) (ha : allows b s' y) : allows ((place b s).set (idx b s) m') s' y := by
  obtain ⟨h1, h2⟩ := ent_at b s
  have hm := set_mem (place_ok h s) h1 (hn.trans h2.symm)
  have hp := place_allows s ha
  cases y with
  | none =>
    intro m hmm e
    rcases (hm m).1 hmm with rfl | ⟨h3, _⟩
    · exact absurd (e.symm.trans hn) hs
    · exact hp m h3 e
  | some d =>
    obtain ⟨m, h3, h4, h5⟩ := hp
    exact ⟨m, (hm m).2 (.inr ⟨h3, by rw [h4, h2]; exact hs⟩), h4, h5⟩
theorem wrote_true {b : Book} (h : Ok b) {s s' : Nm} {d : List UInt8} {y : Option (List UInt8)} (ho : s' ≠ s → allows b s' y) (hs : s' = s → y = some d) : allows (wrote b s d true) s' y := by
  obtain ⟨h1, h2⟩ := ent_at b s
  unfold wrote
  rw [if_pos rfl]
  by_cases e : s' = s
  · subst e
    rw [hs rfl]
    exact ⟨⟨s', false, [d]⟩, (set_mem (place_ok h s') h1 h2.symm _).2 (.inl rfl), rfl, by simp⟩
  · exact set_other h ⟨s, false, [d]⟩ rfl e (ho e)
theorem wrote_false {b : Book} (h : Ok b) {s s' : Nm} {d : List UInt8} {y : Option (List UInt8)} (ha : allows b s' y ∨ s' = s ∧ y = some d) : allows (wrote b s d false) s' y := by
  obtain ⟨h1, h2⟩ := ent_at b s
  have hmem := List.mem_of_getElem? h1
  unfold wrote
  rw [if_neg (by decide)]
  split
  · rename_i hc
    rcases ha with ha | ⟨rfl, rfl⟩
    · exact place_allows s ha
    · exact ⟨ent b s', hmem, h2, by simpa using hc⟩
  · by_cases e : s' = s
    · subst e
      have hm := set_mem (place_ok h s') h1 (m' := ⟨(ent b s').name, (ent b s').absent, (ent b s').values ++ [d]⟩) rfl
      rcases ha with ha | ⟨_, rfl⟩
      · have hp := place_allows s' ha
        cases y with
        | none =>
          intro m hmm e
          rcases (hm m).1 hmm with rfl | ⟨h3, h4⟩
          · exact hp (ent b s') hmem h2
          · exact hp m h3 e
        | some c =>
          obtain ⟨m, h3, h4, h5⟩ := hp
          refine ⟨_, (hm _).2 (.inl rfl), h2, ?_⟩
          by_cases e : m.name = (ent b s').name
          · have hj : m = ent b s' := by
              obtain ⟨j, hj⟩ := List.getElem?_of_mem h3
              have g1 : ((place b s').map May.name)[idx b s']? = some (ent b s').name := by rw [List.getElem?_map, h1]; rfl
              have g2 : ((place b s').map May.name)[j]? = some m.name := by rw [List.getElem?_map, hj]; rfl
              have hil := (List.getElem?_eq_some_iff.1 h1).1
              have := (List.getElem?_inj (by simpa using hil) (place_ok h s')).1 (g1.trans (by rw [g2, e]))
              rw [← this, h1] at hj
              injection hj with hj
              exact hj.symm
            subst hj
            exact List.mem_append_left _ h5
          · exact absurd (h4.trans h2.symm) e
      · exact ⟨_, (hm _).2 (.inl rfl), h2, by simp⟩
    · rcases ha with ha | ⟨e2, _⟩
      · exact set_other h ⟨(ent b s).name, (ent b s).absent, (ent b s).values ++ [d]⟩ h2 e ha
      · exact absurd e2 e
theorem took_true {b : Book} (h : Ok b) {s s' : Nm} {y : Option (List UInt8)} (ho : s' ≠ s → allows b s' y) (hs : s' = s → y = none) : allows (took b s true) s' y := by
  obtain ⟨h1, h2⟩ := ent_at b s
  unfold took
  rw [if_pos rfl]
  by_cases e : s' = s
  · subst e
    rw [hs rfl]
    intro m hmm e
    rcases (set_mem (place_ok h s') h1 h2.symm m).1 hmm with rfl | ⟨h3, h4⟩
    · rfl
    · exact absurd (e.trans h2.symm) h4
  · exact set_other h ⟨s, true, []⟩ rfl e (ho e)
theorem took_false {b : Book} (h : Ok b) {s s' : Nm} {y : Option (List UInt8)} (ha : allows b s' y ∨ s' = s ∧ y = none) : allows (took b s false) s' y := by
  obtain ⟨h1, h2⟩ := ent_at b s
  have hmem := List.mem_of_getElem? h1
  unfold took
  rw [if_neg (by decide)]
  by_cases e : s' = s
  · subst e
    have hm := set_mem (place_ok h s') h1 (m' := ⟨(ent b s').name, true, (ent b s').values⟩) rfl
    cases y with
    | none =>
      intro m hmm e
      rcases (hm m).1 hmm with rfl | ⟨h3, h4⟩
      · rfl
      · exact absurd (e.trans h2.symm) h4
    | some c =>
      rcases ha with ha | ⟨_, e2⟩
      · obtain ⟨m, h3, h4, h5⟩ := place_allows s' ha
        have hj : m = ent b s' := by
          obtain ⟨j, hj⟩ := List.getElem?_of_mem h3
          have g1 : ((place b s').map May.name)[idx b s']? = some (ent b s').name := by rw [List.getElem?_map, h1]; rfl
          have g2 : ((place b s').map May.name)[j]? = some m.name := by rw [List.getElem?_map, hj]; rfl
          have hil := (List.getElem?_eq_some_iff.1 h1).1
          have := (List.getElem?_inj (by simpa using hil) (place_ok h s')).1 (g1.trans (by rw [g2, h4, h2]))
          rw [← this, h1] at hj
          injection hj with hj
          exact hj.symm
        subst hj
        exact ⟨_, (hm _).2 (.inl rfl), h2, h5⟩
      · cases e2
  · rcases ha with ha | ⟨e2, _⟩
    · exact set_other h ⟨(ent b s).name, true, (ent b s).values⟩ h2 e ha
    · exact absurd e2 e

/-- Does the book bear these files? -/
def holds (b : Book) (fs : List File) : Prop :=
  (∀ f ∈ fs, f.1 = [116] ∨ ∃ m ∈ b, m.name = f.1 ∧ f.2 ∈ m.values) ∧ ∀ m ∈ b, m.name = [116] ∨ m.absent = true ∨ fileOf fs m.name ≠ none
theorem holds_of {b : Book} {fs : List File} (h : ∀ s, s ≠ [116] → allows b s (fileOf fs s)) (hown : ∀ (k : Nat) (f : File), fs[k]? = some f → fileOf fs f.1 = some f.2) : holds b fs := by
  refine ⟨fun f hf => ?_, fun m hm => ?_⟩
  · by_cases e : f.1 = [116]
    · exact .inl e
    · obtain ⟨k, hk⟩ := List.getElem?_of_mem hf
      have := h f.1 e
      rw [hown k f hk] at this
      exact .inr this
  · by_cases e : m.name = [116]
    · exact .inl e
    · have := h m.name e
      cases hf : fileOf fs m.name with
      | none => rw [hf] at this; exact .inr (.inl (this m hm rfl))
      | some d => exact .inr (.inr (by simp))
def settled (fs : List File) : Book := fs.map fun f => ⟨f.1, false, [f.2]⟩
theorem settled_ok {S : Drv} {N : Nat} (h : S.Inv N) : Ok (settled S.image) := by
  unfold Ok settled Drv.image
  rw [List.map_map, List.map_map]
  show (List.map (fun s => s) (dnames S.now)).Nodup
  rw [List.map_id']
  exact dnames_nodup h.know h.tnow
theorem settled_allows {S : Drv} {N : Nat} (h : S.Inv N) (s : Nm) : allows (settled S.image) s (S.shows s) := by
  rw [← image_shows h]
  cases hf : fileOf S.image s with
  | none =>
    intro m hm e
    obtain ⟨f, hfm, rfl⟩ := List.mem_map.1 hm
    obtain ⟨k, hk⟩ := List.getElem?_of_mem hfm
    have := image_own k f hk
    have e' : f.1 = s := e
    rw [e', hf] at this
    cases this
  | some d =>
    rcases atI_cases S.image s with ⟨_, h2⟩ | ⟨k, f, _, h2, h3, h4⟩
    · rw [hf] at h2; cases h2
    · rw [hf] at h4
      injection h4 with h4
      exact ⟨_, List.mem_map.2 ⟨f, List.mem_of_getElem? h2, rfl⟩, h3, by simp [h4]⟩
end Book

/-- A removal, of what may come. -/
theorem Holds.remove {S T : Drv} {P : Nm → Option (List UInt8) → Prop} {N : Nat} {x : Int} {nm : Nm} (h : Holds S P) (hI : S.Inv N) (hr : S.remove nm = (T, x)) : Holds T (fun s y => P s y ∨ s = nm ∧ y = none) := by
  unfold Drv.remove at hr
  split at hr
  · injection hr with hr _; subst hr
    exact h.mono fun s y _ hy => .inl hy
  · injection hr with hr _; subst hr
    have hd : ∀ s, dget (applyC S.now [(nm, none)]) s = if s = nm then none else dget S.now s := fun s => dget_stp hI.tnow nm none s
    refine h.change hI.tnow _ (fun s y _ hy => .inl hy) (fun s o ho hs => ?_) fun s hs => ?_
    · simp only [List.mem_singleton, Prod.mk.injEq] at ho
      obtain ⟨rfl, rfl⟩ := ho
      exact ⟨.inr ⟨rfl, rfl⟩, fun i e => by cases e⟩
    · by_cases e : s = nm
      · subst e
        exact .inr ⟨none, by simp, by rw [hd, if_pos rfl]⟩
      · exact .inl (by rw [hd, if_neg e])
theorem Holds.wsync {X Y : Wnd} {S T : Drv} {P : Nm → Option (List UInt8) → Prop} {x : Int} (h : Holds S P) (hy : wcall X S false (S.syncDir, 0) = (Y, T, x)) : Holds T P ∧ (x = 0 → Holds T (fun s y => y = T.shows s)) ∧ ∀ s, T.shows s = S.shows s := by
  rcases (wcall_cases hy).2 with ⟨e, e2, _⟩ | ⟨e, e2, _⟩
  · subst e
    exact ⟨h.syncDir.mono fun s y _ hy => hy.1, fun _ => h.syncDir.mono fun s y _ hy => hy.2, fun s => rfl⟩
  · subst e
    exact ⟨h, fun e => absurd e e2, fun s => rfl⟩
theorem aremove_holds {X Y : Wnd} {S T : Drv} {P : Nm → Option (List UInt8) → Prop} {nm : Nm} {x : Int} {c N r : Nat} (hK : Kept X S c N r) (h : Holds S P) (hy : aremove X S nm = (Y, T, x)) :
    Holds T (fun s y => P s y ∨ s = nm ∧ y = none) ∧ (x = 0 → Holds T (fun s y => y = T.shows s)) := by
  obtain ⟨X1, S1, x1, h1⟩ : ∃ a b c, wcall X S false (S.remove nm) = (a, b, c) := ⟨_, _, _, rfl⟩
  obtain ⟨Sr, xr, hr⟩ : ∃ a b, S.remove nm = (a, b) := ⟨_, _, rfl⟩
  have hc := (wcall_cases h1).2
  rw [hr] at hc
  have hH : Holds S1 (fun s y => P s y ∨ s = nm ∧ y = none) := by
    rcases hc with ⟨e, _, _⟩ | ⟨e, _, _⟩
    · rw [e]; exact h.remove hK.drv hr
    · rw [e]; exact h.mono fun s y _ hy => .inl hy
  unfold aremove at hy
  rw [h1] at hy
  simp only at hy
  split at hy
  · rename_i h0
    simp only [Prod.mk.injEq] at hy
    obtain ⟨rfl, rfl, rfl⟩ := hy
    exact ⟨hH, fun e => absurd e h0.1⟩
  · have := hH.wsync hy
    exact ⟨this.1, this.2.1⟩
theorem asweep_holds {X Y : Wnd} {S T : Drv} {P : Nm → Option (List UInt8) → Prop} {n x : Int} {c N r : Nat} (hK : KeptM X S c N r) (h : Holds S P) (hy : asweep X S = (Y, T, n, x)) : Holds T P := by
  have hEnd : ∀ (X1 : Wnd) (S1 : Drv) (m : Int), Holds S1 P → asweepEnd X1 S1 m = (Y, T, n, x) → Holds T P := fun X1 S1 m hH he => by
    unfold asweepEnd at he
    obtain ⟨X2, S2, x2, h2⟩ : ∃ a b c, wcall X1 S1 false (S1.syncDir, 0) = (a, b, c) := ⟨_, _, _, rfl⟩
    have hw := (hH.wsync h2).1
    rw [h2] at he
    simp only at he
    split at he
    · simp only [Prod.mk.injEq] at he
      obtain ⟨_, rfl, _, _⟩ := he
      exact hw
    · simp only [Prod.mk.injEq] at he
      obtain ⟨_, rfl, _, _⟩ := he
      exact hw
  unfold asweep at hy
  split at hy
  · simp only [Prod.mk.injEq] at hy
    obtain ⟨_, rfl, _, _⟩ := hy
    exact h
  · split at hy
    · generalize (wread X (dnames S.now, (0 : Int))).1 = X1 at hy
      obtain ⟨X2, S2, x2, h2⟩ : ∃ a b c, wcall X1 S false (S.remove [116]) = (a, b, c) := ⟨_, _, _, rfl⟩
      obtain ⟨Sr, xr, hr⟩ : ∃ a b, S.remove [116] = (a, b) := ⟨_, _, rfl⟩
      have hc := (wcall_cases h2).2
      rw [hr] at hc
      have hH : Holds S2 P := by
        rcases hc with ⟨e, _, _⟩ | ⟨e, _, _⟩
        · rw [e]
          exact (h.remove hK.k.drv hr).mono fun s y hs hy => hy.resolve_right fun e => hs e.1
        · rw [e]; exact h
      rw [h2] at hy
      simp only at hy
      split at hy
      · simp only [Prod.mk.injEq] at hy
        obtain ⟨_, rfl, _, _⟩ := hy
        exact hH
      · exact hEnd _ _ _ hH hy
    · exact hEnd _ _ _ h hy
/-- Behind a loss of power all is safe. -/
theorem crash_safe {S : Drv} {N : Nat} (hI : S.Inv N) (dirs : List Bool) (cuts : List Int) : AllSafe (S.crash dirs cuts) := by
  intro i hi
  unfold Drv.crash Drv.crashAt at hi ⊢
  generalize S.crashK dirs S.pending.length = D at hi ⊢
  unfold Drv.body
  simp only [List.length_map, List.length_range] at hi
  have e : (((List.range (dnames D).length).map (S.crashBody D cuts)).getD i ⟨[], 0⟩) = S.crashBody D cuts i := by
    rw [List.getD, List.getElem?_map, List.getElem?_range hi]; rfl
  show (((List.range (dnames D).length).map (S.crashBody D cuts)).getD i ⟨[], 0⟩).safe = (((List.range (dnames D).length).map (S.crashBody D cuts)).getD i ⟨[], 0⟩).data.length
  rw [e]
  unfold Drv.crashBody
  show S.cutN D cuts i = ((S.at_ D ((dnames D).getD i [])).data.take (S.cutN D cuts i)).length
  rw [List.length_take]
  have hs : (S.at_ D ((dnames D).getD i [])).safe ≤ (S.at_ D ((dnames D).getD i [])).data.length := hI.safe _
  unfold Drv.cutN
  omega
theorem crash_settled {S : Drv} {N : Nat} (hI : S.Inv N) (dirs : List Bool) (cuts : List Int) : Holds (S.crash dirs cuts) (fun s y => y = (S.crash dirs cuts).shows s) :=
  holds_plain (Drv.crash_inv hI dirs cuts) rfl rfl (crash_safe hI dirs cuts)
end Go.Proofs.YtdmcjomcbhdcbaaGreat
